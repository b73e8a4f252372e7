/-
  The statement 'for .. := range lines(..)'.
-/
import Derived.Test.YtbhdfmkcoolghaaDoorU5
set_option linter.unusedVariables false
set_option linter.unusedSimpArgs false
namespace Go.Proofs.YtbhdfmkcoolghaaDoor
open Go Go.Am Go.RowKit

theorem enter_opq {B : Nat} {w0 : World} {E : Env} {h : Heap} {w : World} (r : Rel B w0 E h w) (o : Obj) :
    ∃ E', Keeps h.length E E' ∧ E'.ρ h.length = some (w.heap.size, 0) ∧ Rel B w0 E' (h ++ [.opq o]) (w.alloc o) := by
  have r1 : Rel B w0 E h (w.alloc o) := r.world ((Below.refl _ _).alloc (Nat.le_refl _) _)
  have hfree : E.ρ h.length = none := by
    cases hx : E.ρ h.length with
    | none => rfl
    | some x => exact absurd (r.dom _ x hx) (Nat.lt_irrefl _)
  have hle : E.le ⟨E.C, fun b => if b = h.length then some (w.heap.size, 0) else E.ρ b⟩ := ⟨fun _ _ _ h => h, fun b x hx => by
    dsimp only; split
    · rename_i e; subst e; rw [hfree] at hx; cases hx
    · exact hx⟩
  have r2 := r1.reserve 1
  obtain ⟨_, h2⟩ := r2.enter h.length (by simp) hfree w.heap.size 0 (.opq o) E.C (fun _ _ _ h => h) r2.prot
    (fun b e' he hd g' c' hρ => by
      rw [List.getElem?_append] at he
      split at he
      · obtain ⟨g1, c1, k1, k2⟩ := r.live b e' he hd
        rw [hρ] at k1; injection k1 with k1; injection k1 with k1 _; subst k1
        exact ⟨Nat.ne_of_lt (k2.lt hd).1, fun _ => rfl⟩
      · have := List.mem_of_getElem? he
        simp at this
        exact absurd this hd)
    ⟨r.bsz, heap_alloc_new _ _⟩
  refine ⟨_, ⟨hle, fun b hb => ?_⟩, by simp, ?_⟩
  · dsimp only
    rw [if_neg (by omega)]
  · simpa using h2

section
variable {B : Nat} {w0 : World} {dn nt : Nat}
abbrev busy (rec : Loop) : AE := .opq (.loop { rec with state := .busy })
/-- One round, by what the machine tells of its two pieces. -/
theorem round_wp {L kL : Nat} {rec : Loop} {E : Env} {h : Heap} {W : World} {tm : Array Value} {σx : Slots} {R : Ex → Heap → Prop}
    (hrel : Rel B w0 E h W) (hk : h[kL]? = some (.opq (.loop rec))) (hρ : E.ρ kL = some (L, 0)) (hst : rec.state = .ready)
    (hs : SR E { tmps := tm, defers := [] } σx) (hsz : nt ≤ tm.size) (pa : plainC rec.assign = true) (pb : plainC rec.body = true)
    (hw : Wp M0 (compileC Tryd.prog MT nt rec.assign) (fun e1 σ1 h1 => e1 = .normal ∧ h1[kL]? = some (.opq (.loop rec)) ∧
      Wp M0 (compileC Tryd.prog MT nt rec.body) (fun ex σ2 h2 => h2[kL]? = some (busy rec) ∧ R ex h2) σ1 (h1.set kL (busy rec))) σx h) :
    RoundIn (RF none) dn Tryd.prog L rec.fn tm rec.assign rec.body W fun e W' => ∃ ex h2 E', e = .returned (.bool ex.jump.isNone) ∧ R ex h2 ∧ h2[kL]? = some (busy rec) ∧ Keeps h.length E E' ∧ h.length ≤ h2.length ∧ Rel B w0 E' (h2.set kL (.opq (.loop (recEnd rec ex)))) W' := by
  have hlt : kL < h.length := (List.getElem?_eq_some_iff.1 hk).1
  refine roundIn_of_wpIn trivial ?_
  refine wpIn_mono (m_sim (ro := some L) (dn := dn) pa hw ⟨hs, hsz, rfl, hrel⟩) ?_
  rintro e a1 W1 ⟨e1, σ1, h1, E1, rfl, ⟨rfl, hk1, hw1⟩, s1, k1, gr1⟩
  have hρ1 : E1.ρ kL = some (L, 0) := by rw [k1.2 kL hlt]; exact hρ
  obtain ⟨hL1, hrel2⟩ := turn_opq s1.rel (.loop { rec with state := .busy }) hk1 hρ1 rfl
  refine ⟨_, run_beginRound hL1 hst, ?_⟩
  refine wpIn_mono (m_sim (ro := some L) (dn := dn) pb hw1 ⟨s1.sr, s1.size, s1.defers, hrel2⟩) ?_
  rintro e a2 W2 ⟨ex, σ2, h2, E2, rfl, ⟨hk2, hR⟩, s2, k2, gr2⟩
  have hlt1 : h.length ≤ h1.length := gr1.1
  have hlt2 : h1.length ≤ h2.length := by have := gr2.1; simpa using this
  have hρ2 : E2.ρ kL = some (L, 0) := by rw [k2.2 kL (by simp; omega)]; exact hρ1
  obtain ⟨hL2, hrel3⟩ := turn_opq s2.rel (.loop (recEnd rec ex)) hk2 hρ2 rfl
  have hkeep : Keeps h.length E E2 := k1.trans k2 (by simpa using hlt1)
  have fin : ∀ j, ex.jump = j → ∃ v W', (Instr.endRound L j).run Tryd.prog W2 = .ok v W' ∧ ∃ ex' h2' E', Ending.returned v = .returned (.bool ex'.jump.isNone) ∧ R ex' h2' ∧ h2'[kL]? = some (busy rec) ∧ Keeps h.length E E' ∧ h.length ≤ h2'.length ∧ Rel B w0 E' (h2'.set kL (.opq (.loop (recEnd rec ex')))) W' := by
    intro j hj
    subst hj
    exact ⟨_, _, run_endRound _ hL2, ex, h2, E2, rfl, hR, hk2, hkeep, by omega, hrel3⟩
  cases ex with
  | normal => exact fin _ rfl
  | exit id => exact fin _ rfl
  | goto l => exact fin _ rfl
  | ret => exact fin _ rfl

def markD (d : Nat) : Deferred := { target := .collected d, args := #[] }
theorem call25 (args : Array Value) (w : World) : (callFunc 21 args).run Tryd.prog w = .ok (.enter 21 args) w := by
  have hn : ¬Tryd.f21.name = "runtime.NumGoroutine" := by decide
  simp [callFunc, f25_is, hn, f25_body]
theorem range_sim {E : Env} {a : Act} {w : World} {σ : Slots} {h : Heap} {b p1 p2 : Nat} {s : List UInt8} {r : Rt} {g : Operand} {gx : AX} {assign body : Code} {Q : Exit → Act → World → Prop}
    (hat : AtD Tryd.prog B w0 nt [] E a w σ h) (hgx : cx Tryd.prog 0 g = some gx) (hgv : gx.ev σ = .fn 21 [.ptr b 0]) (hr : ∀ t, r ≠ .tok t) (hb : h[b]? = some (.cells [.list 1 (ofBytes s) r])) (hlen : s.length ≤ 1000000000) (hp1 : p1 < nt) (hp2 : p2 < nt)
    (pa : plainC assign = true) (pb : plainC body = true) (I : List Item → Heap → Prop) (J : Ex → List Item → Heap → Prop)
    (hI : ∀ pre h1 h2, I pre h1 → AsWas b (h.length + 1) h1 h2 → I pre h2) (hJ : ∀ ex pre h1 h2, J ex pre h1 → AsWas b (h.length + 1) h1 h2 → J ex pre h2)
    (hI0 : ∀ o o', I [] (h ++ [.opq o, .opq o']))
    (hround : ∀ pre x post h' rec, linesP s = pre ++ x :: post → I pre h' → h.length + 2 ≤ h'.length → h'[h.length]? = some (.opq (.deferred (some []))) → h'[h.length + 1]? = some (.opq (.loop rec)) →
      Wp M0 (compileC Tryd.prog MT nt assign) (fun e1 σ1 h1 => e1 = .normal ∧ h1[h.length + 1]? = h'[h.length + 1]? ∧
        Wp M0 (compileC Tryd.prog MT nt body) (fun ex σ2 h2 => h2[h.length + 1]? = some (busy rec) ∧ h2[b]? = h'[b]? ∧ h2[h.length]? = h'[h.length]? ∧ (if ex.jump.isNone then ex = .normal ∧ I (pre ++ [x]) h2 else J ex (pre ++ [x]) h2)) σ1 (h1.set (h.length + 1) (busy rec)))
        (upd (upd σ p1 (.str x.1)) p2 (.bool x.2)) h')
    (hdone : ∀ E' a' w' h', AtD Tryd.prog B w0 nt [markD w.heap.size] E' a' w' σ h' → Keeps h.length E E' → E'.ρ h.length = some (w.heap.size, 0) → h'[h.length]? = some (.opq (.deferred (some []))) → h.length + 2 ≤ h'.length → I (linesP s) h' → Q .normal a' w')
    (hstop : ∀ ex c pre post E' a' w' h', ex.jump = some c → linesP s = pre ++ post → J ex pre h' → AtD Tryd.prog B w0 nt [markD w.heap.size] E' a' w' σ h' → Keeps h.length E E' → E'.ρ h.length = some (w.heap.size, 0) → h'[h.length]? = some (.opq (.deferred (some []))) → h.length + 2 ≤ h'.length → c.wpIn (RF none) dn Tryd.prog Q a' w') :
    (Code.rangeFunc g #[p1, p2] assign body).wpIn (RF none) dn Tryd.prog Q a w := by
  have hbl : b < h.length := (List.getElem?_eq_some_iff.1 hb).1
  obtain ⟨gb, gc, hev, hgb⟩ : ∃ gb gc, a.eval g = .func (.func 21) #[] #[.pointer (some ⟨gb, 0, none⟩)] ∧ E.ρ b = some (gb, gc) := by
    have := cx_sound hgx hat.sr
    rw [hgv] at this
    generalize a.eval g = u at this
    cases this with
    | fn _ cs _ h1 h2 =>
      have hsz : 0 < cs.size := by rw [h1]; simp
      have h3 := h2 0 cs[0] (.ptr b 0) (Array.getElem?_eq_getElem hsz) rfl
      generalize hu : cs[0] = u at h3
      cases h3 with
      | ptr _ _ g c hρ =>
        refine ⟨g, c, ?_, hρ⟩
        have : cs = #[.pointer (some ⟨g, 0, none⟩)] := by
          apply Array.ext
          · rw [h1]; rfl
          · intro i hi1 hi2
            have : i = 0 := by simp at hi2; exact hi2
            subst this
            exact hu
        rw [this]
  refine wpIn_rangeFunc ?_
  intro fn hfn
  obtain ⟨E1, k1, hρ1, hr1⟩ := enter_opq hat.rel (.deferred (some []))
  obtain ⟨rec, hrec⟩ : ∃ rec : Loop, rec = { state := .ready, pending := none, fn, tmps := a.tmps, params := #[p1, p2], assign, body, defers := w.heap.size } := ⟨_, rfl⟩
  obtain ⟨E2, k2, hρ2, hr2⟩ := enter_opq hr1 (.loop rec)
  rw [List.append_assoc] at hr2
  have hsz1 : (w.alloc (.deferred (some []))).heap.size = w.heap.size + 1 := World.size_alloc _ _
  rw [hsz1] at hρ2
  have hl1 : (h ++ [AE.opq (.deferred (some []))]).length = h.length + 1 := by simp
  rw [hl1] at k2 hρ2
  have k12 : Keeps h.length E E2 := k1.trans k2 (by omega)
  obtain ⟨W1, hW1⟩ : ∃ W1, W1 = (w.alloc (.deferred (some []))).alloc (.loop rec) := ⟨_, rfl⟩
  rw [← hW1] at hr2
  refine ⟨w.heap.size + 1, [markD w.heap.size], W1, { target := .fn (.func 21) #[.pointer (some ⟨gb, 0, none⟩)], args := #[.func (.yield (w.heap.size + 1)) #[] #[]] }, W1, 21,
    #[.func (.yield (w.heap.size + 1)) #[] #[], .pointer (some ⟨gb, 0, none⟩)], W1, (by rw [hW1, hrec]; exact run_enterLoop_outer _ _ _ _ _), ?_, fun _ _ => trivial, ?_, fun h => (by cases h), ?_⟩
  · simp only [resolve, hev]
    simp [go_sem]
  · simp [invoke, go_sem, call25]
  · have hps : rec.params.size = 2 := by rw [hrec]; rfl
    have hst : rec.state = .ready := by rw [hrec]
    have hpe : rec.pending = none := by rw [hrec]
    have hh0 : (h ++ ([AE.opq (.deferred (some []))] ++ [AE.opq (.loop rec)])).length = h.length + 2 := by simp
    have hkL : (h ++ ([AE.opq (.deferred (some []))] ++ [AE.opq (.loop rec)]))[h.length + 1]? = some (.opq (.loop rec)) := by simp [List.getElem?_append]
    have hkD : (h ++ ([AE.opq (.deferred (some []))] ++ [AE.opq (.loop rec)]))[h.length]? = some (.opq (.deferred (some []))) := by simp [List.getElem?_append]
    have hb2 : (h ++ ([AE.opq (.deferred (some []))] ++ [AE.opq (.loop rec)]))[b]? = some (.cells [.list 1 (ofBytes s) r]) := by rw [List.getElem?_append_left hbl]; exact hb
    refine (lines_calls (dn := dn - 1) (L := w.heap.size + 1) (kL := h.length + 1) (b := b) (g := gb) (gc := gc) (rec := rec) (s := s) ⟨hr2, hρ2, hkL, r, hr, hb2⟩ (by omega) (by rw [k12.2 b hbl]; exact hgb) hlen hst hpe hps
      (fun pre h' => I pre h' ∧ h'[h.length]? = some (.opq (.deferred (some [])))) (fun ex pre h' => J ex pre h' ∧ h'[h.length]? = some (.opq (.deferred (some [])))) ⟨hI0 _ _, hkD⟩ ?_ ?_).mono ?_
    · rintro pre h1 h2 ⟨i1, i2⟩ hw
      exact ⟨hI _ _ _ i1 hw, by rw [hw.2 _ (List.getElem?_eq_some_iff.1 i2).1 (by omega) (by omega)]; exact i2⟩
    · rintro pre x post rest E3 h3 W3 hx hmid k3 hle3 ⟨i1, i2⟩
      rw [hh0] at k3 hle3
      have htm : SR E3 { tmps := rTmps rec x.args, defers := [] } (upd (upd σ p1 (.str x.1)) p2 (.bool x.2)) ∧ nt ≤ (rTmps rec x.args).size := by
        have s0 : SR E3 { tmps := rec.tmps, defers := [] } σ := by
          rw [hrec]
          exact (SR.mono (Env.le_trans k12.1 k3.1) hat.sr)
        have hsz : nt ≤ rec.tmps.size := by rw [hrec]; exact hat.size
        have s1 := s0.put (d := some p1) (fun x hx => by injection hx with hx; subst hx; show _ < rec.tmps.size; omega) (v := .string ⟨⟨x.1⟩⟩) (.str x.1)
        have s2 := s1.put (d := some p2) (fun x hx => by injection hx with hx; subst hx; simp [Act.put]; omega) (v := .bool x.2) (.bool x.2)
        have e : rTmps rec x.args = ((({ tmps := rec.tmps, defers := [] } : Act).put (some p1) (.string ⟨⟨x.1⟩⟩)).put (some p2) (.bool x.2)).tmps := by
          simp [rTmps, Item.args, hrec, Act.put]
        rw [e]
        exact ⟨s2, by simp [Act.put]; omega⟩
      refine (round_wp (nt := nt) hmid.rel hmid.recd hmid.rho hst htm.1 htm.2 (by rw [hrec]; exact pa) (by rw [hrec]; exact pb) (R := fun ex h2 => h2[b]? = h3[b]? ∧ h2[h.length]? = h3[h.length]? ∧ (if ex.jump.isNone then ex = .normal ∧ I (pre ++ [x]) h2 else J ex (pre ++ [x]) h2)) ?_).mono ?_
      · have := hround pre x post h3 rec hx i1 hle3 i2 hmid.recd
        rw [show rec.assign = assign by rw [hrec], show rec.body = body by rw [hrec]]
        refine this.mono ?_
        rintro e1 σ1 h4 ⟨rfl, hk4, hw4⟩
        exact ⟨rfl, by rw [hk4]; exact hmid.recd, hw4⟩
      · rintro en W4 ⟨ex, h4, E4, rfl, ⟨b4, d4, j4⟩, k4, kk4, hl4, hr4⟩
        have hltk : h.length + 1 < h4.length := (List.getElem?_eq_some_iff.1 k4).1
        have hw := AsWas.rec b (h.length + 1) h4 (.opq (.loop (recEnd rec ex)))
        have hd : (h4.set (h.length + 1) (.opq (.loop (recEnd rec ex))))[h.length]? = some (.opq (.deferred (some []))) := by
          rw [List.getElem?_set_ne (by omega), d4]
          exact i2
        refine ⟨ex, E4, _, rfl, kk4, hr4, List.getElem?_set_self hltk, by rw [List.getElem?_set_ne (by omega)]; exact b4, by simp; omega, ?_⟩
        split
        · rename_i hj
          rw [if_pos hj] at j4
          exact ⟨j4.1, hI _ _ _ j4.2 hw, hd⟩
        · rename_i hj
          rw [if_neg hj] at j4
          exact ⟨hJ _ _ _ _ j4 hw, hd⟩
    · rintro en W4 ⟨⟨v, rfl⟩, ex, E4, h4, k4, hr4, hl4, hk4, hend⟩
      rw [hh0] at k4 hl4
      have hρ4 : E4.ρ (h.length + 1) = some (w.heap.size + 1, 0) := by rw [k4.2 _ (by omega)]; exact hρ2
      obtain ⟨hL4, hr5⟩ := turn_opq hr4 (.loop { recEnd rec ex with state := .exhausted }) hk4 hρ4 rfl
      have hnb : (recEnd rec ex).state ≠ .busy := by
        unfold recEnd
        dsimp only
        split <;> simp
      have hel := run_endLoop (P := Tryd.prog) hL4 hnb
      have hk5 : Keeps h.length E E4 := k12.trans k4 (by omega)
      have hρD : E4.ρ h.length = some (w.heap.size, 0) := by rw [k4.2 _ (by omega), k2.2 _ (by omega)]; exact hρ1
      have hat5 : AtD Tryd.prog B w0 nt [markD w.heap.size] E4 { a with defers := [markD w.heap.size] ++ a.defers } (W4.putObj (w.heap.size + 1) (.loop { recEnd rec ex with state := .exhausted })) σ (h4.set (h.length + 1) (.opq (.loop { recEnd rec ex with state := .exhausted }))) :=
        ⟨SR.mono hk5.1 hat.sr, hat.size, by show [markD w.heap.size] ++ a.defers = _; rw [hat.defers]; rfl, hr5⟩
      have hw := AsWas.rec b (h.length + 1) h4 (.opq (.loop { recEnd rec ex with state := .exhausted }))
      have hd5 : ∀ o, h4[h.length]? = some o → (h4.set (h.length + 1) (.opq (.loop { recEnd rec ex with state := .exhausted })))[h.length]? = some o := fun o ho => by rw [List.getElem?_set_ne (by omega)]; exact ho
      rcases hend with ⟨rfl, i1, i2⟩ | ⟨hj, pre, post, hp, j1, j2⟩
      · refine ⟨_, _, hel, ?_⟩
        exact hdone _ _ _ _ hat5 hk5 hρD (hd5 _ i2) (by simp; omega) (hI _ _ _ i1 hw)
      · obtain ⟨c, hc⟩ : ∃ c, ex.jump = some c := by
          cases hjj : ex.jump with
          | none => rw [hjj] at hj; cases hj
          | some c => exact ⟨c, rfl⟩
        have hpend : (recEnd rec ex).pending = some c := hc
        exact ⟨some c, _, hel.trans (congrArg (fun p => Result.ok p _) hpend), hstop ex c pre post _ _ _ _ hc hp (hJ _ _ _ _ j1 hw) hat5 hk5 hρD (hd5 _ j2) (by simp; omega)⟩

end
end Go.Proofs.YtbhdfmkcoolghaaDoor
