/-
  Cuts of texts and slices; bytes as a text.
-/
import Derived.Test.YtiobaboailhafaaAm5
import Derived.Lib.Strings
set_option linter.unusedVariables false
set_option linter.unusedSimpArgs false
namespace Go.Am
open Go Go.RowKit
section
variable {P : Program} {B : Nat} {w0 : World} {E : Env} {h h' : Heap} {a : Act} {w : World} {σ : Slots} {o : Oper} {key : Nat} {O : CallO} {v : AV} {ty : TypeId}

theorem optX_sound {x : Option Operand} {y : Option AX} (hc : optX P x = some y) (hs : SR E a σ) : (x = none ∧ y = none) ∨ ∃ u z, x = some u ∧ y = some z ∧ Rd E (a.eval u) (z.ev σ) := by
  cases x with
  | none => simp only [optX, Option.some.injEq] at hc; exact .inl ⟨rfl, hc.symm⟩
  | some u =>
    simp only [optX, Option.map_eq_some_iff] at hc
    obtain ⟨z, hz, rfl⟩ := hc
    exact .inr ⟨u, z, rfl, rfl, cx_sound hz hs⟩

/-- A bound of a cut: what it comes to, in the model and here. -/
theorem bnd_some {u : Value} {z : AX} (hr : Rd E u (z.ev σ)) {n d m : Nat} (hb : bnd σ (some z) n d = some m) : m ≤ n ∧ ∀ n' code, n ≤ n' → (Instr.sliceBound u n' code).run P w = .ok m w := by
  simp only [bnd] at hb
  split at hb
  · rename_i k i he
    rw [he] at hr
    rw [hr.inv_int]
    split at hb
    · rename_i hc
      injection hb with hb
      subst hb
      refine ⟨by omega, fun n' code hn => ?_⟩
      have : 0 ≤ i ∧ i ≤ (n' : Int) := by omega
      simp [Instr.sliceBound, asIntOf, this]
    · cases hb
  · cases hb

theorem bnd_none {n d m : Nat} (hb : bnd σ none n d = some m) : m = d := by
  simp only [bnd, Option.some.injEq] at hb
  exact hb.symm

/-- The three bounds of a cut. 'n': how long; 'cap': how much room. -/
theorem run_sliceBounds {lo hi mx : Option Operand} {lo' hi' mx' : Option AX} (h1 : optX P lo = some lo') (h2 : optX P hi = some hi') (h3 : optX P mx = some mx') (hs : SR E a σ) (hform : mx' = none ∨ hi' ≠ none) {n N cap m hh l : Nat} (hnc : N ≤ cap)
    (b1 : bnd σ mx' N N = some m) (b2 : bnd σ hi' m n = some hh) (b3 : bnd σ lo' hh 0 = some l) (isSlice : Bool) :
    ∃ m', (Instr.sliceBounds isSlice n cap (lo.map a.eval) (hi.map a.eval) (mx.map a.eval)).run P w = .ok (l, hh, m') w ∧ (mx' = none → m' = cap) ∧ (mx' ≠ none → m' = m) ∧ l ≤ hh := by
  rcases optX_sound h3 hs with ⟨rfl, rfl⟩ | ⟨um, zm, rfl, rfl, rm⟩
  · have em := bnd_none b1
    subst em
    rcases optX_sound h2 hs with ⟨rfl, rfl⟩ | ⟨uh, zh, rfl, rfl, rh⟩
    · have := bnd_none b2; subst this
      rcases optX_sound h1 hs with ⟨rfl, rfl⟩ | ⟨ul, zl, rfl, rfl, rl⟩
      · have := bnd_none b3; subst this
        exact ⟨cap, by simp [Instr.sliceBounds], fun _ => rfl, fun h => absurd rfl h, by omega⟩
      · have k := bnd_some (P := P) (w := w) rl b3
        exact ⟨cap, by simp [Instr.sliceBounds, k.2 _ _ (Nat.le_refl _)], fun _ => rfl, fun h => absurd rfl h, k.1⟩
    · have kh := bnd_some (P := P) (w := w) rh b2
      rcases optX_sound h1 hs with ⟨rfl, rfl⟩ | ⟨ul, zl, rfl, rfl, rl⟩
      · have := bnd_none b3; subst this
        exact ⟨cap, by simp [Instr.sliceBounds, kh.2 _ _ hnc], fun _ => rfl, fun h => absurd rfl h, by omega⟩
      · have k := bnd_some (P := P) (w := w) rl b3
        exact ⟨cap, by simp [Instr.sliceBounds, kh.2 _ _ hnc, k.2 _ _ (Nat.le_refl _)], fun _ => rfl, fun h => absurd rfl h, k.1⟩
  · have km := bnd_some (P := P) (w := w) rm b1
    rcases optX_sound h2 hs with ⟨rfl, rfl⟩ | ⟨uh, zh, rfl, rfl, rh⟩
    · rcases hform with hf | hf
      · cases hf
      · exact absurd rfl hf
    have kh := bnd_some (P := P) (w := w) rh b2
    rcases optX_sound h1 hs with ⟨rfl, rfl⟩ | ⟨ul, zl, rfl, rfl, rl⟩
    · have := bnd_none b3; subst this
      exact ⟨m, by simp [Instr.sliceBounds, km.2 _ _ hnc, kh.2 _ _ (Nat.le_refl _)], (fun h => by cases h), fun _ => rfl, by omega⟩
    · have k := bnd_some (P := P) (w := w) rl b3
      exact ⟨m, by simp [Instr.sliceBounds, km.2 _ _ hnc, kh.2 _ _ (Nat.le_refl _), k.2 _ _ (Nat.le_refl _)], (fun h => by cases h), fun _ => rfl, k.1⟩

theorem bnd_le {z : Option AX} {n d m : Nat} (hb : bnd σ z n d = some m) (hd : d ≤ n) : m ≤ n := by
  cases z with
  | none => have := bnd_none hb; omega
  | some z =>
    simp only [bnd] at hb
    split at hb
    · split at hb
      · injection hb with hb; omega
      · cases hb
    · cases hb

theorem sliceS_sound {t : TypeId} {x : Operand} {lo hi : Option Operand} {y : AX} {lo' hi' : Option AX} (ho : o.op = .slice t x lo hi none) (hu : P.underlying t = some .string) (hc : cx P t x = some y) (h1 : optX P lo = some lo') (h2 : optX P hi = some hi') (hs : SR E a σ) (r : Rel B w0 E h w) (hex : aop O σ h key (.sliceS y lo' hi') = some (v, h')) : Out P B w0 E h' key a o w v := by
  have hx := cx_sound hc hs
  simp only [aop, Option.map_eq_some_iff, Prod.mk.injEq] at hex
  obtain ⟨z, hz, rfl, rfl⟩ := hex
  unfold asliceS at hz
  split at hz
  · rename_i l he
    rw [he] at hx
    split at hz
    · rename_i hh b2
      split at hz
      · rename_i b b3
        injection hz with hz
        subst hz
        obtain ⟨m', hrun, _, _, _⟩ := run_sliceBounds (P := P) (w := w) (lo := lo) (hi := hi) (mx := none) (lo' := lo') (hi' := hi') (mx' := none) h1 h2 rfl hs (.inl rfl) (n := l.length) (N := l.length) (cap := l.length) (m := l.length) (hh := hh) (l := b) (Nat.le_refl _) rfl b2 b3 false
        have hle := bnd_le b2 (Nat.le_refl _)
        have hsz : (⟨⟨l⟩⟩ : ByteArray).size = l.length := rfl
        have hext : (⟨⟨l⟩⟩ : ByteArray).extract b hh = ⟨⟨(l.take hh).drop b⟩⟩ := by
          apply ByteArray.ext
          apply Array.ext'
          show ((⟨⟨l⟩⟩ : ByteArray).extract b hh).data.toList = _
          rw [Lib.extract_data]
          simp only [List.drop_take]
        refine Out.quiet r (.string ((⟨⟨l⟩⟩ : ByteArray).extract b hh)) ?_ (by rw [hext]; exact .str _)
        unfold execOp; rw [ho]; dsimp only; rw [hx.inv_str]
        refine run_v ?_
        have e1 : Instr.sliceAt t (.string ⟨⟨l⟩⟩) (lo.map a.eval) (hi.map a.eval) ((none : Option Operand).map a.eval) = (do
          match ← underlying t with
          | .array n elem =>
            let a' ← Instr.sureAddr (.string ⟨⟨l⟩⟩)
            let (l', h', m) ← Instr.sliceBounds false n n (lo.map a.eval) (hi.map a.eval) none
            let size ← sizeOf elem
            pure (.slice (some (if m = l' then a' else a'.add (l' * size))) (h' - l') (m - l'))
          | _ => Instr.slice t (.string ⟨⟨l⟩⟩) (lo.map a.eval) (hi.map a.eval) none) := rfl
        rw [e1, Sem.run_bind, run_underlying hu]
        simp only [Result.andThen_ok]
        simp only [Instr.slice, Sem.run_bind, run_underlying hu, Result.andThen_ok]
        rw [hsz]
        simp [hrun] at hrun ⊢
      · cases hz
    · cases hz
  · cases hz

theorem run_sliceAt {t e : TypeId} {sz : Nat} (hu : P.underlying t = some (.slice e)) (hsz : size? P e = some sz) {A : Option Addr} {n cap : Nat} {lo hi mx : Option Value} {l hh m : Nat} (hb : (Instr.sliceBounds true n cap lo hi mx).run P w = .ok (l, hh, m) w) :
    (Instr.sliceAt t (.slice A n cap) lo hi mx).run P w = .ok (.slice (if m = l then A else A.map (·.add (l * sz))) (hh - l) (m - l)) w := by
  simp only [Instr.sliceAt, Sem.run_bind, run_underlying hu, Result.andThen_ok, Instr.slice, hb, run_sizeOf' hsz]
  rfl

theorem slice_sound {t e : TypeId} {x : Operand} {lo hi mx : Option Operand} {y : AX} {lo' hi' mx' : Option AX} {sz : Nat} (ho : o.op = .slice t x lo hi mx) (hu : P.underlying t = some (.slice e)) (hsz : size? P e = some sz) (hc : cx P t x = some y) (h1 : optX P lo = some lo') (h2 : optX P hi = some hi') (h3 : optX P mx = some mx') (hform : mx' = none ∨ hi' ≠ none) (hs : SR E a σ) (r : Rel B w0 E h w) (hex : aop O σ h key (.slice sz y lo' hi' mx') = some (v, h')) : Out P B w0 E h' key a o w v := by
  have hx := cx_sound hc hs
  simp only [aop, Option.map_eq_some_iff, Prod.mk.injEq] at hex
  obtain ⟨z, hz, rfl, rfl⟩ := hex
  have hout : ∀ {A : Option Addr} {n cap l hh m : Nat}, a.eval x = .slice A n cap → (Instr.sliceBounds true n cap (lo.map a.eval) (hi.map a.eval) (mx.map a.eval)).run P w = .ok (l, hh, m) w → Rd E (.slice (if m = l then A else A.map (·.add (l * sz))) (hh - l) (m - l)) z → Out P B w0 E h key a o w z := by
    intro A n cap l hh m hv hb hr
    refine Out.quiet r _ ?_ hr
    unfold execOp; rw [ho]; dsimp only; rw [hv]
    exact run_v (run_sliceAt hu hsz hb)
  unfold aslice at hz
  split at hz
  · rename_i s xs rt he
    rw [he] at hx
    split at hz
    · rename_i m b1
      split at hz
      · rename_i hh b2
        split at hz
        · rename_i l b3
          split at hz
          · rename_i hs'
            subst hs'
            injection hz with hz
            subst hz
            generalize hv : a.eval x = av at hx hout
            cases hx with
            | list A n c _ _ _ g b vs k1 k2 k3 k4 k5 k6 k7 =>
              obtain ⟨m', hrun, e1, e2, e3⟩ := run_sliceBounds (P := P) (w := w) h1 h2 h3 hs hform (n := xs.length) (N := xs.length) (cap := c) (by omega) b1 b2 b3 true
              have hmle := bnd_le b1 (Nat.le_refl _)
              have hhm : hh ≤ m := by
                cases hi' with
                | none =>
                  rcases hform with hf | hf
                  · subst hf
                    have := bnd_none b1
                    have := bnd_none b2
                    omega
                  · exact absurd rfl hf
                | some q =>
                  exact (bnd_some (P := P) (w := w) (u := (match hi with | some u => a.eval u | none => undef)) (by
                    rcases optX_sound h2 hs with ⟨_, hh'⟩ | ⟨u, z, rfl, hz', rz⟩
                    · cases hh'
                    · injection hz' with hz'; subst hz'; exact rz) b2).1
              have hm' : m ≤ m' := by
                cases mx' with
                | none => rw [e1 rfl]; omega
                | some q => rw [e2 (by simp)]; exact Nat.le_refl _
              rw [k1] at hrun
              refine hout rfl hrun (.list _ _ _ _ _ _ g (b + l * s) (fun i j => vs (i + l) j) (by simp; omega) (by omega) (fun hp => ?_) (fun q hq => k4 q (List.mem_of_mem_take (List.mem_of_mem_drop hq))) (fun i j hi hj => ?_) (fun i q j y' hq hy => ?_) ?_)
              · rw [if_neg (by omega), k3 (by omega)]
                simp [add_plain]
              · have := k5 (i + l) j (by omega) hj
                rw [Nat.add_mul] at this
                rw [show b + l * s + (i * s + j) = b + (i * s + l * s + j) by omega]
                exact this
              · rw [List.getElem?_drop] at hq
                have hlt : l + i < hh := by
                  rcases Nat.lt_or_ge (l + i) hh with h' | h'
                  · exact h'
                  · rw [List.getElem?_eq_none (by simp; omega)] at hq; cases hq
                rw [List.getElem?_take_of_lt hlt] at hq
                rw [Nat.add_comm i l]
                exact k6 _ q j y' hq hy
              · unfold sliceRt
                split
                · rename_i hfull
                  simp only [Bool.and_eq_true, decide_eq_true_eq, Option.isSome_iff_ne_none] at hfull
                  obtain ⟨f1, f2⟩ := hfull
                  have := e2 f1
                  show m' - l = hh - l
                  omega
                · rename_i hnf
                  split
                  · rename_i hlh
                    obtain ⟨rfl, rfl⟩ := hlh
                    have hmx : mx' = none := by
                      cases mx' with
                      | none => rfl
                      | some q =>
                        exfalso
                        apply hnf
                        simp
                        omega
                    have em := e1 hmx
                    subst em
                    have hA : (if m' = 0 then A else A.map (·.add (0 * s))) = A := by
                      split
                      · rfl
                      · rw [Nat.zero_mul]
                        cases A <;> simp [Addr.add]
                    rw [hA]
                    simpa [k1] using k7
                  · trivial
          · cases hz
        · cases hz
      · cases hz
    · cases hz
  · rename_i s b off len cap he
    rw [he] at hx
    split at hz
    · rename_i m b1
      split at hz
      · rename_i hh b2
        split at hz
        · rename_i l b3
          split at hz
          · rename_i hs'
            subst hs'
            injection hz with hz
            subst hz
            generalize hv : a.eval x = av at hx hout
            cases hx with
            | sl _ _ _ _ _ g c hρ hle =>
              obtain ⟨m', hrun, e1, e2, e3⟩ := run_sliceBounds (P := P) (w := w) h1 h2 h3 hs hform (n := len) (N := cap) (cap := cap) (Nat.le_refl _) b1 b2 b3 true
              have hmm : m' = m := by
                cases mx' with
                | none => rw [e1 rfl, bnd_none b1]
                | some q => exact e2 (by simp)
              subst hmm
              have hmle := bnd_le b1 (Nat.le_refl _)
              have hhm : hh ≤ m' := by
                cases hi' with
                | none =>
                  rcases hform with hf | hf
                  · subst hf
                    have := bnd_none b1
                    have := bnd_none b2
                    omega
                  · exact absurd rfl hf
                | some q =>
                  exact (bnd_some (P := P) (w := w) (u := (match hi with | some u => a.eval u | none => undef)) (by
                    rcases optX_sound h2 hs with ⟨_, hh'⟩ | ⟨u, z, rfl, hz', rz⟩
                    · cases hh'
                    · injection hz' with hz'; subst hz'; exact rz) b2).1
              refine hout rfl hrun ?_
              have : (if m' = l then some (⟨g, off, none⟩ : Addr) else (some (⟨g, off, none⟩ : Addr)).map (·.add (l * s))) = some ⟨g, if m' = l then off else off + l * s, none⟩ := by
                split <;> simp [add_plain]
              rw [this]
              exact .sl _ _ _ _ _ g c hρ (by omega)
          · cases hz
        · cases hz
      · cases hz
    · cases hz
  · rename_i s b n he
    rw [he] at hx
    split at hz
    · split at hz
      · rename_i hh b2
        injection hz with hz
        subst hz
        generalize hv : a.eval x = av at hx hout
        cases hx with
        | gl _ _ _ g c hρ hle =>
          obtain ⟨m', hrun, e1, e2, e3⟩ := run_sliceBounds (P := P) (w := w) h1 h2 h3 hs (.inl rfl) (n := n) (N := n) (cap := c) (m := n) (hh := hh) (l := 0) hle rfl b2 rfl true
          have em := e1 rfl
          subst em
          have hmle := bnd_le b2 (Nat.le_refl _)
          refine hout rfl hrun ?_
          have : (if m' = 0 then some (⟨g, 0, none⟩ : Addr) else (some (⟨g, 0, none⟩ : Addr)).map (·.add (0 * sz))) = some ⟨g, 0, none⟩ := by
            split <;> simp [add_plain]
          rw [this]
          exact .gl _ _ _ g _ hρ (by omega)
      · cases hz
    · cases hz
  · cases hz

theorem sliceA_sound {t e : TypeId} {x : Operand} {lo hi : Option Operand} {y : AX} {lo' hi' : Option AX} {sz n : Nat} (ho : o.op = .slice t x lo hi none) (hu : P.underlying t = some (.array n e)) (hsz : size? P e = some sz) (hc : cx P t x = some y) (h1 : optX P lo = some lo') (h2 : optX P hi = some hi') (hs : SR E a σ) (r : Rel B w0 E h w) (hex : aop O σ h key (.sliceA sz n y lo' hi') = some (v, h')) : Out P B w0 E h' key a o w v := by
  have hx := cx_sound hc hs
  simp only [aop] at hex
  split at hex
  · rename_i b off he
    rw [he] at hx
    split at hex
    · rename_i hh b2
      split at hex
      · rename_i l b3
        simp only [Option.some.injEq, Prod.mk.injEq] at hex
        obtain ⟨rfl, rfl⟩ := hex
        generalize hv : a.eval x = av at hx
        cases hx with
        | ptr _ _ g c hρ =>
          obtain ⟨m', hrun, e1, e2, e3⟩ := run_sliceBounds (P := P) (w := w) (mx := none) h1 h2 rfl hs (.inl rfl) (n := n) (N := n) (cap := n) (m := n) (hh := hh) (l := l) (Nat.le_refl _) rfl b2 b3 false
          have em := e1 rfl
          subst em
          have hmle := bnd_le b2 (Nat.le_refl _)
          refine Out.quiet r (.slice (some ⟨g, if m' = l then off else off + l * sz, none⟩) (hh - l) (m' - l)) ?_ (.sl _ _ _ _ _ g c hρ (by omega))
          unfold execOp; rw [ho]; dsimp only; rw [hv]
          refine run_v ?_
          simp only [Option.map_none] at hrun ⊢
          simp only [Instr.sliceAt, Sem.run_bind, run_underlying hu, Result.andThen_ok, Instr.sureAddr, Sem.run_pure, hrun, run_sizeOf' hsz, add_plain]
          congr 2
          split <;> rfl
      · cases hex
    · cases hex
  · cases hex
end
end Go.Am
