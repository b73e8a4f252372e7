/-
  abnf: choices, row, part, thing.
-/
import Derived.Test.YtmmapbhhkmchcaaDoorA5
set_option linter.unusedVariables false
set_option linter.unusedSimpArgs false
namespace Go.Proofs.YtmmapbhhkmchcaaDoor
open Go Go.Am

section
variable {l : List Tok} {rt : Rt} {r : Nat} (hl : l.length ≤ 1000000000)
theorem at_HH {f : FuncId} {xs : List AV} {v : AV} {e e' : AE} {g : Heap} (hlt : r < g.length) (k : ∀ h : Heap, g.length ≤ h.length → h[r]? = some e → M.call f xs h = some (v, h.set r e')) (q : Heap) : M.call f xs (HH g r e ++ q) = some (v, HH g r e' ++ q) := by
  rw [k _ (by simp) (HH_get hlt q), HH_set hlt]
theorem at_HH' {f : FuncId} {xs : List AV} {v : AV} {e e' : AE} {g : Heap} (hlt : r < g.length) (q : Heap) (k : ∀ h : Heap, g.length + q.length = h.length → h[r]? = some e → M.call f xs h = some (v, h.set r e')) : M.call f xs (HH g r e ++ q) = some (v, HH g r e' ++ q) := by
  rw [k _ (by simp) (HH_get hlt q), HH_set hlt]
theorem at_HH0 {f : FuncId} {xs : List AV} {v : AV} {e e' : AE} {g : Heap} (hlt : r < g.length) (k : ∀ h : Heap, g.length ≤ h.length → h[r]? = some e → M.call f xs h = some (v, h.set r e')) : M.call f xs (HH g r e) = some (v, HH g r e') := by
  rw [k _ (by simp) (HH_get0 hlt), HH_set0]
@[simp] theorem enc_cells (t : Tr) : t.enc.cells = t.encL := rfl
@[simp] theorem encL_take (t : Tr) : t.encL.take 7 = t.encL := take_encL t
@[simp] theorem agg_encL (t : Tr) : AV.agg t.encL = t.enc := rfl
@[simp] theorem clean_enc (q : Heap) (n : Nat) (t : Tr) : clean q n t.enc = some t.enc := by
  show (cleans q n t.encL).map AV.agg = _
  rw [clean_encL]; rfl
theorem zero_enc : Tr.enc zeroT = .agg [.int .u8 0, .str [], .int .u8 0, .int .u8 0, .int .i64 0, .int .i64 0, .list 7 [] .full] := by simp [zeroT, Tr.enc_mk]
include hl in
theorem thing_no (a : Nat) (off : Bool) (hn : nextB l a off [1, 10, 11, 12, 5, 7] = false) (h : Heap) (hr : h[r]? = some (stC l rt a off)) (hrt : ∀ t, rt = .tok t → t < h.length) : M.call 84 [.ptr r 0] h = some (zeroT.enc, h.set r (stC l rt a true)) := by
  obtain ⟨g, rfl, hlt⟩ := HH_of hr
  rw [HH_set0]
  have tk := fun rk q => at_HH (r := r) (g := g) hlt (fun h hg hr => take_no (rt := rt) hl a off [1, 10, 11, 12, 5, 7] (by simp) rk h hr (fun t ht => by have := hrt t ht; simp at this; omega) hn) q
  have mk := fun q => at_HH (r := r) (g := g) (e' := stC l rt a true) hlt (fun h hg hr => by
    have := made_yes (l := l) (rt := rt) ⟨0, [], 0, 0, 0, 0, .list 7 [] .full⟩ a true h hr (by simp) (by simp)
    rw [this, set_same' hr]) q
  have hlow := stC_low (l := l) (a := a) (off := true) (by simpa using hrt)
  simp only [Cell7.cs] at mk
  refine call_of tab84 rfl (callF_wp ?_)
  simp [wB84, tk, mk, tok_zero, Nat.add_assoc]
  rw [finish_HH (by rw [List.take_left' (by simp)]) hlt hlow, zero_enc]
  simp [cleans_cons]
/-- What a part of the reader does. -/
def CC (f : FuncId) (l : List Tok) (rt : Rt) (r a : Nat) : Pr → Prop
  | .ok t n => ∀ h : Heap, h[r]? = some (stC l rt a false) → (∀ t, rt = .tok t → t < h.length) → M.call f [.ptr r 0] h = some (t.enc, h.set r (stC l rt n false))
  | .bad q => ∃ tg : Heap → Tr, ∀ h : Heap, h[r]? = some (stC l rt a false) → (∀ t, rt = .tok t → t < h.length) → M.call f [.ptr r 0] h = some ((tg h).enc, h.set r (stC l rt q true))
theorem CC_bad {f : FuncId} {a q : Nat} (h : ∀ h : Heap, h[r]? = some (stC l rt a false) → (∀ t, rt = .tok t → t < h.length) → ∃ t : Tr, M.call f [.ptr r 0] h = some (t.enc, h.set r (stC l rt q true))) : CC f l rt r a (.bad q) := by
  have : ∀ h : Heap, ∃ t : Tr, h[r]? = some (stC l rt a false) → (∀ t, rt = .tok t → t < h.length) → M.call f [.ptr r 0] h = some (t.enc, h.set r (stC l rt q true)) := fun g => by
    by_cases c : g[r]? = some (stC l rt a false) ∧ (∀ t, rt = .tok t → t < g.length)
    · obtain ⟨t, ht⟩ := h g c.1 c.2
      exact ⟨t, fun _ _ => ht⟩
    · exact ⟨zeroT, fun h1 h2 => absurd ⟨h1, h2⟩ c⟩
  obtain ⟨tg, htg⟩ := Classical.axiomOfChoice this
  exact ⟨tg, htg⟩
def c7 (t : Tr) : Cell7 0 := ⟨t.k.toNat, t.s, t.lo.toNat, t.hi.toNat, t.mn, t.mx, .list 7 (t.kids.map Tr.enc) (rtB t.full)⟩
theorem c7_cs (t : Tr) : .agg (c7 t).cs = t.enc := by unfold Tr.enc; rw [Tr.encL_eq]; rfl
theorem madeT_yes (t : Tr) (hs : t.s.length ≤ 1000000000) (a : Nat) (h : Heap) (hr : h[r]? = some (stC l rt a false)) (hal : aloneP t = true) : M.call 33 [.ptr r 0, t.enc] h = some (t.enc, h) := by
  rw [← c7_cs]
  exact made_yes (c7 t) a false h hr (fun q => clean_kids q h.length t.kids t.full) fun _ h' _ => by rw [c7_cs, alone_ok t hs, hal]
include hl in
theorem madeT_no (t : Tr) (hs : t.s.length ≤ 1000000000) (a : Nat) (ha : a < l.length) (h : Heap) (hr : h[r]? = some (stC l rt (a + 1) false)) (hrt : ∀ t, rt = .tok t → t < h.length) (hal : aloneP t = false) : M.call 33 [.ptr r 0, t.enc] h = some (t.enc, h.set r (stC l rt a true)) := by
  rw [← c7_cs]
  exact made_no (c7 t) hl a ha h hr hrt (fun q => clean_kids q h.length t.kids t.full) fun h' _ => by rw [c7_cs, alone_ok t hs, hal]
theorem kd_of {a : Nat} {t : Tok} (et : l[a]? = some t) : kd l a = t.kind := by simp [kd, et]

include hl in
theorem thing_step (ht : ∀ t ∈ l, t.text.length ≤ 1000000000) (f : Nat) (ih : ∀ a p, choicesS l f a [] = some p → CC 35 l rt r a p) (a : Nat) (p : Pr) (hp : thingS l (f + 1) a = some p) : CC 84 l rt r a p := by
  unfold thingS at hp
  cases et : l[a]? with
  | none =>
    have hk : kd l a = 0 := by simp [kd, et]
    simp [hk, et] at hp
    subst hp
    exact CC_bad fun h hr hrt => ⟨zeroT, thing_no hl a false (by simp [nextB, et]) h hr hrt⟩
  | some t =>
    have hk := kd_of et
    have hal := (List.getElem?_eq_some_iff.1 et).1
    have htl := ht t (List.mem_of_getElem? et)
    rw [hk] at hp
    have tky := fun (hn : ([1, 10, 11, 12, 5, 7] : List UInt8).contains t.kind = true) (g : Heap) (hlt : r < g.length) (hrt : ∀ t, rt = .tok t → t < g.length) (rk : Rt) (q : Heap) => at_HH (r := r) (g := g) hlt (fun h hg hr => take_yes (rt := rt) hl a [1, 10, 11, 12, 5, 7] (by simp) rk t et h hr (fun t ht => by have := hrt t ht; omega) hn) q
    have leaf : ∀ k : UInt8, t.kind = k → (k = 1 ∨ k = 10 ∨ k = 11 ∨ k = 12) → CC 84 l rt r a p := by
      intro k hkk hk4
      have hc : ([1, 10, 11, 12, 5, 7] : List UInt8).contains t.kind = true := by rw [hkk]; rcases hk4 with rfl | rfl | rfl | rfl <;> decide
      have h57 : ¬ (t.kind = 5 ∨ t.kind = 7) := by rw [hkk]; rcases hk4 with rfl | rfl | rfl | rfl <;> decide
      rw [if_neg h57, et] at hp
      simp only at hp
      have hsl : (leafT t).s.length ≤ 1000000000 := by
        unfold leafT
        rw [hkk]
        rcases hk4 with rfl | rfl | rfl | rfl <;> simp [Tr.s, smallP] <;> exact htl
      have sm := small_ok t.text htl
      cases hall : aloneP (leafT t)
      · rw [hall] at hp
        simp at hp
        subst hp
        refine CC_bad fun h hr hrt => ⟨leafT t, ?_⟩
        obtain ⟨g, rfl, hlt⟩ := HH_of hr
        rw [HH_set0]
        rw [HH_len] at hrt
        have tk := tky hc g hlt hrt
        have mk := fun q => at_HH (r := r) (g := g) hlt (fun h hg hr => madeT_no (rt := rt) hl (leafT t) hsl a hal h hr (fun t ht => by have := hrt t ht; omega) hall) q
        have hlow := stC_low (l := l) (a := a) (off := true) hrt
        refine call_of tab84 rfl (callF_wp ?_)
        rcases hk4 with rfl | rfl | rfl | rfl
        all_goals
          simp [leafT, hkk, Tr.enc_mk] at mk
          simp [wB84, tk, mk, tokA, tokL, hkk, sm, Nat.add_assoc]
          rw [finish_HH (by rw [List.take_left' (by simp)]) hlt hlow]
          simp [leafT, hkk, Tr.enc_mk, cleans_cons]
      · rw [hall] at hp
        simp at hp
        subst hp
        intro h hr hrt
        obtain ⟨g, rfl, hlt⟩ := HH_of hr
        rw [HH_set0]
        rw [HH_len] at hrt
        have tk := tky hc g hlt hrt
        have mk := fun q => at_HH (r := r) (g := g) (e := stC l rt (a + 1) false) (e' := stC l rt (a + 1) false) hlt (fun h hg hr => by rw [madeT_yes (leafT t) hsl (a + 1) h hr hall, set_same' hr]) q
        have hlow := stC_low (l := l) (a := a + 1) (off := false) hrt
        refine call_of tab84 rfl (callF_wp ?_)
        rcases hk4 with rfl | rfl | rfl | rfl
        all_goals
          simp [leafT, hkk, Tr.enc_mk] at mk
          simp [wB84, tk, mk, tokA, tokL, hkk, sm, Nat.add_assoc]
          rw [finish_HH (by rw [List.take_left' (by simp)]) hlt hlow]
          simp [leafT, hkk, Tr.enc_mk, cleans_cons]
    have hopen : ∀ k : UInt8, t.kind = k → (k = 5 ∨ k = 7) → CC 84 l rt r a p := by
      intro k hkk hk2
      have hc : ([1, 10, 11, 12, 5, 7] : List UInt8).contains t.kind = true := by rw [hkk]; rcases hk2 with rfl | rfl <;> decide
      have h57 : t.kind = 5 ∨ t.kind = 7 := by rw [hkk]; exact hk2
      rw [if_pos h57] at hp
      cases hch : choicesS l f (a + 1) [] with
      | none => rw [hch] at hp; cases hp
      | some p1 =>
        rw [hch] at hp
        have ch := ih _ _ hch
        cases p1 with
        | bad q =>
          simp only [Option.some.injEq] at hp
          subst hp
          obtain ⟨tg, htg⟩ := ch
          refine CC_bad fun h hr hrt => ?_
          obtain ⟨g, rfl, hlt⟩ := HH_of hr
          rw [HH_set0]
          rw [HH_len] at hrt
          have tk := tky hc g hlt hrt
          have cc := fun q' => htg (HH g r (stC l rt (a + 1) false) ++ q') (HH_get hlt q') (fun t ht => by have := hrt t ht; simp; omega)
          simp only [HH_set hlt] at cc
          have tk2 := fun ks (hks : ks.length ≤ 1000) rk q' => at_HH (r := r) (g := g) hlt (fun h hg hr => take_no (rt := rt) hl q true ks hks rk h hr (fun t ht => by have := hrt t ht; omega) (by simp [nextB])) q'
          have hlow := stC_low (l := l) (a := q) (off := true) hrt
          generalize hTG : (fun q' => tg (HH g r (stC l rt (a + 1) false) ++ q')) = TG at *
          have cc' : ∀ q', M.call 35 [.ptr r 0] (HH g r (stC l rt (a + 1) false) ++ q') = some ((TG q').enc, HH g r (stC l rt q true) ++ q') := fun q' => by rw [cc, ← hTG]
          rcases hk2 with rfl | rfl
          · have tk2 := tk2 [6] (by simp)
            refine ⟨?_, call_of tab84 rfl (callF_wp ?_)⟩
            rotate_left
            · simp [wB84, tk, cc', tk2, tokA, tokL, hkk, Nat.add_assoc]
              rw [finish_HH (by rw [List.take_left' (by simp)]) hlt hlow, clean_enc]
              rfl
          · have tk2 := tk2 [8] (by simp)
            refine ⟨mayT ?_, call_of tab84 rfl (callF_wp ?_)⟩
            rotate_left
            · simp [wB84, tk, cc', tk2, tokA, tokL, hkk, Nat.add_assoc]
              rw [finish_HH (by rw [List.take_left' (by simp)]) hlt hlow]
              simp [cleans_cons, mayT, Tr.enc_mk, AV.lows]
              rfl
        | ok t1 n =>
          have cc : ∀ (g : Heap), r < g.length → (∀ t, rt = .tok t → t < g.length) → ∀ q, M.call 35 [.ptr r 0] (HH g r (stC l rt (a + 1) false) ++ q) = some (t1.enc, HH g r (stC l rt n false) ++ q) := fun g hlt hrt q => at_HH (r := r) (g := g) hlt (fun h hg hr => ch h hr (fun t ht => by have := hrt t ht; omega)) q
          simp only at hp
          rw [hkk] at hp
          by_cases hs : kd l n = k + 1
          · rw [if_pos hs] at hp
            simp only [Option.some.injEq] at hp
            subst hp
            obtain ⟨tn, etn, hkn⟩ : ∃ tn, l[n]? = some tn ∧ tn.kind = k + 1 := by
              cases e : l[n]? with
              | none => simp [kd, e] at hs; rcases hk2 with rfl | rfl <;> simp at hs
              | some tn => exact ⟨tn, rfl, by rw [← kd_of e]; exact hs⟩
            intro h hr hrt
            obtain ⟨g, rfl, hlt⟩ := HH_of hr
            rw [HH_set0]
            rw [HH_len] at hrt
            have tk := tky hc g hlt hrt
            have cc := cc g hlt hrt
            have tk2 := fun ks (hks : ks.length ≤ 1000) (hc2 : ks.contains tn.kind = true) rk q' => at_HH (r := r) (g := g) hlt (fun h hg hr => take_yes (rt := rt) hl n ks hks rk tn etn h hr (fun t ht => by have := hrt t ht; omega) hc2) q'
            have hlow := stC_low (l := l) (a := n + 1) (off := false) hrt
            rcases hk2 with rfl | rfl
            · have tk2 := tk2 [6] (by simp) (by rw [hkn]; decide)
              refine call_of tab84 rfl (callF_wp ?_)
              simp [wB84, tk, cc, tk2, tokA, tokL, hkk, Nat.add_assoc]
              rw [finish_HH (by rw [List.take_left' (by simp)]) hlt hlow, clean_enc]
              simp
            · have tk2 := tk2 [8] (by simp) (by rw [hkn]; decide)
              refine call_of tab84 rfl (callF_wp ?_)
              simp [wB84, tk, cc, tk2, tokA, tokL, hkk, Nat.add_assoc]
              rw [finish_HH (by rw [List.take_left' (by simp)]) hlt hlow]
              simp [cleans_cons, mayT, Tr.enc_mk, AV.lows]
          · rw [if_neg hs] at hp
            simp only [Option.some.injEq] at hp
            subst hp
            have hno : ∀ k2 : UInt8, k2 = k + 1 → nextB l n false [k2] = false := by
              intro k2 hk2'
              subst hk2'
              unfold nextB
              cases e : l[n]? with
              | none => rfl
              | some tn =>
                have := kd_of e
                simp
                rw [← this]; exact hs
            refine CC_bad fun h hr hrt => ?_
            obtain ⟨g, rfl, hlt⟩ := HH_of hr
            rw [HH_set0]
            rw [HH_len] at hrt
            have tk := tky hc g hlt hrt
            have cc := cc g hlt hrt
            have tk2 := fun ks (hks : ks.length ≤ 1000) (hn : nextB l n false ks = false) rk q' => at_HH (r := r) (g := g) hlt (fun h hg hr => take_no (rt := rt) hl n false ks hks rk h hr (fun t ht => by have := hrt t ht; omega) hn) q'
            have hlow := stC_low (l := l) (a := n) (off := true) hrt
            rcases hk2 with rfl | rfl
            · have tk2 := tk2 [6] (by simp) (hno 6 rfl)
              refine ⟨t1, call_of tab84 rfl (callF_wp ?_)⟩
              simp [wB84, tk, cc, tk2, tokA, tokL, hkk, Nat.add_assoc]
              rw [finish_HH (by rw [List.take_left' (by simp)]) hlt hlow, clean_enc]
              simp
            · have tk2 := tk2 [8] (by simp) (hno 8 rfl)
              refine ⟨mayT t1, call_of tab84 rfl (callF_wp ?_)⟩
              simp [wB84, tk, cc, tk2, tokA, tokL, hkk, Nat.add_assoc]
              rw [finish_HH (by rw [List.take_left' (by simp)]) hlt hlow]
              simp [cleans_cons, mayT, Tr.enc_mk, AV.lows]
    by_cases k5 : t.kind = 5
    · exact hopen 5 k5 (.inl rfl)
    by_cases k7 : t.kind = 7
    · exact hopen 7 k7 (.inr rfl)
    by_cases k1 : t.kind = 1
    · exact leaf 1 k1 (by simp)
    by_cases k10 : t.kind = 10
    · exact leaf 10 k10 (by simp)
    by_cases k11 : t.kind = 11
    · exact leaf 11 k11 (by simp)
    by_cases k12 : t.kind = 12
    · exact leaf 12 k12 (by simp)
    rw [if_neg (by simp [k5, k7]), et] at hp
    have : aloneP (leafT t) = false := by simp [leafT, k1, k10, k11, k12, aloneP, Tr.k]
    simp only [this] at hp
    simp at hp
    subst hp
    exact CC_bad fun h hr hrt => ⟨zeroT, thing_no hl a false (by simp [nextB, et, k5, k7, k1, k10, k11, k12]) h hr hrt⟩
end
end Go.Proofs.YtmmapbhhkmchcaaDoor
