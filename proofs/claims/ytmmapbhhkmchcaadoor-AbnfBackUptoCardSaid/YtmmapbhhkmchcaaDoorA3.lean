/-
  abnf: alone, fits, Right.
-/
import Derived.Test.YtmmapbhhkmchcaaDoorA2
set_option linter.unusedVariables false
set_option linter.unusedSimpArgs false
namespace Go.Proofs.YtmmapbhhkmchcaaDoor
open Go Go.Am

theorem tail_ok (h0 : Heap) (b c : Bool) (kk kk' kv kv' : AV) (s s' : List UInt8) (lo hi mn mx lo' hi' mn' mx' : Int)
    (σ : Slots) (s1 : σ 1 = .ptr h0.length 0) (s3 : σ 3 = .ptr (h0.length + 1) 0) (s4 : σ 4 = .bool c) (s5 : σ 5 = .bool b) (Q : Ex → Slots → Heap → Prop)
    (hQ : ∀ σ' l, σ' 2 = .bool (b && (c && (decide (s' = s) && decide (lo' = lo) && decide (hi' = hi) && decide (mn' = mn) && decide (mx' = mx)))) → Q .ret σ' (h0 ++ l)) :
    Wp M J24_1 Q σ (h0 ++ [.cells [kk, .str s, .int .u8 lo, .int .u8 hi, .int .i64 mn, .int .i64 mx, kv], .cells [kk', .str s', .int .u8 lo', .int .u8 hi', .int .i64 mn', .int .i64 mx', kv']]) := by
  cases b
  · simp [wJ24_1, s1, s3, s4, s5]
    refine hQ _ _ ?_
    simp
  cases c
  · simp [wJ24_1, s1, s3, s4, s5]
    refine hQ _ _ ?_
    simp
  by_cases h1 : s' = s
  · subst h1
    by_cases h2 : lo' = lo
    · subst h2
      by_cases h3 : hi' = hi
      · subst h3
        by_cases h4 : mn' = mn
        · subst h4
          simp [wJ24_1, s1, s3, s4, s5]
          refine hQ _ _ ?_
          simp
        · simp [wJ24_1, s1, s3, s4, s5, h4]
          refine hQ _ _ ?_
          simp [h4]
      · simp [wJ24_1, s1, s3, s4, s5, h3]
        refine hQ _ _ ?_
        simp [h3]
    · simp [wJ24_1, s1, s3, s4, s5, h2]
      refine hQ _ _ ?_
      simp [h2]
  · simp [wJ24_1, s1, s3, s4, s5, h1]
    refine hQ _ _ ?_
    simp [h1]

theorem u8_lit (c : UInt8) (k : Nat) (hk : k < 256) : ((c.toNat : Int) = (k : Int)) = (c = UInt8.ofNat k) := u8_eq c k hk
theorem alone_ok (t : Tr) (hs : t.s.length ≤ 1000000000) (h0 : Heap) : M.call 24 [t.enc] h0 = some (.bool (aloneP t), h0) := by
  refine call_of tab24 rfl (callF_wp ?_)
  generalize hQ : (fun e σ h => isEnd e ∧ ∃ vs, resVals σ h [ARes.tmp 2] = some vs ∧ finish h0 h (oneOf vs) = some (.bool (aloneP t), h0)) = Q
  have fin : ∀ (b : Bool), b = aloneP t → ∀ (σ : Slots) (l : List AE), σ 2 = .bool b → Q .ret σ (h0 ++ l) := by
    intro b hb σ l s2
    subst hQ
    subst hb
    simp [s2]
  have tl := fun b c kk kk' kv kv' s s' lo hi mn mx lo' hi' mn' mx' σ s1 s3 s4 s5 hq => tail_ok h0 b c kk kk' kv kv' s s' lo hi mn mx lo' hi' mn' mx' σ s1 s3 s4 s5 Q hq
  have n1 := named_ok t.s hs
  obtain ⟨ix, hix⟩ := Classical.axiomOfChoice fun h => indexFunc_ok t.s hs h
  have n2 := fun h => (hix h).1
  have n3 := fun h => (hix h).2
  clear hix
  have z1 : decide ((0 : Int) = t.lo.toNat) = (t.lo == 0) := by
    have := u8_eq t.lo 0 (by omega)
    rw [Bool.eq_iff_iff]; simp; rw [eq_comm]; simpa using this
  have z2 : decide ((0 : Int) = t.hi.toNat) = (t.hi == 0) := by
    have := u8_eq t.hi 0 (by omega)
    rw [Bool.eq_iff_iff]; simp; rw [eq_comm]; simpa using this
  have z3 : decide ((0 : Int) = t.mn) = (t.mn == 0) := by
    by_cases h : t.mn = 0
    · simp [h]
    · have h' : ¬ 0 = t.mn := fun e => h e.symm
      simp [h, h']
  have z4 : decide ((0 : Int) = t.mx) = (t.mx == 0) := by
    by_cases h : t.mx = 0
    · simp [h]
    · have h' : ¬ 0 = t.mx := fun e => h e.symm
      simp [h, h']
  have z5 : decide (t.s = []) = t.s.isEmpty := by cases t.s <;> simp
  have ke : ∀ k : Nat, k < 256 → ((t.k.toNat : Int) = (k : Int)) = (t.k = UInt8.ofNat k) := fun k hk => u8_eq t.k k hk
  have k1' := ke 1 (by omega)
  have k2' := ke 2 (by omega)
  have k3' := ke 3 (by omega)
  have k4' := ke 4 (by omega)
  have k5' := ke 5 (by omega)
  have k6' := ke 6 (by omega)
  have k7' := ke 7 (by omega)
  simp at k1' k2' k3' k4' k5' k6' k7'
  clear ke
  have hk : decide (t.kids = []) = t.kids.isEmpty := by cases t.kids <;> simp
  unfold Tr.enc
  rw [Tr.encL_eq]
  unfold aloneP at fin
  by_cases k1 : t.k = 1
  · rw [if_pos k1] at fin
    simp [wB24, k1', k1, n1]
    refine tl _ _ _ _ _ _ _ _ _ _ _ _ _ _ _ _ _ (by simp) (by simp) (by simp; rfl) (by simp; rfl) fun σ l e => fin _ ?_ σ l e
    simp [hk, z1, z2, z3, z4]
  rw [if_neg k1] at fin
  by_cases k2 : t.k = 2
  · rw [if_pos k2] at fin
    simp [wB24, k1', k2', k1, k2, n2]
    refine tl _ _ _ _ _ _ _ _ _ _ _ _ _ _ _ _ _ (by simp) (by simp) (by simp; rfl) (by simp; rfl) fun σ l e => fin _ ?_ σ l e
    rw [n3]
    simp [hk, z1, z2, z3, z4]
  rw [if_neg k2] at fin
  by_cases k3 : t.k = 3
  · rw [if_pos k3] at fin
    simp [wB24, k1', k2', k3', k1, k2, k3]
    refine tl (!decide (t.s = [])) _ _ _ _ _ _ _ _ _ _ _ _ _ _ _ _ (by simp) (by simp) (by simp; rfl) (by simp) fun σ l e => fin _ ?_ σ l e
    simp [hk, z1, z2, z3, z4, z5]
  rw [if_neg k3] at fin
  by_cases k4 : t.k = 4
  · rw [if_pos k4] at fin
    simp [wB24, k1', k2', k3', k4', k1, k2, k3, k4]
    refine tl _ _ _ _ _ _ _ _ _ _ _ _ _ _ _ _ _ (by simp) (by simp) (by simp; rfl) (by simp; rfl) fun σ l e => fin _ ?_ σ l e
    simp [hk, z1, z2, z3, z4, z5]
  rw [if_neg k4] at fin
  by_cases k5 : t.k = 5
  · rw [if_pos (.inl k5)] at fin
    simp [wB24, wJ24_0, k1', k2', k3', k4', k5', k1, k2, k3, k4, k5]
    refine tl _ _ _ _ _ _ _ _ _ _ _ _ _ _ _ _ _ (by simp) (by simp) (by simp; rfl) (by simp; rfl) fun σ l e => fin _ ?_ σ l e
    simp [hk, z1, z2, z3, z4, z5, lit_le]
  by_cases k6 : t.k = 6
  · rw [if_pos (.inr k6)] at fin
    simp [wB24, wJ24_0, k1', k2', k3', k4', k5', k6', k1, k2, k3, k4, k5, k6]
    refine tl _ _ _ _ _ _ _ _ _ _ _ _ _ _ _ _ _ (by simp) (by simp) (by simp; rfl) (by simp; rfl) fun σ l e => fin _ ?_ σ l e
    simp [hk, z1, z2, z3, z4, z5, lit_le]
  rw [if_neg (by simp [k5, k6])] at fin
  by_cases k7 : t.k = 7
  · rw [if_pos k7] at fin
    by_cases p1 : 0 ≤ t.mn
    · by_cases p2 : t.mn ≤ 9999
      · by_cases p3 : t.mx = -1
        · simp [wB24, wJ24_0, k1', k2', k3', k4', k5', k6', k7', k1, k2, k3, k4, k5, k6, k7, p1, p2, p3]
          refine tl true (decide (t.kids.length = 1)) _ _ _ _ _ _ _ _ _ _ _ _ _ _ _ (by simp) (by simp) (by simp; omega) (by simp) fun σ l e => fin _ ?_ σ l e
          simp [z1, z2, z5, p1, p2, p3]
        · by_cases p4 : t.mn ≤ t.mx
          · simp [wB24, wJ24_0, k1', k2', k3', k4', k5', k6', k7', k1, k2, k3, k4, k5, k6, k7, p1, p2, p3, p4]
            refine tl (decide (t.mx ≤ 9999)) (decide (t.kids.length = 1)) _ _ _ _ _ _ _ _ _ _ _ _ _ _ _ (by simp) (by simp) (by simp; omega) (by simp) fun σ l e => fin _ ?_ σ l e
            by_cases p5 : t.mx ≤ 9999 <;> simp [z1, z2, z5, p1, p2, p3, p4, p5]
          · simp [wB24, wJ24_0, k1', k2', k3', k4', k5', k6', k7', k1, k2, k3, k4, k5, k6, k7, p1, p2, p3, p4]
            refine tl false (decide (t.kids.length = 1)) _ _ _ _ _ _ _ _ _ _ _ _ _ _ _ (by simp) (by simp) (by simp; omega) (by simp) fun σ l e => fin _ ?_ σ l e
            simp [z1, z2, z5, p1, p2, p3, p4]
      · simp [wB24, wJ24_0, k1', k2', k3', k4', k5', k6', k7', k1, k2, k3, k4, k5, k6, k7, p1, p2]
        refine tl false (decide (t.kids.length = 1)) _ _ _ _ _ _ _ _ _ _ _ _ _ _ _ (by simp) (by simp) (by simp; omega) (by simp) fun σ l e => fin _ ?_ σ l e
        simp [z1, z2, z5, p1, p2]
    · simp [wB24, wJ24_0, k1', k2', k3', k4', k5', k6', k7', k1, k2, k3, k4, k5, k6, k7, p1]
      refine tl false (decide (t.kids.length = 1)) _ _ _ _ _ _ _ _ _ _ _ _ _ _ _ (by simp) (by simp) (by simp; omega) (by simp) fun σ l e => fin _ ?_ σ l e
      simp [z1, z2, z5, p1]
  rw [if_neg k7] at fin
  simp [wB24, wJ24_0, k1', k2', k3', k4', k5', k6', k7', k1, k2, k3, k4, k5, k6, k7]
  refine tl _ _ _ _ _ _ _ _ _ _ _ _ _ _ _ _ _ (by simp) (by simp) (by simp; rfl) (by simp; rfl) fun σ l e => fin _ ?_ σ l e
  simp
/-- Its texts and kids are no more than a thousand million. -/
def trOk : Nat → Tr → Prop
  | 0, t => t.s.length ≤ 1000000000 ∧ t.kids.length ≤ 1000000000
  | d + 1, t => (t.s.length ≤ 1000000000 ∧ t.kids.length ≤ 1000000000) ∧ ∀ k ∈ t.kids, trOk d k
def TOk (t : Tr) : Prop := ∀ d, trOk d t
theorem TOk.s {t : Tr} (h : TOk t) : t.s.length ≤ 1000000000 := (h 0).1
theorem TOk.n {t : Tr} (h : TOk t) : t.kids.length ≤ 1000000000 := (h 0).2
theorem TOk.kid {t k : Tr} (h : TOk t) (hk : k ∈ t.kids) : TOk k := fun d => (h (d + 1)).2 k hk
theorem TOk.mk {t : Tr} (h1 : t.s.length ≤ 1000000000) (h2 : t.kids.length ≤ 1000000000) (h3 : ∀ k ∈ t.kids, TOk k) : TOk t
  | 0 => ⟨h1, h2⟩
  | d + 1 => ⟨⟨h1, h2⟩, fun k hk => h3 k hk d⟩

def InvFt (t : Tr) (d : Nat) (h0 : Heap) (k : Nat) (σ : Slots) (h : Heap) : Prop := ∃ i, i ≤ t.kids.length ∧ k = t.kids.length - i ∧ (t.kids.take i).all (fitsP d) = true ∧ σ 1 = .int .i64 ((d + 1 : Nat) : Int) ∧ σ 15 = .list 7 (t.kids.map Tr.enc) (rtB t.full) ∧ σ 16 = .int .i64 t.kids.length ∧ σ 17 = .int .i64 i ∧ h.take h0.length = h0 ∧ h0.length ≤ h.length
theorem fits_ok : ∀ (d : Nat) (t : Tr), d ≤ 1000 → TOk t → ∀ h0 : Heap, M.call 16 [t.enc, .int .i64 d] h0 = some (.bool (fitsP d t), h0)
  | 0, t, _, ht, h0 => by
    refine call_of tab16 rfl (callF_wp ?_)
    unfold Tr.enc
    rw [Tr.encL_eq]
    simp [wB16, fitsP]
  | d + 1, t, hd, ht, h0 => by
    refine call_of tab16 rfl (callF_wp ?_)
    have ih := fun k hk h => fits_ok d k (by omega) (ht.kid hk) h
    have ha := alone_ok t ht.s
    have hn := ht.n
    unfold Tr.enc at ha
    rw [Tr.encL_eq] at ha
    unfold Tr.enc
    rw [Tr.encL_eq]
    have h1 : ¬ ((d : Int) + 1 < 1) := by omega
    unfold fitsP
    cases hal : aloneP t
    · simp [wB16, h1, ha, hal]
    · simp [wB16, h1, ha, hal]
      refine Wp.loop (InvFt t d h0) ?_ (n := t.kids.length) ⟨0, by omega, by omega, by simp, by simp, by simp, by simp, by simp, by simp, by simp⟩
      rintro k σ h ⟨i, hi, rfl, hal, s1, s15, s16, s17, hh, hl⟩
      by_cases hlt : i < t.kids.length
      · obtain ⟨x, ex⟩ : ∃ x, t.kids[i]? = some x := ⟨_, List.getElem?_eq_getElem hlt⟩
        have hx := ih x (List.mem_of_getElem? ex)
        have e64 : IntKind.wrap .i64 ((i : Int) + 1) = ((i + 1 : Nat) : Int) := by rw [wrap64 (by omega) (by omega)]; rfl
        have e1 : IntKind.wrap .i64 (((d + 1 : Nat) : Int) - 1) = (d : Int) := by rw [wrap64 (by omega) (by omega)]; omega
        unfold Tr.enc at hx
        rw [Tr.encL_eq] at hx
        cases hf : fitsP d x
        · simp [-getElem?_pos, -Int.natCast_add, wL16_0, s1, s15, s16, s17, hlt, ex, e1, hx, hf, Tr.enc, Tr.encL_eq, Nat.add_assoc]
          rw [finish_of_take (by rw [take_app hl, hh])]
          have : t.kids.all (fitsP d) = false := by rw [List.all_eq_false]; exact ⟨x, List.mem_of_getElem? ex, by simp [hf]⟩
          simp [this]
        · simp [-getElem?_pos, -Int.natCast_add, wL16_0, s1, s15, s16, s17, hlt, ex, e1, hx, hf, e64, Tr.enc, Tr.encL_eq, Nat.add_assoc]
          refine ⟨t.kids.length - (i + 1), by omega, i + 1, by omega, rfl, ?_, by simp [s1], by simp [s15], by simp [s16], by simp, by rw [take_app hl, hh], by simp; omega⟩
          rw [List.take_add_one, ex]
          simp [hal, hf]
      · have : i = t.kids.length := by omega
        subst this
        rw [List.take_length] at hal
        simp [wL16_0, wK16_0, s1, s15, s16, s17, finish_of_take hh, hal]
theorem right_ok (t : Tr) (ht : TOk t) (h0 : Heap) : M.call 8 [t.enc] h0 = some (.bool (fitsP 100 t), h0) := by
  refine call_of tab8 rfl (callF_wp ?_)
  have := fits_ok 100 t (by omega) ht
  unfold Tr.enc at this ⊢
  rw [Tr.encL_eq] at this ⊢
  simp at this
  simp [wB8, this]
end Go.Proofs.YtmmapbhhkmchcaaDoor
