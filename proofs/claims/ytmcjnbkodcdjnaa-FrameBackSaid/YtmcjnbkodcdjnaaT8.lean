import Derived.Test.YtmcjnbkodcdjnaaT7
set_option linter.unusedVariables false
set_option linter.unusedSimpArgs false
namespace Go.Proofs.Ytmcjnbkodcdjnaa
open Go Go.Am

theorem hasPrefix2_ok (X : CallO) (hX : ∀ f, f ≠ 13 → f ≠ 14 → ∀ a h, X f a h = none) (s p : List UInt8) (h : Heap) : (lim X T).call 17 [.str s, .str p] h = some (.bool (decide (s.take p.length = p)), h) := by
  refine lim_call_of tab17 (hX _ (by decide) (by decide) _ _) (callF_wp ?_)
  by_cases hl : p.length ≤ s.length
  · have : (p.length : Int) ≤ s.length := by omega
    simp [wB17, hl, this]
  · have : ¬ (p.length : Int) ≤ s.length := by omega
    have h2 : ¬ s.take p.length = p := fun e => by
      have := congrArg List.length e
      simp at this
      omega
    simp [wB17, hl, h2]
theorem hasPrefix_ok (X : CallO) (hX : ∀ f, f ≠ 13 → f ≠ 14 → ∀ a h, X f a h = none) (s p : List UInt8) (h : Heap) : (lim X T).call 10 [.str s, .str p] h = some (.bool (decide (s.take p.length = p)), h) := by
  refine lim_call_of tab10 (hX _ (by decide) (by decide) _ _) (callF_wp ?_)
  simp [wB10, hasPrefix2_ok X hX]

/-- A frame of fewer bytes beside one of more. -/
def lnR (n : Nat) (x y : List UInt8 × Bool) : Prop := x.1 = y.1.take n ∧ x.2 = (y.2 || decide (n < y.1.length))
structure MoreR (n m : Nat) (s S : St) : Prop where
  cr : s.cr = S.cr
  held : s.held = S.held.take n
  over : s.over = (S.over || decide (n < S.held.length))
  len : S.held.length ≤ m
  out : s.out.length = S.out.length ∧ ∀ (i : Nat) (x y : List UInt8 × Bool), s.out[i]? = some x → S.out[i]? = some y → lnR n x y

theorem more_keep {n m : Nat} (h1 : n ≤ m) {s S : St} (k : MoreR n m s S) (c : UInt8) : MoreR n m (keepB n c s) (keepB m c S) := by
  obtain ⟨k1, k2, k3, k4, k5⟩ := k
  have hl : s.held.length = min n S.held.length := by rw [k2, List.length_take]
  unfold keepB
  by_cases hn : S.held.length < n
  · rw [if_pos (by rw [hl]; omega), if_pos (by omega)]
    refine ⟨k1, ?_, ?_, ?_, k5⟩
    · show s.held ++ [c] = (S.held ++ [c]).take n
      rw [k2, List.take_of_length_le (by omega), List.take_of_length_le (by simp; omega)]
    · show s.over = (S.over || decide (n < (S.held ++ [c]).length))
      rw [k3, decide_eq_false (by omega), decide_eq_false (by simp; omega)]
    · simp; omega
  · rw [if_neg (by rw [hl]; omega)]
    by_cases hm : S.held.length < m
    · rw [if_pos (by omega)]
      refine ⟨k1, ?_, ?_, ?_, k5⟩
      · show s.held = (S.held ++ [c]).take n
        rw [k2, List.take_append_of_le_length (by omega)]
      · show true = (S.over || decide (n < (S.held ++ [c]).length))
        rw [decide_eq_true (by simp; omega)]; simp
      · simp; omega
    · rw [if_neg (by omega)]
      exact ⟨k1, k2, by simp, k4, k5⟩

theorem more_byte {n m : Nat} (h0 : 1 ≤ n) (h1 : n ≤ m) {s S : St} (k : MoreR n m s S) (c : UInt8) : MoreR n m (byteB n s c) (byteB m S c) := by
  have ⟨k1, k2, k3, k4, k5⟩ := k
  unfold byteB
  rw [k1]
  have hk : MoreR n m ⟨s.held, s.over, false, s.out⟩ ⟨S.held, S.over, false, S.out⟩ := ⟨rfl, k2, k3, k4, k5⟩
  split
  · split
    · refine ⟨rfl, by simp, by simp, by simp, by simp [k5.1], fun i x y hx hy => ?_⟩
      by_cases hi : i < s.out.length
      · rw [List.getElem?_append_left hi] at hx
        rw [List.getElem?_append_left (by rw [← k5.1]; exact hi)] at hy
        exact k5.2 i x y hx hy
      · rw [List.getElem?_append_right (by omega)] at hx
        rw [List.getElem?_append_right (by rw [← k5.1]; omega), ← k5.1] at hy
        have : i - s.out.length = 0 := by
          have := (List.getElem?_eq_some_iff.1 hx).1
          simpa using this
        rw [this] at hx hy
        simp at hx hy
        subst hx; subst hy
        exact ⟨k2, k3⟩
    · split
      · exact more_keep h1 k 13
      · exact more_keep h1 (more_keep h1 hk 13) c
  · split
    · exact ⟨rfl, k2, k3, k4, k5⟩
    · exact more_keep h1 k c
theorem more_push {n m : Nat} (h0 : 1 ≤ n) (h1 : n ≤ m) (b : List UInt8) : ∀ {s S : St}, MoreR n m s S → MoreR n m (pushB n s b) (pushB m S b) := by
  induction b with
  | nil => intro s S k; exact k
  | cons c b ih => intro s S k; exact ih (more_byte h0 h1 k c)
theorem more_start {n m : Nat} : MoreR n m St0 St0 := ⟨rfl, by simp [St0], by simp [St0], by simp [St0], rfl, by simp [St0]⟩

def InvM (n : Nat) (xs ys : List (List UInt8 × Bool)) (r1 r2 : Rt) (h0 : Heap) (k : Nat) (σ : Slots) (h : Heap) : Prop := ∃ i, i ≤ xs.length ∧ k = xs.length - i ∧ σ 7 = .int .i64 n ∧ σ 13 = .list 2 (ys.map lnA) r2 ∧ σ 88 = .list 2 (xs.map lnA) r1 ∧ σ 89 = .int .i64 xs.length ∧ σ 90 = .int .i64 i ∧ h.take h0.length = h0
theorem more_loop (X : CallO) (hX : ∀ f, f ≠ 13 → f ≠ 14 → ∀ a h, X f a h = none) (n : Nat) (xs ys : List (List UInt8 × Bool)) (h0 : Heap) (hl : xs.length = ys.length) (hx : xs.length ≤ 1000000) (R : ∀ (i : Nat) (x y : List UInt8 × Bool), xs[i]? = some x → ys[i]? = some y → lnR n x y) (σ : Slots) (h : Heap) (ht : h.take h0.length = h0)
    (s7 : σ 7 = .int .i64 n) (s13 : ∃ r, σ 13 = .list 2 (ys.map lnA) r) (s88 : ∃ r, σ 88 = .list 2 (xs.map lnA) r) (s89 : σ 89 = .int .i64 xs.length) (s90 : σ 90 = .int .i64 0) :
    Wp (lim X T) (.loop L4_0) (blkQ 0 (thenQ (Wp (lim X T) K4_0 fun e σ h => isEnd e ∧ finish h0 h (σ 6) = some (AV.bool true, h0)) fun e σ h => isEnd e ∧ finish h0 h (σ 6) = some (AV.bool true, h0))) σ h := by
  obtain ⟨r2, s13⟩ := s13
  obtain ⟨r1, s88⟩ := s88
  refine Wp.loop (InvM n xs ys r1 r2 h0) ?_ (n := xs.length) ⟨0, by omega, by omega, s7, s13, s88, s89, s90, ht⟩
  clear ht s7 s13 s88 s89 s90
  rintro k σ h ⟨i, hi, rfl, s7, s13, s88, s89, s90, ht⟩
  by_cases hlt : i < xs.length
  · have hlt2 : i < ys.length := by omega
    obtain ⟨x, ex⟩ : ∃ x, xs[i]? = some x := ⟨_, List.getElem?_eq_getElem hlt⟩
    obtain ⟨y, ey⟩ : ∃ y, ys[i]? = some y := ⟨_, List.getElem?_eq_getElem hlt2⟩
    obtain ⟨k1, k2⟩ := R i x y ex ey
    have pre : y.1.take x.1.length = x.1 := by rw [k1]; simp
    have hll : x.1.length = min n y.1.length := by rw [k1]; simp
    have hmin : (if y.1.length < n then (y.1.length : Int) else (n : Int)) = x.1.length := by split <;> omega
    have e64 : IntKind.wrap .i64 ((i : Int) + 1) = ((i + 1 : Nat) : Int) := by rw [wrap64 (by omega) (by omega)]; rfl
    have next : ∀ (σ' : Slots) (g : Heap), σ' 7 = σ 7 → σ' 13 = σ 13 → σ' 88 = σ 88 → σ' 89 = σ 89 → σ' 90 = .int .i64 ((i + 1 : Nat) : Int) → g.take h0.length = h0 → ∃ m, m < xs.length - i ∧ InvM n xs ys r1 r2 h0 m σ' g :=
      fun σ' g a1 a2 a3 a4 a5 a6 => ⟨xs.length - (i + 1), by omega, i + 1, by omega, rfl, by rw [a1, s7], by rw [a2, s13], by rw [a3, s88], by rw [a4, s89], a5, a6⟩
    obtain ⟨y1, y2⟩ := y
    obtain ⟨x1, x2⟩ := x
    simp only at k1 k2 pre hll hmin
    cases y2 <;> by_cases hny : n < y1.length <;> simp [hny] at k2 <;> subst k2
    all_goals
      simp [-getElem?_pos, wL4_0, s7, s13, s88, s89, s90, hlt, ex, ey, lnA, hasPrefix_ok X hX, pre, hmin, hny, e64]
      refine next _ _ (by simp) (by simp) (by simp) (by simp) (by simp) ?_
      rw [take_app (by have := congrArg List.length ht; simp at this; omega), ht]
  · have hk : i = xs.length := by omega
    simp [wL4_0, s89, s90, hlt, wK4_0, awake_ok X hX, finish_of_take ht]

theorem more_ok (X : CallO) (hX : ∀ f, f ≠ 13 → f ≠ 14 → ∀ a h, X f a h = none) (k l : Nat) (hk : k ≤ 65535) (hl : l ≤ 65535) (b : List UInt8) (rb : Rt) (h0 : Heap) :
    (lim X T).call 4 [.int .u16 k, .int .u16 l, .list 1 (ofBytes b) rb] h0 = some (.bool true, h0) := by
  refine lim_call_of tab4 (hX _ (by decide) (by decide) _ _) (callF_wp ?_)
  by_cases hb : b.length ≤ 3000
  · have hn : ¬ (3000 < (b.length : Int)) := by omega
    have w0 : IntKind.wrap .i64 (k : Int) = k := wrap64 (by omega) (by omega)
    have w1 : IntKind.wrap .i64 (1 + (k : Int).tmod 2000) = ((k % 2000 + 1 : Nat) : Int) := by
      rw [show (k : Int).tmod 2000 = ((k % 2000 : Nat) : Int) from rfl, wrap64 (by omega) (by omega)]; omega
    have w2 : IntKind.wrap .i64 (l : Int) = l := wrap64 (by omega) (by omega)
    have w3 : IntKind.wrap .i64 (2001 - ((k % 2000 + 1 : Nat) : Int)) = ((2000 - k % 2000 : Nat) : Int) := by rw [wrap64 (by omega) (by omega)]; omega
    have w4 : (l : Int).tmod ((2000 - k % 2000 : Nat) : Int) = ((l % (2000 - k % 2000) : Nat) : Int) := by rw [Int.ofNat_tmod]
    have hlt : l % (2000 - k % 2000) < 2000 - k % 2000 := Nat.mod_lt _ (by omega)
    have w5 : IntKind.wrap .i64 (((k % 2000 + 1 : Nat) : Int) + ((l % (2000 - k % 2000) : Nat) : Int)) = ((k % 2000 + 1 + l % (2000 - k % 2000) : Nat) : Int) := by rw [wrap64 (by omega) (by omega)]; omega
    have w6 : ¬ (((2000 - k % 2000 : Nat) : Int) = 0) := by omega
    have e1 := fun rs h => all_eq0 X hX ((k % 2000 + 1 : Nat) : Int) (by omega) (by omega) b rb rs (by omega) h
    have e2 := fun rs h => all_eq0 X hX ((k % 2000 + 1 + l % (2000 - k % 2000) : Nat) : Int) (by omega) (by omega) b rb rs (by omega) h
    have R := more_push (n := k % 2000 + 1) (m := k % 2000 + 1 + l % (2000 - k % 2000)) (by omega) (by omega) b more_start
    have len : (pushB ((k % 2000 + 1 : Nat) : Int) St0 b).out.length ≤ b.length := by
      have := (pushB_len ((k % 2000 + 1 : Nat) : Int) b St0).2
      simpa [St0] using this
    generalize l % (2000 - k % 2000) = q at *
    generalize 2000 - k % 2000 = p at *
    generalize k % 2000 + 1 = n at *
    generalize hm : n + q = m at *
    generalize hs : pushB (n : Int) St0 b = s at *
    generalize hS : pushB (m : Int) St0 b = S at *
    obtain ⟨R1, R2, R3, R4, R5, R6⟩ := R
    have pre : S.held.take s.held.length = s.held := by rw [R2]; simp
    have ov : (S.held.length : Int) > n ↔ n < S.held.length := by omega
    have w7 : ¬ p = 0 := by omega
    cases hSo : S.over <;> by_cases hnl : n < S.held.length <;> rw [hSo] at R3 e2
    all_goals
      simp [hnl] at R3
      simp [wB4, w0, w1, w2, w3, w4, w5, w7, e1, e2, hn, R1, pre, R3, R5, hnl, hasPrefix_ok X hX, Nat.add_assoc]
      refine more_loop X hX n s.out S.out h0 R5 (by omega) R6 _ _ ?_ ?_ ?_ ?_ ?_ ?_ <;> simp [R5]
  · have : 3000 < (b.length : Int) := by omega
    simp [wB4, this, awake_ok X hX]

theorem FrameMore_law (xs : List AV) (h : HasArgs Try.prog [22, 22, 23] xs) : (lim noX T).call 4 xs [] = some (.bool true, []) := by
  obtain ⟨a0, r0, n0, rfl, h0, h⟩ := h
  obtain ⟨a1, r1, n1, rfl, h1, h⟩ := h
  obtain ⟨a2, r2, n2, rfl, h2, h⟩ := h
  obtain rfl := args_nil h
  obtain ⟨k, rfl, hk⟩ := has_u16 Try.underlying22 h0
  obtain ⟨l, rfl, hl⟩ := has_u16 Try.underlying22 h1
  obtain ⟨b, rfl, _⟩ := has_bytes Try.underlying23 Try.underlying5 (by kernel_rfl) h2
  exact more_ok noX (fun _ _ _ _ _ => rfl) k l hk hl b _ []
end Go.Proofs.Ytmcjnbkodcdjnaa
