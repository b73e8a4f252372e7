/-
  DotsBack.
-/
import Derived.Test.YtbhdfmkcoolghaaV1
import Derived.Test.YtbhdfmkcoolghaaZ0
set_option linter.unusedVariables false
set_option linter.unusedSimpArgs false
namespace Go.Proofs.Ytbhdfmkcoolghaa
open Go Go.Am Go.RowKit

theorem hasSuffix2_ok (s p : List UInt8) (hs : s.length ≤ 1000000000) (h : Heap) : ML.call 24 [.str s, .str p] h = some (.bool (decide (p.length ≤ s.length ∧ s.drop (s.length - p.length) = p)), h) := by
  refine lim_call_of tab24 (XL_none (by decide) (by decide) (by decide) _ _) (callF_wp ?_)
  by_cases hl : p.length ≤ s.length
  · have w : IntKind.wrap .i64 ((s.length : Int) - p.length) = ((s.length - p.length : Nat) : Int) := by rw [wrap64 (by omega) (by omega)]; omega
    have : ((s.length - p.length : Nat) : Int) ≤ s.length := by omega
    simp [wB24, hl, w, this]
  · simp [wB24, hl]
theorem hasSuffix_ok (s p : List UInt8) (hs : s.length ≤ 1000000000) (h : Heap) : ML.call 16 [.str s, .str p] h = some (.bool (decide (p.length ≤ s.length ∧ s.drop (s.length - p.length) = p)), h) := by
  refine lim_call_of tab16 (XL_none (by decide) (by decide) (by decide) _ _) (callF_wp ?_)
  simp [wB16, hasSuffix2_ok s p hs]
theorem hasEnd_ok (s : List UInt8) (hs : s.length ≤ 1000000000) (h : Heap) : ML.call 16 [.str s, .str [13, 10]] h = some (.bool (decide (endsW s)), h) := by
  rw [hasSuffix_ok s [13, 10] hs h]
  rfl
theorem whole_ok (s : List UInt8) (r : Rt) (hs : s.length ≤ 100000000) (h : Heap) : ML.call 10 [.list 1 (ofBytes s) r] h = some (.str (wholeP s), h) := by
  refine lim_call_of tab10 (XL_none (by decide) (by decide) (by decide) _ _) (callF_wp ?_)
  have he := fun h => hasEnd_ok s (by omega) h
  unfold wholeP
  by_cases h1 : s = []
  · subst h1
    simp [wB10, show asBytes [] = some [] from rfl]
  · by_cases h2 : endsW s
    · simp [wB10, he, h1, h2]
    · have : s.length + 2 ≤ 140737488355328 := by omega
      simp [wB10, he, h1, h2, this]
theorem enc_len (s : List UInt8) : (encP s).length ≤ 4 * s.length + 3 := by
  have := encL_len s.length s
  show (encL (linesF s.length s) ++ [46, 13, 10]).length ≤ _
  simp
  omega
theorem decA_enc (s t : List UInt8) : decA (encP s ++ t) = .tup [.list 1 (ofBytes (wholeP s)) .no, .int .i64 ((encP s).length : Nat), .bool true] := by
  unfold decA
  rw [dec_enc, whole_lines]
theorem back_ok (s t : List UInt8) (rs rt : Rt) (hs : s.length ≤ 9223372036854775807) (ht : t.length ≤ 9223372036854775807) (h0 : Heap) : ML.call 3 [.list 1 (ofBytes s) rs, .list 1 (ofBytes t) rt] h0 = some (.bool true, h0) := by
  refine lim_call_of tab3 (XL_none (by decide) (by decide) (by decide) _ _) (callF_wp ?_)
  have aw := fun h => awake_ok h
  by_cases h1 : s.length ≤ 3000
  · by_cases h2 : t.length ≤ 3000
    · have n1 : ¬ (3000 < (s.length : Int)) := by omega
      have n2 : ¬ (3000 < (t.length : Int)) := by omega
      have el := enc_len s
      have he := fun h => encM s rs (by omega) h
      have hw := fun h => whole_ok s rs (by omega) h
      have hd := fun r h => decM (encP s ++ t) r (by simp; omega) h
      rw [decA_enc] at hd
      obtain ⟨r1, g1, p1, p2, p3⟩ := app_own (n0 := h0.length) (key := h0.length + 1) (sz := 1) (bytes := 1) (e := 5) (h := h0 ++ [AE.tok 1 0 5, AE.dead, AE.dead]) (s' := 1) (xs := []) (r := .tok h0.length) (x := .list 1 (ofBytes (encP s)) .no) (ys := ofBytes (encP s)) (by simp [srcOf]) (.inl rfl) (.inr ⟨h0.length, rfl, Nat.le_refl _, by simp⟩) (by omega) (by simp) (by simp; omega) (by simp; omega)
      have l1 := p3.len
      obtain ⟨r2, g2, q1, q2, q3⟩ := app_own (n0 := h0.length) (key := h0.length + 2) (sz := 1) (bytes := 1) (e := 5) (h := g1) (s' := 1) (xs := ofBytes (encP s)) (r := r1) (x := .list 1 (ofBytes t) rt) (ys := ofBytes t) (by simp [srcOf]) (.inl rfl) (by simpa using p2) (by omega) (by simp at l1; omega) (by simp; omega) (by simp; omega)
      have ht2 : g2.take h0.length = h0 := by rw [q3.take, p3.take]; simp
      rw [List.nil_append] at p1
      simp only [ofBytes_append] at q1
      simp [wB3, n1, n2, he, p1, q1, hd, hw, aw, finish_of_take ht2]
    · have n1 : ¬ (3000 < (s.length : Int)) := by omega
      have n2 : (3000 < (t.length : Int)) := by omega
      simp [wB3, n1, n2, aw]
  · have n1 : (3000 < (s.length : Int)) := by omega
    simp [wB3, n1, aw]
theorem DotsBack_law (xs : List AV) (h : HasArgs Try.prog [22, 22] xs) : (lim XL T).call 3 xs [] = some (.bool true, []) := by
  obtain ⟨a0, r0, n0, rfl, h0, h⟩ := h
  obtain ⟨a1, r1, n1, rfl, h1, h⟩ := h
  obtain rfl := args_nil h
  obtain ⟨s, rfl, hs⟩ := has_bytes Try.underlying22 Try.underlying5 (by kernel_rfl) h0
  obtain ⟨t, rfl, ht⟩ := has_bytes Try.underlying22 Try.underlying5 (by kernel_rfl) h1
  exact back_ok s t _ _ hs ht []
end Go.Proofs.Ytbhdfmkcoolghaa
