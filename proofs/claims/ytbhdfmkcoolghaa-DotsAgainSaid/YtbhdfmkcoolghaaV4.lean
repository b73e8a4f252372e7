/-
  DotsFront, DotsAgain: the walks.
-/
import Derived.Test.YtbhdfmkcoolghaaV2
import Derived.Test.YtbhdfmkcoolghaaV3
set_option linter.unusedVariables false
set_option linter.unusedSimpArgs false
namespace Go.Proofs.Ytbhdfmkcoolghaa
open Go Go.Am Go.RowKit

theorem front_ok (s : List UInt8) (rs : Rt) (k : Nat) (hs : s.length ≤ 9223372036854775807) (hk : k ≤ 65535) (h0 : Heap) : ML.call 5 [.list 1 (ofBytes s) rs, .int .u16 k] h0 = some (.bool true, h0) := by
  refine lim_call_of tab5 (XL_none (by decide) (by decide) (by decide) _ _) (callF_wp ?_)
  have aw := fun h => awake_ok h
  by_cases h1 : s.length ≤ 3000
  · have n1 : ¬ (3000 < (s.length : Int)) := by omega
    have el := enc_len s
    obtain ⟨l1, l2⟩ := enc_lens s
    have he := fun h => encM s rs (by omega) h
    have hw := fun h => whole_ok s rs (by omega) h
    have wl := (wholeP_len s).2
    have hc := fun h => cntM (wholeP s) [13, 10] (by omega) (by simp) h
    have cl := Lib.count_le (wholeP s) [13, 10]
    generalize hS : encP s = S at *
    generalize hC : Lib.count (wholeP s) [13, 10] = C at *
    have hz : ¬ S.length = 0 := by omega
    have hrem : (k : Int).tmod (S.length : Int) = ((k % S.length : Nat) : Int) := by rw [Int.ofNat_tmod]
    have hm : k % S.length < S.length := Nat.mod_lt _ (by omega)
    have hf : decA (S.take (k % S.length)) = .tup [.list 1 [] .no, .int .i64 0, .bool false] := by
      unfold decA
      rw [← hS, enc_front s _ (by rw [hS]; exact hm)]
    generalize k % S.length = m at *
    have hd := fun r h => decM (S.take m) r (by simp; omega) h
    rw [hf] at hd
    have w0 : IntKind.wrap .i64 (k : Int) = k := wrap64 (by omega) (by omega)
    have w1 : IntKind.wrap .i64 ((s.length : Int) + 3) = (s.length : Int) + 3 := wrap64 (by omega) (by omega)
    have w2 : IntKind.wrap .i64 ((s.length : Int) + C) = (s.length : Int) + C := wrap64 (by omega) (by omega)
    have w3 : IntKind.wrap .i64 ((s.length : Int) + C + 5) = (s.length : Int) + C + 5 := wrap64 (by omega) (by omega)
    have c1 : (s.length : Int) + 3 ≤ S.length := by omega
    have c2 : (S.length : Int) ≤ (s.length : Int) + C + 5 := by omega
    have c3 : (m : Int) ≤ S.length := by omega
    simp [wB5, n1, he, hw, hc, hz, hrem, hd, w0, w1, w2, w3, c1, c2, c3, aw]
  · have n1 : (3000 < (s.length : Int)) := by omega
    simp [wB5, n1, aw]
theorem DotsFront_law (xs : List AV) (h : HasArgs Try.prog [22, 43] xs) : (lim XL T).call 5 xs [] = some (.bool true, []) := by
  obtain ⟨a0, r0, n0, rfl, h0, h⟩ := h
  obtain ⟨a1, r1, n1, rfl, h1, h⟩ := h
  obtain rfl := args_nil h
  obtain ⟨s, rfl, hs⟩ := has_bytes Try.underlying22 Try.underlying5 (by kernel_rfl) h0
  obtain ⟨k, rfl, hk⟩ := has_u16 Try.underlying43 h1
  exact front_ok s _ k hs hk []
theorem again_ok (s : List UInt8) (rs : Rt) (hs : s.length ≤ 9223372036854775807) (h0 : Heap) : ML.call 6 [.list 1 (ofBytes s) rs] h0 = some (.bool true, h0) := by
  refine lim_call_of tab6 (XL_none (by decide) (by decide) (by decide) _ _) (callF_wp ?_)
  have aw := fun h => awake_ok h
  by_cases h1 : s.length ≤ 3000
  · have n1 : ¬ (3000 < (s.length : Int)) := by omega
    have hd := fun h => decM s rs (by omega) h
    cases hp : decP s with
    | none =>
      have e : decA s = .tup [.list 1 [] .no, .int .i64 0, .bool false] := by unfold decA; rw [hp]
      rw [e] at hd
      simp [wB6, n1, hd, aw]
    | some x =>
      obtain ⟨b, n⟩ := x
      have e : decA s = .tup [.list 1 (ofBytes b) .no, .int .i64 ((n : Nat) : Int), .bool true] := by unfold decA; rw [hp]
      rw [e] at hd
      obtain ⟨a1, a2, ⟨y, a3⟩, a4, a5, a6, a7⟩ := again_all hp
      have e2 : decA (s.take n) = .tup [.list 1 (ofBytes b) .no, .int .i64 ((n : Nat) : Int), .bool true] := by unfold decA; rw [a6]
      have hd2 := fun r h => decM (s.take n) r (by simp; omega) h
      rw [e2] at hd2
      have el := enc_len b
      have hd3 := fun r h => decM (encP b) r (by omega) h
      have e3 : decA (encP b) = .tup [.list 1 (ofBytes b) .no, .int .i64 ((encP b).length : Nat), .bool true] := by
        have := decA_enc b []
        rw [List.append_nil, ← a4] at this
        exact this
      rw [e3] at hd3
      have he := fun h => encM b .no (by omega) h
      have hw := fun h => whole_ok b .no (by omega) h
      rw [← a4] at hw
      have hc := fun h => cntM s [46] (by omega) (by simp) h
      rw [Lib.count_one] at hc
      have hcl : s.count 46 ≤ s.length := List.count_le_length
      have hsf : ∀ h, ML.call 16 [.str (13 :: 10 :: s.take n), .str [13, 10, 46, 13, 10]] h = some (.bool true, h) := fun h => by
        rw [hasSuffix_ok _ _ (by simp; omega) h, show (13 :: 10 :: s.take n) = y ++ [13, 10, 46, 13, 10] from a3]
        simp
      generalize hC : s.count 46 = C at *
      have w1 : IntKind.wrap .i64 ((n : Int) - C) = (n : Int) - C := wrap64 (by omega) (by omega)
      have c1 : ¬ ((n : Int) < 3) := by omega
      have c2 : ¬ ((s.length : Int) < n) := by omega
      have c3 : (n : Int) - C ≤ (encP b).length := by omega
      have c4 : (n : Int) ≤ s.length := by omega
      have c5 : n + 2 ≤ 140737488355328 := by omega
      have c6 : n ≤ s.length := a2
      simp [wB6, n1, hd, hd2, hd3, he, hw, hc, hsf, w1, c1, c2, c3, c4, c5, c6, aw]
      omega
  · have n1 : (3000 < (s.length : Int)) := by omega
    simp [wB6, n1, aw]
theorem DotsAgain_law (xs : List AV) (h : HasArgs Try.prog [22] xs) : (lim XL T).call 6 xs [] = some (.bool true, []) := by
  obtain ⟨a0, r0, n0, rfl, h0, h⟩ := h
  obtain rfl := args_nil h
  obtain ⟨s, rfl, hs⟩ := has_bytes Try.underlying22 Try.underlying5 (by kernel_rfl) h0
  exact again_ok s _ hs []
end Go.Proofs.Ytbhdfmkcoolghaa
