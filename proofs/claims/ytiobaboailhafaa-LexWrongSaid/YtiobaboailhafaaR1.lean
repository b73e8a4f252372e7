/-
  The reference: rows of digits.
-/
import Derived.Test.YtiobaboailhafaaR0
set_option linter.unusedVariables false
set_option linter.unusedSimpArgs false
namespace Go.Proofs.Ytiobaboailhafaa
open Go Go.Am

/-- What a row of digits says; of more than eight: -1. -/
def digV (base n : Nat) (s : List UInt8) : Int := if 8 < n then -1 else numN base (s.take n)
def InvD (s : List UInt8) (a base n : Nat) (h0 : Heap) (k : Nat) (σ : Slots) (h : Heap) : Prop := ∃ i, i ≤ n ∧ k = n - i ∧ σ 0 = .str s ∧ σ 1 = .int .i64 a ∧ σ 2 = .int .i64 base ∧ σ 8 = .int .i64 i ∧ σ 9 = .int .i64 (numN base ((s.drop a).take (min i 8))) ∧ h = h0

theorem rdigits_ok (s : List UInt8) (a base : Nat) (hs : s.length ≤ 1000000000) (ha : a ≤ 1000000002) (hb : base ≤ 16) (h0 : Heap) :
    M.call 70 [.str s, .int .i64 a, .int .i64 base] h0 = some (.tup [.int .i64 (runN (hexC base) (s.drop a)), .int .i64 (digV base (runN (hexC base) (s.drop a)) (s.drop a))], h0) := by
  refine call_of tab70 rfl (callF_wp ?_)
  have hnl := runN_le (hexC base) (s.drop a)
  simp at hnl
  have hget : ∀ {i : Nat} {c : UInt8}, i < runN (hexC base) (s.drop a) → s[a + i]? = some c → hexC base c = true := fun h1 h2 => runN_get h1 (by rw [List.getElem?_drop]; exact h2)
  have hend : ∀ {c : UInt8}, s[a + runN (hexC base) (s.drop a)]? = some c → hexC base c = false := fun h2 => runN_end (by rw [List.getElem?_drop]; exact h2)
  generalize hn : runN (hexC base) (s.drop a) = n at *
  simp [wB70]
  refine Wp.loop (InvD s a base n h0) ?_ (n := n) ⟨0, by omega, by omega, by simp, by simp, by simp, by simp, by simp [numN], rfl⟩
  rintro k σ h ⟨i, hi, rfl, s0, s1, s2, s8, s9, rfl⟩
  have w1 : IntKind.wrap .i64 ((a : Int) + i) = ((a + i : Nat) : Int) := by rw [wrap64 (by omega) (by omega)]; simp
  have e64 : IntKind.wrap .i64 ((i : Int) + 1) = ((i + 1 : Nat) : Int) := by rw [wrap64 (by omega) (by omega)]; rfl
  by_cases hlt : a + i < s.length
  · obtain ⟨c, ec⟩ : ∃ c, s[a + i]? = some c := ⟨_, List.getElem?_eq_getElem hlt⟩
    have hnb := nib_le c
    by_cases hr : i < n
    · have hc := hget hr ec
      simp only [hexC, decide_eq_true_eq] at hc
      have h1 : hexI c = nib c := by unfold hexI; rw [if_neg (by omega)]
      have hc' : (nib c : Int) < base := by omega
      by_cases h8 : i < 8
      · have h8' : (i : Int) < 8 := by omega
        have m1 : min i 8 = i := by omega
        have m2 : min (i + 1) 8 = i + 1 := by omega
        rw [m1] at s9
        have hnn := numN_le base hb ((s.drop a).take i)
        have hp : 18 ^ (((s.drop a).take i).length + 1) ≤ 18 ^ 9 := Nat.pow_le_pow_right (by omega) (by simp; omega)
        have hm : numN base ((s.drop a).take i) * base ≤ numN base ((s.drop a).take i) * 16 := Nat.mul_le_mul_left _ hb
        have hst : numN base ((s.drop a).take (i + 1)) = numN base ((s.drop a).take i) * base + nib c := by simp [numN, List.take_add_one, ec]
        generalize numN base ((s.drop a).take i) = x at *
        have w3 : IntKind.wrap .i64 ((x : Int) * base) = ((x * base : Nat) : Int) := by rw [wrap64 (by omega) (by omega)]; simp
        have w4 : IntKind.wrap .i64 (((x * base : Nat) : Int) + (nib c : Int)) = ((x * base + nib c : Nat) : Int) := by rw [wrap64 (by omega) (by omega)]; simp
        simp [-getElem?_pos, -Int.natCast_mul, -Int.natCast_add, wL70_0, s0, s1, s2, s8, s9, hlt, ec, rhex_ok, h1, hc, hc', h8, h8', e64, w1, w3, w4]
        exact ⟨n - (i + 1), by omega, i + 1, by omega, rfl, by simp [s0], by simp [s1], by simp [s2], by simp, by rw [m2, hst]; simp, rfl⟩
      · have h8' : ¬ (i : Int) < 8 := by omega
        have m1 : min i 8 = 8 := by omega
        have m2 : min (i + 1) 8 = 8 := by omega
        rw [m1] at s9
        simp [-getElem?_pos, -Int.natCast_add, wL70_0, s0, s1, s2, s8, s9, hlt, ec, rhex_ok, h1, hc, hc', h8, h8', e64, w1]
        exact ⟨n - (i + 1), by omega, i + 1, by omega, rfl, by simp [s0], by simp [s1], by simp [s2], by simp, by rw [m2]; simp [s9], rfl⟩
    · have hin : i = n := by omega
      subst hin
      have hc := hend ec
      simp only [hexC, decide_eq_false_iff_not] at hc
      by_cases h16 : nib c = 16
      · have h1 : hexI c = -1 := by unfold hexI; rw [if_pos h16]
        unfold digV
        by_cases h8 : 8 < i
        · have h8' : (8 : Int) < i := by omega
          simp [-getElem?_pos, -Int.natCast_add, wL70_0, wK70_0, s0, s1, s2, s8, s9, hlt, ec, rhex_ok, h1, w1, h8, h8']
        · have h8' : ¬ (8 : Int) < i := by omega
          have m1 : min i 8 = i := by omega
          rw [m1] at s9
          simp [-getElem?_pos, -Int.natCast_add, wL70_0, wK70_0, s0, s1, s2, s8, s9, hlt, ec, rhex_ok, h1, w1, h8, h8']
      · have h1 : hexI c = nib c := by unfold hexI; rw [if_neg h16]
        have hc' : ¬ (nib c : Int) < base := by omega
        unfold digV
        by_cases h8 : 8 < i
        · have h8' : (8 : Int) < i := by omega
          simp [-getElem?_pos, -Int.natCast_add, wL70_0, wK70_0, s0, s1, s2, s8, s9, hlt, ec, rhex_ok, h1, hc, hc', w1, h8, h8']
        · have h8' : ¬ (8 : Int) < i := by omega
          have m1 : min i 8 = i := by omega
          rw [m1] at s9
          simp [-getElem?_pos, -Int.natCast_add, wL70_0, wK70_0, s0, s1, s2, s8, s9, hlt, ec, rhex_ok, h1, hc, hc', w1, h8, h8']
  · have hin : i = n := by omega
    subst hin
    unfold digV
    by_cases h8 : 8 < i
    · have h8' : (8 : Int) < i := by omega
      simp [-getElem?_pos, -Int.natCast_add, wL70_0, wK70_0, s0, s1, s2, s8, s9, hlt, w1, h8, h8']
    · have h8' : ¬ (8 : Int) < i := by omega
      have m1 : min i 8 = i := by omega
      rw [m1] at s9
      simp [-getElem?_pos, -Int.natCast_add, wL70_0, wK70_0, s0, s1, s2, s8, s9, hlt, w1, h8, h8']
end Go.Proofs.Ytiobaboailhafaa
