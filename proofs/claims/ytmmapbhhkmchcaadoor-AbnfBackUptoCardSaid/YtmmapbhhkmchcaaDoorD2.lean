/-
  abnf: how often, and digits.
-/
import Derived.Test.YtmmapbhhkmchcaaDoorD1
set_option linter.unusedVariables false
set_option linter.unusedSimpArgs false
namespace Go.Proofs.YtmmapbhhkmchcaaDoor
open Go Go.Am

theorem dec_len : ∀ (k n : Nat), n < 10 ^ k → 1 ≤ k → (Lib.decDigits n).length ≤ k
  | 0, n, h, h1 => by omega
  | 1, n, h, h1 => by rw [Lib.decDigits, dif_pos (by omega)]; simp
  | k + 2, n, h, h1 => by
    rw [Lib.decDigits]
    split
    · simp
    · have := dec_len (k + 1) (n / 10) (by rw [Nat.div_lt_iff_lt_mul (by omega)]; rw [Nat.pow_succ] at h; exact h) (by omega)
      simp
      omega
theorem dec_len4 {n : Nat} (h : n ≤ 9999) : (Lib.decDigits n).length ≤ 4 := dec_len 4 n (by omega) (by omega)
def manyP (mn mx : Int) : List UInt8 := if mn = mx then Lib.itoa mn else (if 0 < mn then Lib.itoa mn else []) ++ 42 :: (if 0 ≤ mx then Lib.itoa mx else [])
theorem itoa_len4 {n : Int} (h0 : 0 ≤ n) (h : n ≤ 9999) : (Lib.itoa n).length ≤ 4 := by
  unfold Lib.itoa
  rw [if_neg (by omega)]
  exact dec_len4 (by omega)
theorem many_len {mn mx : Int} (h1 : 0 ≤ mn) (h2 : mn ≤ 9999) (h4 : mx ≤ 9999) : (manyP mn mx).length ≤ 9 := by
  have a1 := itoa_len4 h1 h2
  unfold manyP
  split
  · omega
  · split <;> split
    · rename_i q
      have := itoa_len4 q h4
      simp; omega
    · simp; omega
    · rename_i q
      have := itoa_len4 q h4
      simp; omega
    · simp
theorem many_ok (mn mx : Int) (h1 : 0 ≤ mn) (h2 : mn ≤ 9999) (h3 : -1 ≤ mx) (h4 : mx ≤ 9999) (h : Heap) : M.call 38 [.int .i64 mn, .int .i64 mx] h = some (.str (manyP mn mx), h) := by
  refine call_of tab38 rfl (callF_wp ?_)
  have i1 := fun h => itoa_ok mn (by omega) (by omega) h
  have i2 := fun h => itoa_ok mx (by omega) (by omega) h
  have a1 := itoa_len4 h1 h2
  have b1 : (Lib.itoa mn).length + 1 ≤ 140737488355328 := by omega
  unfold manyP
  by_cases c1 : 0 < mn
  · by_cases c2 : mn = mx
    · rw [← c2]
      simp [wB38, wJ38_0, wJ38_1, i1, c1, b1]
    · by_cases c3 : 0 ≤ mx
      · have a2 := itoa_len4 c3 h4
        have b2 : (Lib.itoa mn).length + (1 + (Lib.itoa mx).length) ≤ 140737488355328 := by omega
        simp [wB38, wJ38_0, wJ38_1, i1, i2, c1, c2, c3, b1, b2, Nat.add_assoc]
      · simp [wB38, wJ38_0, wJ38_1, i1, i2, c1, c2, c3, b1]
  · by_cases c2 : mn = mx
    · rw [← c2]
      simp [wB38, wJ38_0, wJ38_1, i1, c1, b1]
    · by_cases c3 : 0 ≤ mx
      · have a2 := itoa_len4 c3 h4
        have b2 : 1 + (Lib.itoa mx).length ≤ 140737488355328 := by omega
        simp [wB38, wJ38_0, wJ38_1, i1, i2, c1, c2, c3, b2]
      · simp [wB38, wJ38_0, wJ38_1, i1, i2, c1, c2, c3]

def dgB (m : Nat) : UInt8 := UInt8.ofNat (48 + m)
theorem dgt_eq {m : Nat} (h : m ≤ 9) : IntKind.wrap .u8 (48 + (m : Int)) = ((dgB m).toNat : Int) := by
  unfold dgB
  rw [UInt8.toNat_ofNat', Nat.mod_eq_of_lt (by omega), wrap8 (by omega) (by omega)]
  omega
end Go.Proofs.YtmmapbhhkmchcaaDoor
