/-
  The reference: bytes, digits.
-/
import Derived.Test.YtiobaboailhafaaS8
set_option linter.unusedVariables false
set_option linter.unusedSimpArgs false
namespace Go.Proofs.Ytiobaboailhafaa
open Go Go.Am

theorem lit_le (k n : Nat) : (no_index (OfNat.ofNat k : Int) ≤ (n : Int)) = ((OfNat.ofNat k : Nat) ≤ n) := propext ⟨fun h => Int.ofNat_le.1 h, fun h => Int.ofNat_le.2 h⟩
theorem le_lit (k n : Nat) : ((n : Int) ≤ no_index (OfNat.ofNat k : Int)) = (n ≤ (OfNat.ofNat k : Nat)) := propext ⟨fun h => Int.ofNat_le.1 h, fun h => Int.ofNat_le.2 h⟩
theorem lit_lt (k n : Nat) : (no_index (OfNat.ofNat k : Int) < (n : Int)) = ((OfNat.ofNat k : Nat) < n) := propext ⟨fun h => Int.ofNat_lt.1 h, fun h => Int.ofNat_lt.2 h⟩
theorem lt_lit (k n : Nat) : ((n : Int) < no_index (OfNat.ofNat k : Int)) = (n < (OfNat.ofNat k : Nat)) := propext ⟨fun h => Int.ofNat_lt.1 h, fun h => Int.ofNat_lt.2 h⟩
theorem eq_lit (k n : Nat) : ((n : Int) = no_index (OfNat.ofNat k : Int)) = (n = (OfNat.ofNat k : Nat)) := propext ⟨fun h => Int.ofNat_inj.1 h, fun h => Int.ofNat_inj.2 h⟩

theorem rdigit_ok (c : UInt8) (h : Heap) : M.call 53 [.int .u8 c.toNat] h = some (.bool (digC c), h) := by
  refine call_of tab53 rfl (callF_wp ?_)
  by_cases h1 : 48 ≤ c.toNat <;> by_cases h2 : c.toNat ≤ 57 <;> simp [wB53, digC, h1, h2, lit_le, le_lit]
theorem rletter_ok (c : UInt8) (h : Heap) : M.call 28 [.int .u8 c.toNat] h = some (.bool (letC c), h) := by
  refine call_of tab28 rfl (callF_wp ?_)
  by_cases h1 : 97 ≤ c.toNat <;> by_cases h2 : c.toNat ≤ 122 <;> by_cases h3 : 65 ≤ c.toNat <;> by_cases h4 : c.toNat ≤ 90 <;> simp [wB28, letC, h1, h2, h3, h4, lit_le, le_lit] <;> (try omega)
theorem rblank_ok (c : UInt8) (h : Heap) : M.call 29 [.int .u8 c.toNat] h = some (.bool (blkC c), h) := by
  refine call_of tab29 rfl (callF_wp ?_)
  have e1 := u8_eq c 32 (by omega)
  have e2 := u8_eq c 9 (by omega)
  simp at e1 e2
  by_cases h1 : c = 32 <;> by_cases h2 : c = 9 <;> simp [wB29, e1, e2, h1, h2, blkC]
/-- A digit's value of base 16; -1: it is none. -/
def hexI (c : UInt8) : Int := if nib c = 16 then -1 else nib c
theorem rhex_ok (c : UInt8) (h : Heap) : M.call 77 [.int .u8 c.toNat] h = some (.int .i64 (hexI c), h) := by
  refine call_of tab77 rfl (callF_wp ?_)
  have hb := c.toNat_lt
  have w1 : IntKind.wrap .i64 (c.toNat : Int) = c.toNat := wrap64 (by omega) (by omega)
  have w2 : IntKind.wrap .i64 ((c.toNat : Int) - 48) = c.toNat - 48 := wrap64 (by omega) (by omega)
  have w3 : IntKind.wrap .i64 ((c.toNat : Int) - 87) = c.toNat - 87 := wrap64 (by omega) (by omega)
  have w4 : IntKind.wrap .i64 ((c.toNat : Int) - 55) = c.toNat - 55 := wrap64 (by omega) (by omega)
  unfold hexI nib
  cases h0 : digC c with
  | true =>
    have : 48 ≤ c.toNat ∧ c.toNat ≤ 57 := by simpa [digC] using h0
    simp [wB77, rdigit_ok, h0, w1, w2]
    split <;> omega
  | false =>
    by_cases h1 : 97 ≤ c.toNat <;> by_cases h2 : c.toNat ≤ 102 <;> by_cases h3 : 65 ≤ c.toNat <;> by_cases h4 : c.toNat ≤ 70 <;> simp [wB77, rdigit_ok, h0, w1, w3, w4, h1, h2, h3, h4, lit_le, le_lit] <;> (try split) <;> omega
end Go.Proofs.Ytiobaboailhafaa
