/-
  Bytes, all of them.
-/
import Derived.Test.YtmmapbhhkmchcaaDoorA14
set_option linter.unusedVariables false
set_option linter.unusedSimpArgs false
namespace Go.Proofs.YtmmapbhhkmchcaaDoor
open Go Go.Am

theorem allU8 {p : UInt8 → Bool} (h : ((List.range 256).all fun n => p (UInt8.ofNat n)) = true) (c : UInt8) : p c = true := by
  have := List.all_eq_true.1 h c.toNat (by simp; exact c.toNat_lt)
  simpa using this
end Go.Proofs.YtmmapbhhkmchcaaDoor
