/-
  An end without a memory.
-/
import Derived.Test.YtmmapbhhkmchcaaDoorE3
set_option linter.unusedVariables false
set_option linter.unusedSimpArgs false
namespace Go.Proofs.YtmmapbhhkmchcaaDoor
open Go Go.Am

theorem fin_nil (l : Heap) (b : Bool) : finish [] l (.bool b) = some (.bool b, []) := by
  have := finish_app [] l (.bool b)
  simpa using this
end Go.Proofs.YtmmapbhhkmchcaaDoor
