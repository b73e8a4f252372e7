/-
  (The reference's texts stand elsewhere.)
-/
import Derived.Test.YtmmapbhhkmchcaaDoorD4
set_option linter.unusedVariables false
set_option linter.unusedSimpArgs false
namespace Go.Proofs.YtmmapbhhkmchcaaDoor
open Go Go.Am

end Go.Proofs.YtmmapbhhkmchcaaDoor
