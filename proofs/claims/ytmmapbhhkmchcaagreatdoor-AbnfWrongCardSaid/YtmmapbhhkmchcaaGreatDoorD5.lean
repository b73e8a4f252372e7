/-
  (The reference's texts stand elsewhere.)
-/
import Derived.Test.YtmmapbhhkmchcaaGreatDoorD4
set_option linter.unusedVariables false
set_option linter.unusedSimpArgs false
namespace Go.Proofs.YtmmapbhhkmchcaaGreatDoor
open Go Go.Am

end Go.Proofs.YtmmapbhhkmchcaaGreatDoor
