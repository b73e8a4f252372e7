/-
  AbnfLeaves: its arguments.
-/
import Derived.Test.YtmmapbhhkmchcaaGreatDoorI3
set_option linter.unusedVariables false
set_option linter.unusedSimpArgs false
set_option maxRecDepth 100000
namespace Go.Proofs.YtmmapbhhkmchcaaGreatDoor
open Go Go.Am

theorem AbnfLeaves_law (xs : List AV) (h : HasArgs Tryz.prog [9] xs) : (lim XS T).call 6 xs [] = some (.bool true, []) := by
  obtain ⟨a0, r0, n0, rfl, h0, h⟩ := h
  obtain rfl := args_nil h
  obtain ⟨s, rfl, _⟩ := has_str Tryz.underlying9 h0
  exact leaves_true s
end Go.Proofs.YtmmapbhhkmchcaaGreatDoor
