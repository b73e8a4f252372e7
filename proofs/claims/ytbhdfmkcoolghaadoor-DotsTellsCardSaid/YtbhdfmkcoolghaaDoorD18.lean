/-
  DotsTells: awake; rows that are written.
-/
import Derived.Test.YtbhdfmkcoolghaaDoorD17
set_option linter.unusedVariables false
set_option linter.unusedSimpArgs false
set_option maxRecDepth 20000
namespace Go.Proofs.YtbhdfmkcoolghaaDoor
open Go Go.Am Go.RowKit

theorem awake_ok (h : Heap) : ML.call 4 [] h = some (.bool true, h) := by
  refine lim_call_of tab4 (XL_none (by decide) (by decide) (by decide) (by decide) _ _) (callF_wp ?_)
  have d1 : ∀ r h, ML.call 9 [.list 1 (ofBytes [46, 13, 10, 46, 120]) r] h = some (.tup [.list 1 [] .no, .int .i64 3, .bool true], h) := fun r h => by
    have e : decP [46, 13, 10, 46, 120] = some ([], 3) := by kernel_rfl
    have := decM [46, 13, 10, 46, 120] r (by simp) h
    unfold decA at this
    rw [e] at this
    exact this
  have d2 : ∀ r h, ML.call 9 [.list 1 (ofBytes [97, 46]) r] h = some (.tup [.list 1 [] .no, .int .i64 0, .bool false], h) := fun r h => by
    have e : decP [97, 46] = none := by kernel_rfl
    have := decM [97, 46] r (by simp) h
    unfold decA at this
    rw [e] at this
    exact this
  have e1 : ∀ r h, ML.call 11 [.list 1 (ofBytes [97, 13, 10, 46, 98]) r] h = some (.gl 1 h.length 11, h ++ [.grow 1 (ofBytes [97, 13, 10, 46, 46, 98, 13, 10, 46, 13, 10])]) := fun r h => by
    have e : encP [97, 13, 10, 46, 98] = [97, 13, 10, 46, 46, 98, 13, 10, 46, 13, 10] := by kernel_rfl
    have := encM [97, 13, 10, 46, 98] r (by simp) h
    rw [e] at this
    exact this
  have e2 : ∀ r h, ML.call 11 [.list 1 [] r] h = some (.gl 1 h.length 3, h ++ [.grow 1 (ofBytes [46, 13, 10])]) := fun r h => by
    have e : encP [] = [46, 13, 10] := by kernel_rfl
    have := encM [] r (by simp) h
    rw [e] at this
    exact this
  have u1 : ∀ h, ML.call 5 [.str [46]] h = some (.tup [.str [], .bool true], h) := fun h => unstuff_ok noxL [46] h
  have u2 : ∀ h, ML.call 5 [.str [46, 46]] h = some (.tup [.str [46], .bool false], h) := fun h => unstuff_ok noxL [46, 46] h
  have s1 : ∀ h, ML.call 7 [.str [46, 97]] h = some (.str [46, 46, 97], h) := fun h => stuff_ok noxL [46, 97] (by simp) h
  have s2 : ∀ h, ML.call 7 [.str [97, 46]] h = some (.str [97, 46], h) := fun h => stuff_ok noxL [97, 46] (by simp) h
  simp [wB4, d1, d2, e1, e2, u1, u2, s1, s2]
end Go.Proofs.YtbhdfmkcoolghaaDoor
