/-
  The statement 'DotsLinesSaid': for every input the law returns true, and each argument reads afterwards as it did.
-/
import Derived.Test.YtbhdfmkcoolghaaRows
import Derived.Test.YtbhdfmkcoolghaaW2
import Derived.ProofKit
import Derived.OpenShut
import Derived.HandedShaped
namespace Go.Proofs.Ytbhdfmkcoolghaa.lawDotsLines
open Go Go.Am Go.ChangeShapes Go.WideShapes Go.RowKit
set_option linter.unusedVariables false

theorem own : ownKnob Try.prog.godebug = none := by kernel_rfl

theorem spec {H : Type} (ds : List (DataW H)) (h : ds.length = 1) : Rows.dotsLinesSpec.fn H ds = { results := [.lit (.bool true)], args := ds } := by
  match ds, h with
  | [d0], _ => rfl

set_option maxRecDepth 100000 in
theorem lifted (os : Os) (started : os.Started) (H : Type) (enc : TypeId × Value → H) :
    ReturnsInHanded {} Try.checked os 4 .any (Rows.dotsLinesSpec.pre6 enc Try.prog Try.f4 Rows.dotsLinesRow.domain false) (Rows.dotsLinesSpec.post enc Try.prog Try.f4 false true false false) := by
  refine returnsInHanded_of_change_shaped (C := Try.checked) own started (by kernel_rfl) Try.func4
    (ChangeSpec.witness6 (enc := enc) (C := Try.checked) false ⟨#[], #[.slice none 0 0], []⟩ 8 (by kernel_rfl) (by kernel_rfl) (by kernel_rfl) (by kernel_rfl)) ?_
  intro W base args ds gs before hval hW _ _ hS _
  exact law_contract (P := Try.prog) (lim_ok mixed extOk extFr) Try.func4 rfl (by kernel_rfl) (L := [22, 5]) (by kernel_rfl) (by kernel_rfl) (by kernel_rfl) (by kernel_rfl) (tb := Try.f4.resultTypes.toList.headD 0) (by kernel_rfl) (by kernel_rfl)
    Rows.dotsLinesSpec rfl (G := fun _ _ => True) (fun ds h => spec ds h) W base args ds gs before (fun g cs h => by simp [GT, gtList] at h) (zok_of_shaped hS) (fun xs h => DotsLines_law xs h) hval hW

theorem proved : Rows.DotsLinesSaid :=
  OpenClaim.holds_of_wide 4 Try.f4 rfl rfl rfl rfl rfl rfl rfl ⟨rfl, rfl, rfl, rfl, rfl⟩ rfl rfl rfl rfl rfl (by kernel_rfl) Try.func4 (by kernel_rfl)
    (of_decide_eq_true (by kernel_rfl)) (by unfold Func.isWrapper; first | (rw [if_pos (by decide +kernel)]; kernel_rfl) | (rw [if_neg (by decide +kernel)]; exact ⟨rfl, rfl⟩))
    (fun os started H enc _ => lifted os started H enc)
end Go.Proofs.Ytbhdfmkcoolghaa.lawDotsLines

