/-
  The statement 'LexWrongSaid': for every input the law returns true, and each argument reads afterwards as it did.
-/
import Derived.Test.YtiobaboailhafaaRows
import Derived.Test.YtiobaboailhafaaN8
import Derived.ProofKit
import Derived.OpenShut
namespace Go.Proofs.Ytiobaboailhafaa.lawLexWrong
open Go Go.Am Go.ChangeShapes Go.WideShapes Go.RowKit
set_option linter.unusedVariables false

theorem own : ownKnob Try.prog.godebug = none := by kernel_rfl

theorem spec {H : Type} (ds : List (DataW H)) (h : ds.length = 3) : Rows.lexWrongSpec.fn H ds = { results := [.lit (.bool true)], args := ds } := by
  match ds, h with
  | [d0, d1, d2], _ => rfl

set_option maxRecDepth 100000 in
theorem lifted (os : Os) (started : os.Started) (H : Type) (enc : TypeId × Value → H) :
    ReturnsInHanded {} Try.checked os 7 .any (Rows.lexWrongSpec.pre6 enc Try.prog Try.f7 Rows.lexWrongRow.domain false) (Rows.lexWrongSpec.post enc Try.prog Try.f7 false true false false) := by
  refine returnsInHanded_of_change (C := Try.checked) own started (by kernel_rfl) Try.func7
    (ChangeSpec.witness6 (enc := enc) (C := Try.checked) false ⟨#[], #[.string ⟨⟨[]⟩⟩, .int .u8 0, .string ⟨⟨[]⟩⟩], []⟩ 8 (by kernel_rfl) (by kernel_rfl) (by kernel_rfl) (by kernel_rfl)) ?_
  intro W base args ds gs before hval hW _ _
  exact law_contract (P := Try.prog) (lim_ok mixed extOk extFr) Try.func7 rfl (by kernel_rfl) (L := [9, 5]) (by kernel_rfl) (by kernel_rfl) (by kernel_rfl) (by kernel_rfl) (tb := Try.f7.resultTypes.toList.headD 0) (by kernel_rfl) (by kernel_rfl)
    Rows.lexWrongSpec rfl (G := fun _ _ => True) (fun ds h => spec ds h) W base args ds gs before (fun g cs h => by simp [GT, gtList] at h) trivial (fun xs h => LexWrong_law xs h) hval hW

theorem proved : Rows.LexWrongSaid :=
  OpenClaim.holds_of_wide 7 Try.f7 rfl rfl rfl rfl rfl rfl rfl ⟨rfl, rfl, rfl, rfl, rfl⟩ rfl rfl rfl rfl rfl (by kernel_rfl) Try.func7 (by kernel_rfl)
    (of_decide_eq_true (by kernel_rfl)) (by unfold Func.isWrapper; first | (rw [if_pos (by decide +kernel)]; kernel_rfl) | (rw [if_neg (by decide +kernel)]; exact ⟨rfl, rfl⟩))
    (fun os started H enc _ => lifted os started H enc)
end Go.Proofs.Ytiobaboailhafaa.lawLexWrong

