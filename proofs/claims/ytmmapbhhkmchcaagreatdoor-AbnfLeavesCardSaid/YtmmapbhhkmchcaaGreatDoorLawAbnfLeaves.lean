/-
  The statement 'AbnfLeavesCardSaid': for every input the law returns true, and each argument reads afterwards as it did; the listed package-level variables start as the program's text lays them (the tie is given).
-/
import Derived.Test.YtmmapbhhkmchcaaGreatDoorRows
import Derived.Test.YtmmapbhhkmchcaaGreatDoorCards
import Derived.Test.YtmmapbhhkmchcaaGreatDoorTie
import Derived.Test.YtmmapbhhkmchcaaGreatDoorI4
import Derived.Test.YtmmapbhhkmchcaaGreatDoorHZ
import Derived.ProofKit
import Derived.OpenShut
import Derived.SevenTiedAt
namespace Go.Proofs.YtmmapbhhkmchcaaGreatDoor.lawAbnfLeaves
open Go Go.Am Go.ChangeShapes Go.WideShapes Go.RowKit
set_option linter.unusedVariables false

theorem own : ownKnob Tryz.prog.godebug = none := by kernel_rfl

theorem spec {H : Type} (ds : List (DataW H)) (h : ds.length = 1) : Rows.abnfLeavesSpec.fn H ds = { results := [.lit (.bool true)], args := ds } := by
  match ds, h with
  | [d0], _ => rfl

set_option maxRecDepth 100000 in
theorem lifted (os : Os) (started : os.Started) (H : Type) (enc : TypeId × Value → H) :
    ReturnsInHanded {} Tryz.checked os 6 .any (fun w args => (Rows.abnfLeavesSpec.pre enc Tryz.prog Tryz.f6 [] false w args ∧ laidMetH Tryz.prog Rows.abnfLeavesRow.laid w) ∧ sizedMet enc Tryz.prog Tryz.f6 (OpenSpec.ofChange Rows.abnfLeavesSpec) false w args)
      (Rows.abnfLeavesSpec.post enc Tryz.prog Tryz.f6 false true false false) := by
  refine handed_both (C := Tryz.checked) (X := fun w _ => laidMetH Tryz.prog Rows.abnfLeavesRow.laid w) (fun _ _ _ hh h => h.of_heap hh) own started (by kernel_rfl) Tryz.func6
    (ChangeSpec.witness_shaped (enc := enc) (C := Tryz.checked) (os := os) (X := fun w _ => laidMetH Tryz.prog Rows.abnfLeavesRow.laid w) false (World.laidAll Tryz.prog os Rows.abnfLeavesRow.laid) #[.string ⟨⟨[]⟩⟩] 8 (World.laidAll_os _ _ _)
      (World.shaped_of_ZipB (by kernel_rfl) (by kernel_rfl)) (by kernel_rfl) (by kernel_rfl) (by kernel_rfl)
      (by rw [MakeChecks.laidMetH_plain _ _ _ (by kernel_rfl)]; exact laidMet_laidAll _ (by kernel_rfl) (by kernel_rfl))) ?_
  intro W base args ds gs before hval hW hL hS
  have hz : ZOk W.heap.size W := by
    rw [MakeChecks.laidMetH_plain _ _ _ (by kernel_rfl)] at hL
    exact zok_of hL.tail.tail hS
  exact law_contract (P := Tryz.prog) (lim_ok mixed extOk extFr) Tryz.func6 rfl (by kernel_rfl) (L := [9]) (by kernel_rfl) (by kernel_rfl) (by kernel_rfl) (by kernel_rfl) (tb := Tryz.f6.resultTypes.toList.headD 0) (by kernel_rfl) (by kernel_rfl)
    Rows.abnfLeavesSpec rfl (G := fun _ _ => True) (fun ds h => spec ds h) W base args ds gs before (fun g cs h => by simp [GT, gtList] at h) hz (fun xs h => AbnfLeaves_law xs h) hval hW

theorem said : Rows.AbnfLeavesSaid :=
  OpenClaim.holds_of_wide 6 Tryz.f6 rfl rfl rfl rfl rfl rfl rfl ⟨rfl, rfl, rfl, rfl, rfl⟩ rfl rfl rfl rfl rfl (by kernel_rfl) Tryz.func6 (by kernel_rfl)
    (of_decide_eq_true (by kernel_rfl)) (by unfold Func.isWrapper; first | (rw [if_pos (by decide +kernel)]; kernel_rfl) | (rw [if_neg (by decide +kernel)]; exact ⟨rfl, rfl⟩))
    (fun os started H enc _ => lifted os started H enc)

theorem proved : Rows.AbnfLeavesCardSaid :=
  Claim7.holds_tied_plain_at .later [] _ true _ _
    said (fun _ h => by cases h) (by kernel_rfl) (fun _ h => by cases h) abnfLeaves_row_tie rfl ⟨rfl, rfl⟩ (by kernel_rfl) rfl
    (fun f fn hf hfn => by
      obtain rfl : f = 6 := Option.some.inj ((show Tryz.prog.funcNamed Rows.abnfLeavesRow.func = some 6 by kernel_rfl).symm.trans hf) |>.symm
      obtain rfl : fn = Tryz.f6 := (Option.some.inj (Tryz.func6.symm.trans hfn)).symm
      exact ⟨by kernel_rfl, fun j t ht => by
        rw [Tryz.params6] at ht
        have hm : t ∈ [9] := by simpa using Array.mem_of_getElem? ht
        have hall : ([9].all fun u => !Tryz.prog.wantsStandIn u) = true := by kernel_rfl
        exact (show Tryz.prog.wantsStandIn t = false by simpa using List.all_eq_true.1 hall t hm)⟩)
    (by kernel_rfl)
end Go.Proofs.YtmmapbhhkmchcaaGreatDoor.lawAbnfLeaves

