/-
  The statement 'RulesLoopCardSaid': for every input the law returns true, and each argument reads afterwards as it did; the listed package-level variables start as the program's text lays them (the tie is given).
-/
import Derived.Test.YtcflbdikkcpiaaaGreatDoorRows
import Derived.Test.YtcflbdikkcpiaaaGreatDoorCards
import Derived.Test.YtcflbdikkcpiaaaGreatDoorTie
import Derived.Test.YtcflbdikkcpiaaaGreatDoorXR
import Derived.Test.YtcflbdikkcpiaaaGreatDoorXS
import Derived.ProofKit
import Derived.OpenShut
import Derived.SevenTiedAt
set_option linter.unusedVariables false
set_option linter.unusedSimpArgs false
namespace Go.Proofs.YtcflbdikkcpiaaaGreatDoor.lawRulesLoop
open Go Go.Am Go.ChangeShapes Go.WideShapes Go.RowKit
theorem own : ownKnob Tryz.prog.godebug = none := by kernel_rfl
theorem spec {H : Type} (ds : List (DataW H)) (h : ds.length = 4) : Rows.rulesLoopSpec.fn H ds = { results := [.lit (.bool true)], args := ds } := by
 match ds, h with
 | [d0, d1, d2, d3], _ => rfl
set_option maxRecDepth 100000 in
theorem lifted (os : Os) (started : os.Started) (H : Type) (enc : TypeId × Value → H) :
  ReturnsInHanded {} Tryz.checked os 6 .any (fun w args => (Rows.rulesLoopSpec.pre enc Tryz.prog Tryz.f6 [] false w args ∧ laidMetH Tryz.prog Rows.rulesLoopRow.laid w) ∧ sizedMet enc Tryz.prog Tryz.f6 (OpenSpec.ofChange Rows.rulesLoopSpec) false w args)
   (Rows.rulesLoopSpec.post enc Tryz.prog Tryz.f6 false true false false) := by
 refine handed_both (C := Tryz.checked) (X := fun w _ => laidMetH Tryz.prog Rows.rulesLoopRow.laid w) (fun _ _ _ hh h => h.of_heap hh) own started (by kernel_rfl) Tryz.func6
  (ChangeSpec.witness_shaped (enc := enc) (C := Tryz.checked) (os := os) (X := fun w _ => laidMetH Tryz.prog Rows.rulesLoopRow.laid w) false (World.laidAll Tryz.prog os Rows.rulesLoopRow.laid) #[.slice none 0 0, .int .u8 0, .int .u8 0, .slice none 0 0] 8 (World.laidAll_os _ _ _)
   (World.shaped_of_ZipB (by kernel_rfl) (by kernel_rfl)) (by kernel_rfl) (by kernel_rfl) (by kernel_rfl)
   (by rw [MakeChecks.laidMetH_plain _ _ _ (by kernel_rfl)]; exact laidMet_laidAll _ (by kernel_rfl) (by kernel_rfl))) ?_
 intro W base args ds gs before hval hW hL hS
 have hz : ZOk W.heap.size W := by
  rw [MakeChecks.laidMetH_plain _ _ _ (by kernel_rfl)] at hL
  exact zok_of hL.tail.tail hS
 exact law_contract (P := Tryz.prog) (lim_ok mixed extOk extFr) Tryz.func6 rfl (by kernel_rfl) (L := [23, 5, 53, 107]) (by kernel_rfl) (by kernel_rfl) (by kernel_rfl) (by kernel_rfl) (tb := Tryz.f6.resultTypes.toList.headD 0) (by kernel_rfl) (by kernel_rfl)
  Rows.rulesLoopSpec rfl (G := fun _ _ => True) (fun ds h => spec ds h) W base args ds gs before (fun g cs h => by simp [GT, gtList] at h) hz (fun xs h => RulesLoop_law xs h) hval hW
theorem said : Rows.RulesLoopSaid :=
 OpenClaim.holds_of_wide 6 Tryz.f6 rfl rfl rfl rfl rfl rfl rfl ⟨rfl, rfl, rfl, rfl, rfl⟩ rfl rfl rfl rfl rfl (by kernel_rfl) Tryz.func6 (by kernel_rfl)
  (of_decide_eq_true (by kernel_rfl)) (by unfold Func.isWrapper; first | (rw [if_pos (by decide +kernel)]; kernel_rfl) | (rw [if_neg (by decide +kernel)]; exact ⟨rfl, rfl⟩))
  (fun os started H enc _ => lifted os started H enc)
theorem proved : Rows.RulesLoopCardSaid :=
 Claim7.holds_tied_plain_at .later [] _ true _ _
  said (fun _ h => by cases h) (by kernel_rfl) (fun _ h => by cases h) rulesLoop_row_tie rfl ⟨rfl, rfl⟩ (by kernel_rfl) rfl
  (fun f fn hf hfn => by
   obtain rfl : f = 6 := Option.some.inj ((show Tryz.prog.funcNamed Rows.rulesLoopRow.func = some 6 by kernel_rfl).symm.trans hf) |>.symm
   obtain rfl : fn = Tryz.f6 := (Option.some.inj (Tryz.func6.symm.trans hfn)).symm
   exact ⟨by kernel_rfl, fun j t ht => by
    rw [Tryz.params6] at ht
    have hm : t ∈ [23, 5, 5, 53] := by simpa using Array.mem_of_getElem? ht
    have hall : ([23, 5, 5, 53].all fun u => !Tryz.prog.wantsStandIn u) = true := by kernel_rfl
    exact (show Tryz.prog.wantsStandIn t = false by simpa using List.all_eq_true.1 hall t hm)⟩)
  (by kernel_rfl)
end Go.Proofs.YtcflbdikkcpiaaaGreatDoor.lawRulesLoop
