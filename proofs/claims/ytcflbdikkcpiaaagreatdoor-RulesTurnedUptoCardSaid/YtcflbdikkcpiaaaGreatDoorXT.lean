/-
  The statement 'RulesTurnedUptoCardSaid': for every input of bulk at most 1048576 the law returns true, and each argument reads afterwards as it did; the listed package-level variables start as the program's text lays them (the tie is given).
-/
import Derived.Test.YtcflbdikkcpiaaaGreatDoorRows
import Derived.Test.YtcflbdikkcpiaaaGreatDoorCards
import Derived.Test.YtcflbdikkcpiaaaGreatDoorTie
import Derived.Test.YtcflbdikkcpiaaaGreatDoorXV
import Derived.Test.YtcflbdikkcpiaaaGreatDoorXS
import Derived.ProofKit
import Derived.OpenShut
import Derived.SevenTiedAt
set_option linter.unusedVariables false
set_option linter.unusedSimpArgs false
namespace Go.Proofs.YtcflbdikkcpiaaaGreatDoor.lawRulesTurned
open Go Go.Am Go.ChangeShapes Go.WideShapes Go.RowKit
theorem own : ownKnob Tryz.prog.godebug = none := by kernel_rfl
theorem spec {H : Type} (ds : List (DataW H)) (h : ds.length = 3) : Rows.rulesTurnedSpec.fn H ds = { results := [.lit (.bool true)], args := ds } := by
 match ds, h with
 | [d0, d1, d2], _ => rfl
theorem bound {H : Type} {l : List (DataW H)} (hk : Rows.uptoSmall H l = true) : Rows.uptoBulkAll l ≤ 1048576 := of_decide_eq_true hk
set_option maxRecDepth 100000 in
theorem reads (os : Os) {H : Type} (enc : TypeId × Value → H) : ∃ places, DataW.whole enc Tryz.prog ((World.laidAll Tryz.prog os Rows.rulesTurnedUptoRow.laid).forCall (fun _ _ => 0) ⟨#[], #[.slice none 0 0, .slice none 0 0, .slice none 0 0], []⟩).memory Tryz.f5.params.toList Rows.rulesTurnedSpec.vars false #[.slice none 0 0, .slice none 0 0, .slice none 0 0].toList 8 = some ([.nil, .nil, .nil], [], places) :=
 ⟨[], by kernel_rfl⟩
set_option maxRecDepth 100000 in
theorem lifted (os : Os) (started : os.Started) (H : Type) (enc : TypeId × Value → H) (F : Stop.Interp) :
  ReturnsInHanded {} Tryz.checked os 5 .any ((Rows.OpenSpec.upto Rows.rulesTurnedSpec).preRow enc Tryz.prog Tryz.f5 Rows.rulesTurnedUptoRow.domain false Rows.rulesTurnedUptoRow.laid) (((Rows.OpenSpec.upto Rows.rulesTurnedSpec).at F).post enc Tryz.prog Tryz.f5 false true false false) := by
 obtain ⟨places, hx⟩ := reads os enc
 refine returnsInHanded_of_row (C := Tryz.checked) (s := Rows.OpenSpec.upto Rows.rulesTurnedSpec) own started (by kernel_rfl) Tryz.func5
  (witness_row_at (enc := enc) (C := Tryz.checked) false (World.laidAll Tryz.prog os Rows.rulesTurnedUptoRow.laid) #[.slice none 0 0, .slice none 0 0, .slice none 0 0] (World.laidAll_os _ _ _) (by kernel_rfl) (by kernel_rfl) (by kernel_rfl)
   (OpenSpec.preRow_of_cond 8 hx (by kernel_rfl) (fun k hk => by cases hk; kernel_rfl) (by kernel_rfl) (laidMet_laidAll _ (by kernel_rfl) (by kernel_rfl)))) ?_
 intro W base args ds gs before hval hW _ hcond _ hL hsh _
 have hgs : gs = [] := by
  obtain ⟨p, q, _, hV, _⟩ := hW
  cases gs with
  | nil => rfl
  | cons _ _ => exact hV.elim
 have hk := bound (hcond _ rfl)
 rw [hgs, List.append_nil] at hk
 have hz : ZOk W.heap.size W := by
  rw [MakeChecks.laidMetH_plain _ _ _ (by kernel_rfl)] at hL
  exact zok_of hL.tail.tail hsh
 exact law_contractB (P := Tryz.prog) (lim_ok mixed extOk extFr) Tryz.func5 rfl (by kernel_rfl) (L := [22, 23, 51, 38, 36, 34, 53, 107, 3, 4, 5, 9]) (by kernel_rfl) (by kernel_rfl) (by kernel_rfl) (by kernel_rfl) (tb := Tryz.f5.resultTypes.toList.headD 0) (by kernel_rfl) (by kernel_rfl)
  Rows.rulesTurnedSpec rfl (G := fun _ _ => True) (fun ds h => spec ds h) W base args ds gs before (fun g cs h => by simp [GT, gtList] at h) hz hk (fun xs h hb => RulesTurned_law xs h hb) hval hW
theorem said : Rows.RulesTurnedUptoSaid :=
 OpenClaim.holds_of_cond 5 Tryz.f5 rfl rfl rfl rfl rfl rfl rfl ⟨rfl, rfl, rfl, rfl, rfl⟩ rfl rfl rfl rfl rfl (by kernel_rfl) Tryz.func5 (by kernel_rfl)
  (of_decide_eq_true (by kernel_rfl)) (by unfold Func.isWrapper; first | (rw [if_pos (by decide +kernel)]; kernel_rfl) | (rw [if_neg (by decide +kernel)]; exact ⟨rfl, rfl⟩))
  (fun os started H enc _ F => by rw [OpenClaim.pre_eq_preRow]; exact lifted os started H enc F)
theorem proved : Rows.RulesTurnedUptoCardSaid :=
 Claim7.holds_tied_plain_at .later [] _ _ _ _
  said (fun _ h => by cases h) (by kernel_rfl) (fun _ h => by cases h) rulesTurnedUpto_row_tie rfl ⟨rfl, rfl⟩ (by kernel_rfl) rfl
  (fun f fn hf hfn => by
   obtain rfl : f = 5 := Option.some.inj ((show Tryz.prog.funcNamed Rows.rulesTurnedUptoRow.func = some 5 by kernel_rfl).symm.trans hf) |>.symm
   obtain rfl : fn = Tryz.f5 := (Option.some.inj (Tryz.func5.symm.trans hfn)).symm
   exact ⟨by kernel_rfl, fun j t ht => by
    rw [Tryz.params5] at ht
    have hm : t ∈ [22, 23, 51] := by simpa using Array.mem_of_getElem? ht
    have hall : ([22, 23, 51].all fun u => !Tryz.prog.wantsStandIn u) = true := by kernel_rfl
    exact (show Tryz.prog.wantsStandIn t = false by simpa using List.all_eq_true.1 hall t hm)⟩)
  (by kernel_rfl)
end Go.Proofs.YtcflbdikkcpiaaaGreatDoor.lawRulesTurned
