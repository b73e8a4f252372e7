/-
  The statement 'AbnfBackUptoCardSaid': for every input of bulk at most 1048576 the law returns true, and each argument reads afterwards as it did; the listed package-level variables start as the program's text lays them (the tie is given).
-/
import Derived.Test.YtmmapbhhkmchcaaDoorRows
import Derived.Test.YtmmapbhhkmchcaaDoorCards
import Derived.Test.YtmmapbhhkmchcaaDoorTie
import Derived.Test.YtmmapbhhkmchcaaDoorH1
import Derived.Test.YtmmapbhhkmchcaaDoorHZ
import Derived.ProofKit
import Derived.OpenShut
import Derived.SevenTiedAt
namespace Go.Proofs.YtmmapbhhkmchcaaDoor.lawAbnfBack
open Go Go.Am Go.ChangeShapes Go.WideShapes Go.RowKit
set_option linter.unusedVariables false

theorem own : ownKnob Tryd.prog.godebug = none := by kernel_rfl

theorem spec {H : Type} (ds : List (DataW H)) (h : ds.length = 4) : Rows.abnfBackSpec.fn H ds = { results := [.lit (.bool true)], args := ds } := by
  match ds, h with
  | [d0, d1, d2, d3], _ => rfl

theorem bound {H : Type} {l : List (DataW H)} (hk : Rows.uptoSmall H l = true) : Rows.uptoBulkAll l ≤ 1048576 := of_decide_eq_true hk

set_option maxRecDepth 100000 in
theorem reads (os : Os) {H : Type} (enc : TypeId × Value → H) : ∃ places, DataW.whole enc Tryd.prog ((World.laidAll Tryd.prog os Rows.abnfBackUptoRow.laid).forCall (fun _ _ => 0) ⟨#[], #[.agg #[.string ⟨⟨[]⟩⟩, .int .i64 0, .bool false, .int .u8 0, .string ⟨⟨[]⟩⟩, .int .u8 0, .int .u8 0, .int .i64 0, .int .i64 0, .slice none 0 0], .slice none 0 0, .bool false, .string ⟨⟨[]⟩⟩], []⟩).memory Tryd.f3.params.toList Rows.abnfBackSpec.vars false #[.agg #[.string ⟨⟨[]⟩⟩, .int .i64 0, .bool false, .int .u8 0, .string ⟨⟨[]⟩⟩, .int .u8 0, .int .u8 0, .int .i64 0, .int .i64 0, .slice none 0 0], .slice none 0 0, .bool false, .string ⟨⟨[]⟩⟩].toList 8 = some ([.agg [.lit (.string []), .lit (.int .i64 0), .lit (.bool false), .agg [.lit (.int .u8 0), .lit (.string []), .lit (.int .u8 0), .lit (.int .u8 0), .lit (.int .i64 0), .lit (.int .i64 0), .nil]], .nil, .lit (.bool false), .lit (.string [])], [], places) :=
  ⟨[], by kernel_rfl⟩

set_option maxRecDepth 100000 in
theorem lifted (os : Os) (started : os.Started) (H : Type) (enc : TypeId × Value → H) (F : Stop.Interp) :
    ReturnsInHanded {} Tryd.checked os 3 .any ((Rows.OpenSpec.upto Rows.abnfBackSpec).preRow enc Tryd.prog Tryd.f3 Rows.abnfBackUptoRow.domain false Rows.abnfBackUptoRow.laid) (((Rows.OpenSpec.upto Rows.abnfBackSpec).at F).post enc Tryd.prog Tryd.f3 false true false false) := by
  obtain ⟨places, hx⟩ := reads os enc
  refine returnsInHanded_of_row (C := Tryd.checked) (s := Rows.OpenSpec.upto Rows.abnfBackSpec) own started (by kernel_rfl) Tryd.func3
    (witness_row_at (enc := enc) (C := Tryd.checked) false (World.laidAll Tryd.prog os Rows.abnfBackUptoRow.laid) #[.agg #[.string ⟨⟨[]⟩⟩, .int .i64 0, .bool false, .int .u8 0, .string ⟨⟨[]⟩⟩, .int .u8 0, .int .u8 0, .int .i64 0, .int .i64 0, .slice none 0 0], .slice none 0 0, .bool false, .string ⟨⟨[]⟩⟩] (World.laidAll_os _ _ _) (by kernel_rfl) (by kernel_rfl) (by kernel_rfl)
      (OpenSpec.preRow_of_cond 8 hx (by kernel_rfl) (fun k hk => by cases hk; kernel_rfl) (by kernel_rfl) (laidMet_laidAll _ (by kernel_rfl) (by kernel_rfl)))) ?_
  intro W base args ds gs before hval hW _ hcond _ hL hsh _
  have hgs : gs = [] := by
    obtain ⟨p, q, _, hV, _⟩ := hW
    cases gs with
    | nil => rfl
    | cons _ _ => exact hV.elim
  have hk := bound (hcond _ rfl)
  rw [hgs, List.append_nil] at hk
  have hz : ZOk W.heap.size W := by
    rw [MakeChecks.laidMetH_plain _ _ _ (by kernel_rfl)] at hL
    exact zok_of hL.tail.tail hsh
  exact law_contractB (P := Tryd.prog) (lim_ok mixed extOk extFr) Tryd.func3 rfl (by kernel_rfl) (L := [26, 27, 4, 9, 24, 22, 3, 5, 80]) (by kernel_rfl) (by kernel_rfl) (by kernel_rfl) (by kernel_rfl) (tb := Tryd.f3.resultTypes.toList.headD 0) (by kernel_rfl) (by kernel_rfl)
    Rows.abnfBackSpec rfl (G := fun _ _ => True) (fun ds h => spec ds h) W base args ds gs before (fun g cs h => by simp [GT, gtList] at h) hz hk (fun xs h hb => AbnfBack_law xs h hb) hval hW

theorem said : Rows.AbnfBackUptoSaid :=
  OpenClaim.holds_of_cond 3 Tryd.f3 rfl rfl rfl rfl rfl rfl rfl ⟨rfl, rfl, rfl, rfl, rfl⟩ rfl rfl rfl rfl rfl (by kernel_rfl) Tryd.func3 (by kernel_rfl)
    (of_decide_eq_true (by kernel_rfl)) (by unfold Func.isWrapper; first | (rw [if_pos (by decide +kernel)]; kernel_rfl) | (rw [if_neg (by decide +kernel)]; exact ⟨rfl, rfl⟩))
    (fun os started H enc _ F => by rw [OpenClaim.pre_eq_preRow]; exact lifted os started H enc F)

theorem proved : Rows.AbnfBackUptoCardSaid :=
  Claim7.holds_tied_plain_at .later [] _ _ _ _
    said (fun _ h => by cases h) (by kernel_rfl) (fun _ h => by cases h) abnfBackUpto_row_tie rfl ⟨rfl, rfl⟩ (by kernel_rfl) rfl
    (fun f fn hf hfn => by
      obtain rfl : f = 3 := Option.some.inj ((show Tryd.prog.funcNamed Rows.abnfBackUptoRow.func = some 3 by kernel_rfl).symm.trans hf) |>.symm
      obtain rfl : fn = Tryd.f3 := (Option.some.inj (Tryd.func3.symm.trans hfn)).symm
      exact ⟨by kernel_rfl, fun j t ht => by
        rw [Tryd.params3] at ht
        have hm : t ∈ [26, 27, 4, 9] := by simpa using Array.mem_of_getElem? ht
        have hall : ([26, 27, 4, 9].all fun u => !Tryd.prog.wantsStandIn u) = true := by kernel_rfl
        exact (show Tryd.prog.wantsStandIn t = false by simpa using List.all_eq_true.1 hall t hm)⟩)
    (by kernel_rfl)
end Go.Proofs.YtmmapbhhkmchcaaDoor.lawAbnfBack

