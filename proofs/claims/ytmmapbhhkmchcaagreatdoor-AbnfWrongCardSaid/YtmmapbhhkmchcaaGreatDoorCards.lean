/-
  DERIVED. GIVEN WITH THE SEED: THE CARDS: each row of YtmmapbhhkmchcaaGreatDoorRows.lean that lists a variable, with what it lists TIED to the program's text (the seventh form; the later family's looks); each row that meets fmt, with fmt's text TOLD by the authors' own Lean function (tested against real Go, not proved from fmt's source: count such statements apart). THE CARD IS WHAT COUNTS. Prove the row's statement (the work); the ties are given (YtmmapbhhkmchcaaGreatDoorTie.lean); close each card by the builder's one call (the guide's Derived/Test/ToyasCard.lean, 'card_holds'). Laid BY PROGRAM, IN A SANDBOX (cutbox-door.mjs). By AI agents, Wed Nov 11 2026. No macro, syntax, notation, axiom, sorry.
-/
import Derived.Test.YtmmapbhhkmchcaaGreatDoorRows
import GoSem.ClaimSeven
namespace Go.Proofs.YtmmapbhhkmchcaaGreatDoor
namespace Rows

/-- THE TIED CARD OF 'frankinglaw02.AbnfTells'. -/
def abnfTellsCard : Claim7 := { stood := { row := abnfTellsRow, standIns := [], harness := (true, "95853ca88767da1cb82c38c816708ecea5da52b4951b7ac3046ececc288c240b"), looks := false }, kinds := [], alts := [], laidByText := true, laidKinds := [.data, .data, .data], laidTests := true, laidLooks := .later }
def AbnfTellsCardSaid : Prop := Claim7.holds Tryz.pinned (.plain (OpenSpec.ofChange abnfTellsSpec)) abnfTellsCard

/-- THE TIED CARD OF 'frankinglaw02.AbnfBrackets'. -/
def abnfBracketsCard : Claim7 := { stood := { row := abnfBracketsRow, standIns := [], harness := (true, "95853ca88767da1cb82c38c816708ecea5da52b4951b7ac3046ececc288c240b"), looks := false }, kinds := [], alts := [], laidByText := true, laidKinds := [.data, .data, .data], laidTests := true, laidLooks := .later }
def AbnfBracketsCardSaid : Prop := Claim7.holds Tryz.pinned (.plain (OpenSpec.ofChange abnfBracketsSpec)) abnfBracketsCard

/-- THE TIED CARD OF 'frankinglaw02.AbnfWrong'. -/
def abnfWrongCard : Claim7 := { stood := { row := abnfWrongRow, standIns := [], harness := (true, "95853ca88767da1cb82c38c816708ecea5da52b4951b7ac3046ececc288c240b"), looks := false }, kinds := [], alts := [], laidByText := true, laidKinds := [.data, .data, .data, .data, .pinned], laidTests := true, laidLooks := .later }
def AbnfWrongCardSaid : Prop := Claim7.holds Tryz.pinned (.plain (OpenSpec.ofChange abnfWrongSpec)) abnfWrongCard

/-- THE TIED CARD OF 'frankinglaw02.AbnfLeaves'. -/
def abnfLeavesCard : Claim7 := { stood := { row := abnfLeavesRow, standIns := [], harness := (true, "95853ca88767da1cb82c38c816708ecea5da52b4951b7ac3046ececc288c240b"), looks := false }, kinds := [], alts := [], laidByText := true, laidKinds := [.data, .data, .data, .data, .pinned, .pinned], laidTests := true, laidLooks := .later }
def AbnfLeavesCardSaid : Prop := Claim7.holds Tryz.pinned (.plain (OpenSpec.ofChange abnfLeavesSpec)) abnfLeavesCard

/-- THE SECOND FORM's CARD OF 'frankinglaw02.AbnfTells'. -/
def abnfTellsUptoCard : Claim7 := { stood := { row := abnfTellsUptoRow, standIns := [], harness := (true, "95853ca88767da1cb82c38c816708ecea5da52b4951b7ac3046ececc288c240b"), looks := false }, kinds := [], alts := [], laidByText := true, laidKinds := [.data, .data, .data], laidTests := true, laidLooks := .later }
def AbnfTellsUptoCardSaid : Prop := Claim7.holds Tryz.pinned (.plain (OpenSpec.upto abnfTellsSpec)) abnfTellsUptoCard

/-- THE SECOND FORM's CARD OF 'frankinglaw02.AbnfBrackets'. -/
def abnfBracketsUptoCard : Claim7 := { stood := { row := abnfBracketsUptoRow, standIns := [], harness := (true, "95853ca88767da1cb82c38c816708ecea5da52b4951b7ac3046ececc288c240b"), looks := false }, kinds := [], alts := [], laidByText := true, laidKinds := [.data, .data, .data], laidTests := true, laidLooks := .later }
def AbnfBracketsUptoCardSaid : Prop := Claim7.holds Tryz.pinned (.plain (OpenSpec.upto abnfBracketsSpec)) abnfBracketsUptoCard

/-- THE SECOND FORM's CARD OF 'frankinglaw02.AbnfWrong'. -/
def abnfWrongUptoCard : Claim7 := { stood := { row := abnfWrongUptoRow, standIns := [], harness := (true, "95853ca88767da1cb82c38c816708ecea5da52b4951b7ac3046ececc288c240b"), looks := false }, kinds := [], alts := [], laidByText := true, laidKinds := [.data, .data, .data, .data, .pinned], laidTests := true, laidLooks := .later }
def AbnfWrongUptoCardSaid : Prop := Claim7.holds Tryz.pinned (.plain (OpenSpec.upto abnfWrongSpec)) abnfWrongUptoCard

/-- THE SECOND FORM's CARD OF 'frankinglaw02.AbnfLeaves'. -/
def abnfLeavesUptoCard : Claim7 := { stood := { row := abnfLeavesUptoRow, standIns := [], harness := (true, "95853ca88767da1cb82c38c816708ecea5da52b4951b7ac3046ececc288c240b"), looks := false }, kinds := [], alts := [], laidByText := true, laidKinds := [.data, .data, .data, .data, .pinned, .pinned], laidTests := true, laidLooks := .later }
def AbnfLeavesUptoCardSaid : Prop := Claim7.holds Tryz.pinned (.plain (OpenSpec.upto abnfLeavesSpec)) abnfLeavesUptoCard
end Rows
end Go.Proofs.YtmmapbhhkmchcaaGreatDoor
