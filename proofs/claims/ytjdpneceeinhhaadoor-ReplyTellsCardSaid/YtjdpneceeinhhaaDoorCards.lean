/-
  DERIVED. GIVEN WITH THE SEED: THE CARDS: each row of YtjdpneceeinhhaaDoorRows.lean that lists a variable, with what it lists TIED to the program's text (the seventh form; the later family's looks); each row that meets fmt, with fmt's text TOLD by the authors' own Lean function (tested against real Go, not proved from fmt's source: count such statements apart). THE CARD IS WHAT COUNTS. Prove the row's statement (the work); the ties are given (YtjdpneceeinhhaaDoorTie.lean); close each card by the builder's one call (the guide's Derived/Test/ToyasCard.lean, 'card_holds'). Laid BY PROGRAM, IN A SANDBOX (cutbox-door.mjs). By AI agents, Wed Nov 11 2026. No macro, syntax, notation, axiom, sorry.
-/
import Derived.Test.YtjdpneceeinhhaaDoorRows
import GoSem.ClaimSeven
namespace Go.Proofs.YtjdpneceeinhhaaDoor
namespace Rows

/-- THE TIED CARD OF 'frankinglaw18.ReplyBack'. -/
def replyBackCard : Claim7 := { stood := { row := replyBackRow, standIns := [], harness := (true, "4f3e9f01bdb5fa067968ed4782db35007c1b5c45cf47372e9ede5b06172d8e00"), looks := true }, kinds := [], alts := [], laidByText := true, laidKinds := [.data, .data, .data, .sentinel, .sentinel], laidTests := true, laidLooks := .later }
def ReplyBackCardSaid : Prop := Claim7.holds Tryd.pinned (.plain (OpenSpec.ofChange replyBackSpec)) replyBackCard

/-- THE TIED CARD OF 'frankinglaw18.ReplyAgain'. -/
def replyAgainCard : Claim7 := { stood := { row := replyAgainRow, standIns := [], harness := (true, "4f3e9f01bdb5fa067968ed4782db35007c1b5c45cf47372e9ede5b06172d8e00"), looks := true }, kinds := [], alts := [], laidByText := true, laidKinds := [.data, .data, .data, .sentinel, .sentinel], laidTests := true, laidLooks := .later }
def ReplyAgainCardSaid : Prop := Claim7.holds Tryd.pinned (.plain (OpenSpec.ofChange replyAgainSpec)) replyAgainCard

/-- THE TIED CARD OF 'frankinglaw18.ReplyWrong'. -/
def replyWrongCard : Claim7 := { stood := { row := replyWrongRow, standIns := [], harness := (true, "4f3e9f01bdb5fa067968ed4782db35007c1b5c45cf47372e9ede5b06172d8e00"), looks := true }, kinds := [], alts := [], laidByText := true, laidKinds := [.data, .data, .data, .sentinel, .sentinel], laidTests := true, laidLooks := .later }
def ReplyWrongCardSaid : Prop := Claim7.holds Tryd.pinned (.plain (OpenSpec.ofChange replyWrongSpec)) replyWrongCard

/-- THE TIED CARD OF 'frankinglaw18.ReplyTells'. -/
def replyTellsCard : Claim7 := { stood := { row := replyTellsRow, standIns := [], harness := (true, "4f3e9f01bdb5fa067968ed4782db35007c1b5c45cf47372e9ede5b06172d8e00"), looks := true }, kinds := [], alts := [], laidByText := true, laidKinds := [.data, .data, .data, .sentinel, .sentinel], laidTests := true, laidLooks := .later }
def ReplyTellsCardSaid : Prop := Claim7.holds Tryd.pinned (.plain (OpenSpec.ofChange replyTellsSpec)) replyTellsCard

/-- THE TIED CARD OF 'frankinglaw18.ReplyLimits'. -/
def replyLimitsCard : Claim7 := { stood := { row := replyLimitsRow, standIns := [], harness := (true, "4f3e9f01bdb5fa067968ed4782db35007c1b5c45cf47372e9ede5b06172d8e00"), looks := true }, kinds := [], alts := [], laidByText := true, laidKinds := [.data, .data, .data, .sentinel, .sentinel], laidTests := true, laidLooks := .later }
def ReplyLimitsCardSaid : Prop := Claim7.holds Tryd.pinned (.plain (OpenSpec.ofChange replyLimitsSpec)) replyLimitsCard

/-- THE SECOND FORM's CARD OF 'frankinglaw18.ReplyBack'. -/
def replyBackUptoCard : Claim7 := { stood := { row := replyBackUptoRow, standIns := [], harness := (true, "4f3e9f01bdb5fa067968ed4782db35007c1b5c45cf47372e9ede5b06172d8e00"), looks := true }, kinds := [], alts := [], laidByText := true, laidKinds := [.data, .data, .data, .sentinel, .sentinel], laidTests := true, laidLooks := .later }
def ReplyBackUptoCardSaid : Prop := Claim7.holds Tryd.pinned (.plain (OpenSpec.upto replyBackSpec)) replyBackUptoCard

/-- THE SECOND FORM's CARD OF 'frankinglaw18.ReplyAgain'. -/
def replyAgainUptoCard : Claim7 := { stood := { row := replyAgainUptoRow, standIns := [], harness := (true, "4f3e9f01bdb5fa067968ed4782db35007c1b5c45cf47372e9ede5b06172d8e00"), looks := true }, kinds := [], alts := [], laidByText := true, laidKinds := [.data, .data, .data, .sentinel, .sentinel], laidTests := true, laidLooks := .later }
def ReplyAgainUptoCardSaid : Prop := Claim7.holds Tryd.pinned (.plain (OpenSpec.upto replyAgainSpec)) replyAgainUptoCard

/-- THE SECOND FORM's CARD OF 'frankinglaw18.ReplyWrong'. -/
def replyWrongUptoCard : Claim7 := { stood := { row := replyWrongUptoRow, standIns := [], harness := (true, "4f3e9f01bdb5fa067968ed4782db35007c1b5c45cf47372e9ede5b06172d8e00"), looks := true }, kinds := [], alts := [], laidByText := true, laidKinds := [.data, .data, .data, .sentinel, .sentinel], laidTests := true, laidLooks := .later }
def ReplyWrongUptoCardSaid : Prop := Claim7.holds Tryd.pinned (.plain (OpenSpec.upto replyWrongSpec)) replyWrongUptoCard

/-- THE SECOND FORM's CARD OF 'frankinglaw18.ReplyTells'. -/
def replyTellsUptoCard : Claim7 := { stood := { row := replyTellsUptoRow, standIns := [], harness := (true, "4f3e9f01bdb5fa067968ed4782db35007c1b5c45cf47372e9ede5b06172d8e00"), looks := true }, kinds := [], alts := [], laidByText := true, laidKinds := [.data, .data, .data, .sentinel, .sentinel], laidTests := true, laidLooks := .later }
def ReplyTellsUptoCardSaid : Prop := Claim7.holds Tryd.pinned (.plain (OpenSpec.upto replyTellsSpec)) replyTellsUptoCard

/-- THE SECOND FORM's CARD OF 'frankinglaw18.ReplyLimits'. -/
def replyLimitsUptoCard : Claim7 := { stood := { row := replyLimitsUptoRow, standIns := [], harness := (true, "4f3e9f01bdb5fa067968ed4782db35007c1b5c45cf47372e9ede5b06172d8e00"), looks := true }, kinds := [], alts := [], laidByText := true, laidKinds := [.data, .data, .data, .sentinel, .sentinel], laidTests := true, laidLooks := .later }
def ReplyLimitsUptoCardSaid : Prop := Claim7.holds Tryd.pinned (.plain (OpenSpec.upto replyLimitsSpec)) replyLimitsUptoCard
end Rows
end Go.Proofs.YtjdpneceeinhhaaDoor
