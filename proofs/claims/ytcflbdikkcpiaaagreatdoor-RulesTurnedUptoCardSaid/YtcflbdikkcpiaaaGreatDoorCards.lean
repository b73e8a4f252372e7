/-
  DERIVED. GIVEN WITH THE SEED: THE CARDS: each row of YtcflbdikkcpiaaaGreatDoorRows.lean that lists a variable, with what it lists TIED to the program's text (the seventh form; the later family's looks); each row that meets fmt, with fmt's text TOLD by the authors' own Lean function (tested against real Go, not proved from fmt's source: count such statements apart). THE CARD IS WHAT COUNTS. Prove the row's statement (the work); the ties are given (YtcflbdikkcpiaaaGreatDoorTie.lean); close each card by the builder's one call (the guide's Derived/Test/ToyasCard.lean, 'card_holds'). Laid BY PROGRAM, IN A SANDBOX (cutbox-door.mjs). By AI agents, Wed Nov 11 2026. No macro, syntax, notation, axiom, sorry.
-/
import Derived.Test.YtcflbdikkcpiaaaGreatDoorRows
import GoSem.ClaimSeven
namespace Go.Proofs.YtcflbdikkcpiaaaGreatDoor
namespace Rows

/-- THE TIED CARD OF 'frankinglaw03.RulesTells'. -/
def rulesTellsCard : Claim7 := { stood := { row := rulesTellsRow, standIns := [], harness := (true, "c778bd8ab1286207458a04ad659fb92f473b6008aa7b6e7880677ec7965d6c40"), looks := false }, kinds := [], alts := [], laidByText := true, laidKinds := [.data, .data, .data], laidTests := true, laidLooks := .later }
def RulesTellsCardSaid : Prop := Claim7.holds Tryz.pinned (.plain (OpenSpec.ofChange rulesTellsSpec)) rulesTellsCard

/-- THE TIED CARD OF 'frankinglaw03.RulesFront'. -/
def rulesFrontCard : Claim7 := { stood := { row := rulesFrontRow, standIns := [], harness := (true, "c778bd8ab1286207458a04ad659fb92f473b6008aa7b6e7880677ec7965d6c40"), looks := false }, kinds := [], alts := [], laidByText := true, laidKinds := [.data, .data, .data], laidTests := true, laidLooks := .later }
def RulesFrontCardSaid : Prop := Claim7.holds Tryz.pinned (.plain (OpenSpec.ofChange rulesFrontSpec)) rulesFrontCard

/-- THE TIED CARD OF 'frankinglaw03.RulesTurned'. -/
def rulesTurnedCard : Claim7 := { stood := { row := rulesTurnedRow, standIns := [], harness := (true, "c778bd8ab1286207458a04ad659fb92f473b6008aa7b6e7880677ec7965d6c40"), looks := false }, kinds := [], alts := [], laidByText := true, laidKinds := [.data, .data, .data], laidTests := true, laidLooks := .later }
def RulesTurnedCardSaid : Prop := Claim7.holds Tryz.pinned (.plain (OpenSpec.ofChange rulesTurnedSpec)) rulesTurnedCard

/-- THE TIED CARD OF 'frankinglaw03.RulesLoop'. -/
def rulesLoopCard : Claim7 := { stood := { row := rulesLoopRow, standIns := [], harness := (true, "c778bd8ab1286207458a04ad659fb92f473b6008aa7b6e7880677ec7965d6c40"), looks := false }, kinds := [], alts := [], laidByText := true, laidKinds := [.data, .data, .data], laidTests := true, laidLooks := .later }
def RulesLoopCardSaid : Prop := Claim7.holds Tryz.pinned (.plain (OpenSpec.ofChange rulesLoopSpec)) rulesLoopCard

/-- THE TIED CARD OF 'frankinglaw03.RulesMore'. -/
def rulesMoreCard : Claim7 := { stood := { row := rulesMoreRow, standIns := [], harness := (true, "c778bd8ab1286207458a04ad659fb92f473b6008aa7b6e7880677ec7965d6c40"), looks := false }, kinds := [], alts := [], laidByText := true, laidKinds := [.data, .data, .data], laidTests := true, laidLooks := .later }
def RulesMoreCardSaid : Prop := Claim7.holds Tryz.pinned (.plain (OpenSpec.ofChange rulesMoreSpec)) rulesMoreCard

/-- THE SECOND FORM's CARD OF 'frankinglaw03.RulesTells'. -/
def rulesTellsUptoCard : Claim7 := { stood := { row := rulesTellsUptoRow, standIns := [], harness := (true, "c778bd8ab1286207458a04ad659fb92f473b6008aa7b6e7880677ec7965d6c40"), looks := false }, kinds := [], alts := [], laidByText := true, laidKinds := [.data, .data, .data], laidTests := true, laidLooks := .later }
def RulesTellsUptoCardSaid : Prop := Claim7.holds Tryz.pinned (.plain (OpenSpec.upto rulesTellsSpec)) rulesTellsUptoCard

/-- THE SECOND FORM's CARD OF 'frankinglaw03.RulesFront'. -/
def rulesFrontUptoCard : Claim7 := { stood := { row := rulesFrontUptoRow, standIns := [], harness := (true, "c778bd8ab1286207458a04ad659fb92f473b6008aa7b6e7880677ec7965d6c40"), looks := false }, kinds := [], alts := [], laidByText := true, laidKinds := [.data, .data, .data], laidTests := true, laidLooks := .later }
def RulesFrontUptoCardSaid : Prop := Claim7.holds Tryz.pinned (.plain (OpenSpec.upto rulesFrontSpec)) rulesFrontUptoCard

/-- THE SECOND FORM's CARD OF 'frankinglaw03.RulesTurned'. -/
def rulesTurnedUptoCard : Claim7 := { stood := { row := rulesTurnedUptoRow, standIns := [], harness := (true, "c778bd8ab1286207458a04ad659fb92f473b6008aa7b6e7880677ec7965d6c40"), looks := false }, kinds := [], alts := [], laidByText := true, laidKinds := [.data, .data, .data], laidTests := true, laidLooks := .later }
def RulesTurnedUptoCardSaid : Prop := Claim7.holds Tryz.pinned (.plain (OpenSpec.upto rulesTurnedSpec)) rulesTurnedUptoCard

/-- THE SECOND FORM's CARD OF 'frankinglaw03.RulesLoop'. -/
def rulesLoopUptoCard : Claim7 := { stood := { row := rulesLoopUptoRow, standIns := [], harness := (true, "c778bd8ab1286207458a04ad659fb92f473b6008aa7b6e7880677ec7965d6c40"), looks := false }, kinds := [], alts := [], laidByText := true, laidKinds := [.data, .data, .data], laidTests := true, laidLooks := .later }
def RulesLoopUptoCardSaid : Prop := Claim7.holds Tryz.pinned (.plain (OpenSpec.upto rulesLoopSpec)) rulesLoopUptoCard

/-- THE SECOND FORM's CARD OF 'frankinglaw03.RulesMore'. -/
def rulesMoreUptoCard : Claim7 := { stood := { row := rulesMoreUptoRow, standIns := [], harness := (true, "c778bd8ab1286207458a04ad659fb92f473b6008aa7b6e7880677ec7965d6c40"), looks := false }, kinds := [], alts := [], laidByText := true, laidKinds := [.data, .data, .data], laidTests := true, laidLooks := .later }
def RulesMoreUptoCardSaid : Prop := Claim7.holds Tryz.pinned (.plain (OpenSpec.upto rulesMoreSpec)) rulesMoreUptoCard
end Rows
end Go.Proofs.YtcflbdikkcpiaaaGreatDoor
