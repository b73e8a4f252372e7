/-
  DERIVED. GIVEN WITH THE SEED: THE CARDS: each row of YtmmapbhhkmchcaaDoorRows.lean that lists a variable, with what it lists TIED to the program's text (the seventh form; the later family's looks); each row that meets fmt, with fmt's text TOLD by the authors' own Lean function (tested against real Go, not proved from fmt's source: count such statements apart). THE CARD IS WHAT COUNTS. Prove the row's statement (the work); the ties are given (YtmmapbhhkmchcaaDoorTie.lean); close each card by the builder's one call (the guide's Derived/Test/ToyasCard.lean, 'card_holds'). Laid BY PROGRAM, IN A SANDBOX (cutbox-door.mjs). By AI agents, Wed Nov 11 2026. No macro, syntax, notation, axiom, sorry.
-/
import Derived.Test.YtmmapbhhkmchcaaDoorRows
import GoSem.ClaimSeven
namespace Go.Proofs.YtmmapbhhkmchcaaDoor
namespace Rows

/-- THE TIED CARD OF 'frankinglaw02.AbnfBack'. -/
def abnfBackCard : Claim7 := { stood := { row := abnfBackRow, standIns := [], harness := (true, "eac73b73a7631c2908a9c9157fd7676eeb54857f186fdbe41ec828de41d97f6f"), looks := false }, kinds := [], alts := [], laidByText := true, laidKinds := [.data, .data, .data], laidTests := true, laidLooks := .later }
def AbnfBackCardSaid : Prop := Claim7.holds Tryd.pinned (.plain (OpenSpec.ofChange abnfBackSpec)) abnfBackCard

/-- THE SECOND FORM's CARD OF 'frankinglaw02.AbnfBack'. -/
def abnfBackUptoCard : Claim7 := { stood := { row := abnfBackUptoRow, standIns := [], harness := (true, "eac73b73a7631c2908a9c9157fd7676eeb54857f186fdbe41ec828de41d97f6f"), looks := false }, kinds := [], alts := [], laidByText := true, laidKinds := [.data, .data, .data], laidTests := true, laidLooks := .later }
def AbnfBackUptoCardSaid : Prop := Claim7.holds Tryd.pinned (.plain (OpenSpec.upto abnfBackSpec)) abnfBackUptoCard
end Rows
end Go.Proofs.YtmmapbhhkmchcaaDoor
