/-
  DERIVED. GIVEN WITH THE SEED: THE CARDS: each row of YtipaepbmdooekaaDoorRows.lean that lists a variable, with what it lists TIED to the program's text (the seventh form; the later family's looks); each row that meets fmt, with fmt's text TOLD by the authors' own Lean function (tested against real Go, not proved from fmt's source: count such statements apart). THE CARD IS WHAT COUNTS. Prove the row's statement (the work); the ties are given (YtipaepbmdooekaaDoorTie.lean); close each card by the builder's one call (the guide's Derived/Test/ToyasCard.lean, 'card_holds'). Laid BY PROGRAM, IN A SANDBOX (cutbox-door.mjs). By AI agents, Wed Nov 11 2026. No macro, syntax, notation, axiom, sorry.
-/
import Derived.Test.YtipaepbmdooekaaDoorRows
import GoSem.ClaimSeven
namespace Go.Proofs.YtipaepbmdooekaaDoor
namespace Rows

/-- THE TIED CARD OF 'laws.FnSeats'. -/
def fnSeatsCard : Claim7 := { stood := { row := fnSeatsRow, standIns := [], harness := (true, "852138386200bbcdadd6b87ba2183cfdbb015dccaa7c1e93cb3b6e27ed261a4c"), looks := false }, kinds := [], alts := [], laidByText := true, laidKinds := [.data, .data, .data], laidTests := true, laidLooks := .later }
def FnSeatsCardSaid : Prop := Claim7.holds Tryd.pinned (.plain (OpenSpec.ofChange fnSeatsSpec)) fnSeatsCard

/-- THE SECOND FORM's CARD OF 'laws.FnSeats'. -/
def fnSeatsUptoCard : Claim7 := { stood := { row := fnSeatsUptoRow, standIns := [], harness := (true, "852138386200bbcdadd6b87ba2183cfdbb015dccaa7c1e93cb3b6e27ed261a4c"), looks := false }, kinds := [], alts := [], laidByText := true, laidKinds := [.data, .data, .data], laidTests := true, laidLooks := .later }
def FnSeatsUptoCardSaid : Prop := Claim7.holds Tryd.pinned (.plain (OpenSpec.upto fnSeatsSpec)) fnSeatsUptoCard
end Rows
end Go.Proofs.YtipaepbmdooekaaDoor
