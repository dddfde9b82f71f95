/-
  DERIVED. GIVEN WITH THE SEED: THE CARDS: each row of YtipaepbmdooekaaGreatDoorRows.lean that lists a variable, with what it lists TIED to the program's text (the seventh form; the later family's looks); each row that meets fmt, with fmt's text TOLD by the authors' own Lean function (tested against real Go, not proved from fmt's source: count such statements apart). THE CARD IS WHAT COUNTS. Prove the row's statement (the work); the ties are given (YtipaepbmdooekaaGreatDoorTie.lean); close each card by the builder's one call (the guide's Derived/Test/ToyasCard.lean, 'card_holds'). Laid BY PROGRAM, IN A SANDBOX (cutbox-door.mjs). By AI agents, Wed Nov 11 2026. No macro, syntax, notation, axiom, sorry.
-/
import Derived.Test.YtipaepbmdooekaaGreatDoorRows
import GoSem.ClaimSeven
namespace Go.Proofs.YtipaepbmdooekaaGreatDoor
namespace Rows

/-- THE TIED CARD OF 'laws.FnHeard'. -/
def fnHeardCard : Claim7 := { stood := { row := fnHeardRow, standIns := [], harness := (true, "9dd44af43b7d01fee5aaa7bdf51fc785bdbdb67f33500292050cb082919821f5"), looks := false }, kinds := [], alts := [], laidByText := true, laidKinds := [.data, .data, .data], laidTests := true, laidLooks := .later }
def FnHeardCardSaid : Prop := Claim7.holds Tryz.pinned (.plain (OpenSpec.ofChange fnHeardSpec)) fnHeardCard

/-- THE SECOND FORM's CARD OF 'laws.FnHeard'. -/
def fnHeardUptoCard : Claim7 := { stood := { row := fnHeardUptoRow, standIns := [], harness := (true, "9dd44af43b7d01fee5aaa7bdf51fc785bdbdb67f33500292050cb082919821f5"), looks := false }, kinds := [], alts := [], laidByText := true, laidKinds := [.data, .data, .data], laidTests := true, laidLooks := .later }
def FnHeardUptoCardSaid : Prop := Claim7.holds Tryz.pinned (.plain (OpenSpec.upto fnHeardSpec)) fnHeardUptoCard
end Rows
end Go.Proofs.YtipaepbmdooekaaGreatDoor
