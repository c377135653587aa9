/-
  DERIVED. GIVEN WITH THE SEED: THE CARDS: each row of YtonoknliloilfaaGreatDoorRows.lean that lists a variable, with what it lists TIED to the program's text (the seventh form; the later family's looks); each row that meets fmt, with fmt's text TOLD by the authors' own Lean function (tested against real Go, not proved from fmt's source: count such statements apart). THE CARD IS WHAT COUNTS. Prove the row's statement (the work); the ties are given (YtonoknliloilfaaGreatDoorTie.lean); close each card by the builder's one call (the guide's Derived/Test/ToyasCard.lean, 'card_holds'). Laid BY PROGRAM, IN A SANDBOX (cutbox-door.mjs). By AI agents, Wed Nov 11 2026. No macro, syntax, notation, axiom, sorry.
-/
import Derived.Test.YtonoknliloilfaaGreatDoorRows
import GoSem.ClaimSeven
namespace Go.Proofs.YtonoknliloilfaaGreatDoor
namespace Rows

/-- THE TIED CARD OF 'jitkeep1.TalliesComeBack'. -/
def talliesComeBackCard : Claim7 := { stood := { row := talliesComeBackRow, standIns := [], harness := (true, "09a98e48e8b18a5739886cee71c4c1d25ecae9a08c8c49cb9b0e129f3aca1729"), looks := true }, kinds := [], alts := [], laidByText := true, laidKinds := [.data, .data, .data, .data, .sentinel, .sentinel, .pinned], laidTests := true, laidLooks := .later }
def TalliesComeBackCardSaid : Prop := Claim7.holds Tryz.pinned (.plain (OpenSpec.ofChange talliesComeBackSpec)) talliesComeBackCard

/-- THE SECOND FORM's CARD OF 'jitkeep1.TalliesComeBack'. -/
def talliesComeBackUptoCard : Claim7 := { stood := { row := talliesComeBackUptoRow, standIns := [], harness := (true, "09a98e48e8b18a5739886cee71c4c1d25ecae9a08c8c49cb9b0e129f3aca1729"), looks := true }, kinds := [], alts := [], laidByText := true, laidKinds := [.data, .data, .data, .data, .sentinel, .sentinel, .pinned], laidTests := true, laidLooks := .later }
def TalliesComeBackUptoCardSaid : Prop := Claim7.holds Tryz.pinned (.plain (OpenSpec.upto talliesComeBackSpec)) talliesComeBackUptoCard
end Rows
end Go.Proofs.YtonoknliloilfaaGreatDoor
