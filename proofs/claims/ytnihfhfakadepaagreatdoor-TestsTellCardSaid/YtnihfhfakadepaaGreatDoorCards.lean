/-
  DERIVED. GIVEN WITH THE SEED: THE CARDS: each row of YtnihfhfakadepaaGreatDoorRows.lean that lists a variable, with what it lists TIED to the program's text (the seventh form; the later family's looks); each row that meets fmt, with fmt's text TOLD by the authors' own Lean function (tested against real Go, not proved from fmt's source: count such statements apart). THE CARD IS WHAT COUNTS. Prove the row's statement (the work); the ties are given (YtnihfhfakadepaaGreatDoorTie.lean); close each card by the builder's one call (the guide's Derived/Test/ToyasCard.lean, 'card_holds'). Laid BY PROGRAM, IN A SANDBOX (cutbox-door.mjs). By AI agents, Wed Nov 11 2026. No macro, syntax, notation, axiom, sorry.
-/
import Derived.Test.YtnihfhfakadepaaGreatDoorRows
import GoSem.ClaimSeven
namespace Go.Proofs.YtnihfhfakadepaaGreatDoor
namespace Rows

/-- THE TIED CARD OF 'verdictlaw8.TestsTell'. -/
def testsTellCard : Claim7 := { stood := { row := testsTellRow, standIns := [], harness := (true, "4a22fc61eaab084d3e08be3a606d380bddc76c95c6a2faba8dab4034e486d93d"), looks := true }, kinds := [], alts := [], laidByText := true, laidKinds := [.data, .data, .data, .data, .data, .data, .data, .data, .pinned], laidTests := true, laidLooks := .later }
def TestsTellCardSaid : Prop := Claim7.holds Tryz.pinned (.plain (OpenSpec.ofChange testsTellSpec)) testsTellCard

/-- THE SECOND FORM's CARD OF 'verdictlaw8.TestsTell'. -/
def testsTellUptoCard : Claim7 := { stood := { row := testsTellUptoRow, standIns := [], harness := (true, "4a22fc61eaab084d3e08be3a606d380bddc76c95c6a2faba8dab4034e486d93d"), looks := true }, kinds := [], alts := [], laidByText := true, laidKinds := [.data, .data, .data, .data, .data, .data, .data, .data, .pinned], laidTests := true, laidLooks := .later }
def TestsTellUptoCardSaid : Prop := Claim7.holds Tryz.pinned (.plain (OpenSpec.upto testsTellSpec)) testsTellUptoCard
end Rows
end Go.Proofs.YtnihfhfakadepaaGreatDoor
