/-
  DERIVED. GIVEN WITH THE SEED: THE CARDS: each row of YthjokmfidhcclaaGreatDoorRows.lean that lists a variable, with what it lists TIED to the program's text (the seventh form; the later family's looks); each row that meets fmt, with fmt's text TOLD by the authors' own Lean function (tested against real Go, not proved from fmt's source: count such statements apart). THE CARD IS WHAT COUNTS. Prove the row's statement (the work); the ties are given (YthjokmfidhcclaaGreatDoorTie.lean); close each card by the builder's one call (the guide's Derived/Test/ToyasCard.lean, 'card_holds'). Laid BY PROGRAM, IN A SANDBOX (cutbox-door.mjs). By AI agents, Wed Nov 11 2026. No macro, syntax, notation, axiom, sorry.
-/
import Derived.Test.YthjokmfidhcclaaGreatDoorRows
import GoSem.ClaimSeven
namespace Go.Proofs.YthjokmfidhcclaaGreatDoor
namespace Rows

/-- THE TIED CARD OF 'verdictlaw1.DecOrder'. -/
def decOrderCard : Claim7 := { stood := { row := decOrderRow, standIns := [], harness := (true, "eec829b2f6f2df22c9f0b8a9afe7ea08fadaac9c2ca058c280449a60ae95a40f"), looks := true }, kinds := [], alts := [], laidByText := true, laidKinds := [.data, .data, .data, .data, .data, .data, .data], laidTests := true, laidLooks := .later }
def DecOrderCardSaid : Prop := Claim7.holds Tryz.pinned (.plain (OpenSpec.ofChange decOrderSpec)) decOrderCard

/-- THE SECOND FORM's CARD OF 'verdictlaw1.DecOrder'. -/
def decOrderUptoCard : Claim7 := { stood := { row := decOrderUptoRow, standIns := [], harness := (true, "eec829b2f6f2df22c9f0b8a9afe7ea08fadaac9c2ca058c280449a60ae95a40f"), looks := true }, kinds := [], alts := [], laidByText := true, laidKinds := [.data, .data, .data, .data, .data, .data, .data], laidTests := true, laidLooks := .later }
def DecOrderUptoCardSaid : Prop := Claim7.holds Tryz.pinned (.plain (OpenSpec.upto decOrderSpec)) decOrderUptoCard
end Rows
end Go.Proofs.YthjokmfidhcclaaGreatDoor
