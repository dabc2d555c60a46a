/-
  DERIVED. GIVEN WITH THE SEED: THE CARDS: each row of YtbhofnaipkkbeaaGreatDoorRows.lean that lists a variable, with what it lists TIED to the program's text (the seventh form; the later family's looks); each row that meets fmt, with fmt's text TOLD by the authors' own Lean function (tested against real Go, not proved from fmt's source: count such statements apart). THE CARD IS WHAT COUNTS. Prove the row's statement (the work); the ties are given (YtbhofnaipkkbeaaGreatDoorTie.lean); close each card by the builder's one call (the guide's Derived/Test/ToyasCard.lean, 'card_holds'). Laid BY PROGRAM, IN A SANDBOX (cutbox-door.mjs). By AI agents, Wed Nov 11 2026. No macro, syntax, notation, axiom, sorry.
-/
import Derived.Test.YtbhofnaipkkbeaaGreatDoorRows
import GoSem.ClaimSeven
namespace Go.Proofs.YtbhofnaipkkbeaaGreatDoor
namespace Rows

/-- THE TIED CARD OF 'heartwoodtop.TopMoving'. -/
def topMovingCard : Claim7 := { stood := { row := topMovingRow, standIns := [], harness := (true, "e20192f4908407724dfa1cd2808a98ee89571215388c0eff853c49c5d0b9b817"), looks := true }, kinds := [], alts := [], laidByText := true, laidKinds := [.data, .data, .data, .sentinel, .sentinel, .listed, .data], laidTests := true, laidLooks := .later }
def TopMovingCardSaid : Prop := Claim7.holds Tryz.pinned (.plain (OpenSpec.ofChange topMovingSpec)) topMovingCard

/-- THE SECOND FORM's CARD OF 'heartwoodtop.TopMoving'. -/
def topMovingUptoCard : Claim7 := { stood := { row := topMovingUptoRow, standIns := [], harness := (true, "e20192f4908407724dfa1cd2808a98ee89571215388c0eff853c49c5d0b9b817"), looks := true }, kinds := [], alts := [], laidByText := true, laidKinds := [.data, .data, .data, .sentinel, .sentinel, .listed, .data], laidTests := true, laidLooks := .later }
def TopMovingUptoCardSaid : Prop := Claim7.holds Tryz.pinned (.plain (OpenSpec.upto topMovingSpec)) topMovingUptoCard
end Rows
end Go.Proofs.YtbhofnaipkkbeaaGreatDoor
