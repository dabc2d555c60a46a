/-
  DERIVED. GIVEN WITH THE SEED: THE CARDS: each row of YtllhdhpjgihjfaaGreatDoorRows.lean that lists a variable, with what it lists TIED to the program's text (the seventh form; the later family's looks); each row that meets fmt, with fmt's text TOLD by the authors' own Lean function (tested against real Go, not proved from fmt's source: count such statements apart). THE CARD IS WHAT COUNTS. Prove the row's statement (the work); the ties are given (YtllhdhpjgihjfaaGreatDoorTie.lean); close each card by the builder's one call (the guide's Derived/Test/ToyasCard.lean, 'card_holds'). Laid BY PROGRAM, IN A SANDBOX (cutbox-door.mjs). By AI agents, Wed Nov 11 2026. No macro, syntax, notation, axiom, sorry.
-/
import Derived.Test.YtllhdhpjgihjfaaGreatDoorRows
import GoSem.ClaimSeven
namespace Go.Proofs.YtllhdhpjgihjfaaGreatDoor
namespace Rows

/-- THE TIED CARD OF 'heartwoodlaw47.LinearizableChecks'. -/
def linearizableChecksCard : Claim7 := { stood := { row := linearizableChecksRow, standIns := [], harness := (true, "bef67a6d8ec1b74075244f2de631da5970d64b9cebd68ce5a1a1698bcc6085b9"), looks := false }, kinds := [], alts := [], laidByText := true, laidKinds := [.data, .data, .data], laidTests := true, laidLooks := .later }
def LinearizableChecksCardSaid : Prop := Claim7.holds Tryz.pinned (.plain (OpenSpec.ofChange linearizableChecksSpec)) linearizableChecksCard

/-- THE TIED CARD OF 'heartwoodlaw47.LinearizableWitness'. -/
def linearizableWitnessCard : Claim7 := { stood := { row := linearizableWitnessRow, standIns := [], harness := (true, "bef67a6d8ec1b74075244f2de631da5970d64b9cebd68ce5a1a1698bcc6085b9"), looks := false }, kinds := [], alts := [], laidByText := true, laidKinds := [.data, .data, .data], laidTests := true, laidLooks := .later }
def LinearizableWitnessCardSaid : Prop := Claim7.holds Tryz.pinned (.plain (OpenSpec.ofChange linearizableWitnessSpec)) linearizableWitnessCard

/-- THE TIED CARD OF 'heartwoodlaw47.LinearizableForms'. -/
def linearizableFormsCard : Claim7 := { stood := { row := linearizableFormsRow, standIns := [], harness := (true, "bef67a6d8ec1b74075244f2de631da5970d64b9cebd68ce5a1a1698bcc6085b9"), looks := false }, kinds := [], alts := [], laidByText := true, laidKinds := [.data, .data, .data], laidTests := true, laidLooks := .later }
def LinearizableFormsCardSaid : Prop := Claim7.holds Tryz.pinned (.plain (OpenSpec.ofChange linearizableFormsSpec)) linearizableFormsCard

/-- THE TIED CARD OF 'heartwoodlaw47.LinearizableSequential'. -/
def linearizableSequentialCard : Claim7 := { stood := { row := linearizableSequentialRow, standIns := [], harness := (true, "bef67a6d8ec1b74075244f2de631da5970d64b9cebd68ce5a1a1698bcc6085b9"), looks := false }, kinds := [], alts := [], laidByText := true, laidKinds := [.data, .data, .data], laidTests := true, laidLooks := .later }
def LinearizableSequentialCardSaid : Prop := Claim7.holds Tryz.pinned (.plain (OpenSpec.ofChange linearizableSequentialSpec)) linearizableSequentialCard

/-- THE SECOND FORM's CARD OF 'heartwoodlaw47.LinearizableChecks'. -/
def linearizableChecksUptoCard : Claim7 := { stood := { row := linearizableChecksUptoRow, standIns := [], harness := (true, "bef67a6d8ec1b74075244f2de631da5970d64b9cebd68ce5a1a1698bcc6085b9"), looks := false }, kinds := [], alts := [], laidByText := true, laidKinds := [.data, .data, .data], laidTests := true, laidLooks := .later }
def LinearizableChecksUptoCardSaid : Prop := Claim7.holds Tryz.pinned (.plain (OpenSpec.upto linearizableChecksSpec)) linearizableChecksUptoCard

/-- THE SECOND FORM's CARD OF 'heartwoodlaw47.LinearizableWitness'. -/
def linearizableWitnessUptoCard : Claim7 := { stood := { row := linearizableWitnessUptoRow, standIns := [], harness := (true, "bef67a6d8ec1b74075244f2de631da5970d64b9cebd68ce5a1a1698bcc6085b9"), looks := false }, kinds := [], alts := [], laidByText := true, laidKinds := [.data, .data, .data], laidTests := true, laidLooks := .later }
def LinearizableWitnessUptoCardSaid : Prop := Claim7.holds Tryz.pinned (.plain (OpenSpec.upto linearizableWitnessSpec)) linearizableWitnessUptoCard

/-- THE SECOND FORM's CARD OF 'heartwoodlaw47.LinearizableForms'. -/
def linearizableFormsUptoCard : Claim7 := { stood := { row := linearizableFormsUptoRow, standIns := [], harness := (true, "bef67a6d8ec1b74075244f2de631da5970d64b9cebd68ce5a1a1698bcc6085b9"), looks := false }, kinds := [], alts := [], laidByText := true, laidKinds := [.data, .data, .data], laidTests := true, laidLooks := .later }
def LinearizableFormsUptoCardSaid : Prop := Claim7.holds Tryz.pinned (.plain (OpenSpec.upto linearizableFormsSpec)) linearizableFormsUptoCard

/-- THE SECOND FORM's CARD OF 'heartwoodlaw47.LinearizableSequential'. -/
def linearizableSequentialUptoCard : Claim7 := { stood := { row := linearizableSequentialUptoRow, standIns := [], harness := (true, "bef67a6d8ec1b74075244f2de631da5970d64b9cebd68ce5a1a1698bcc6085b9"), looks := false }, kinds := [], alts := [], laidByText := true, laidKinds := [.data, .data, .data], laidTests := true, laidLooks := .later }
def LinearizableSequentialUptoCardSaid : Prop := Claim7.holds Tryz.pinned (.plain (OpenSpec.upto linearizableSequentialSpec)) linearizableSequentialUptoCard
end Rows
end Go.Proofs.YtllhdhpjgihjfaaGreatDoor
