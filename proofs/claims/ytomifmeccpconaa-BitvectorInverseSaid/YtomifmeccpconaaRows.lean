/-
  No cell of these rows narrows 'for every input' (looked for: loops, veiled, ifaces, maps, wideKeys, modest, calm, conditions, laid).
  DERIVED. THE GIVEN ROWS OF THIS SEAT. 6 by the template 'for every input the law returns true; each argument reads behind the call as it read before'; 0 by the template 'total and deterministic' (their statements: YtomifmeccpconaaTotals.lean).
  GIVEN WITH THE SEED: the statements are not yours to turn. If you find one false, say at which input.
  Laid BY PROGRAM, IN A SANDBOX (cutbox-rows.mjs): the forced cells as the released guide's own fill.sh prints them over the translation f53fe0afb896a4e2… (all of the seat's roots in one cut). By AI agents, Wed Nov 11 2026. No macro, syntax, notation, axiom, sorry.
-/
import Derived.Test.YtomifmeccpconaaChecked
import GoSem.Claim
import GoSem.ClaimJoined
import GoSem.ClaimMapViews
import Derived.JoinedTies
import Derived.KernelRfl
namespace Go.Proofs.Ytomifmeccpconaa
/- THE CELL 'sum', in the pinned program and in every row, IS THE sha256 OF THE DUMP (.gsa) THAT YtomifmeccpconaaProg.lean LOADS. Nothing in Lean hashes anything: it is a label: what it is worth is what the hold of that sum in a sandbox is worth. -/
noncomputable def Try.pinned : Pinned := { name := "ytomifmeccpconaa", sum := "f53fe0afb896a4e2ce6324a9452b12b9d2fda3c1e1ae427501b4fcafcdefa474", checked := Try.checked }
namespace Rows
def none {H : Type} : Left H := { results := [], args := [] }

/-- 'heartwoodlaw21.BitvectorRanks': WHATEVER THE INPUT: true; the input reads as it did. -/
def bitvectorRanksSpec : ChangeSpec := { name := "bitvectorRanks", fn := fun _ => fun
  | [d1, d2, d3] => { results := [.lit (.bool true)], args := [d1, d2, d3] }
  | _ => none }
def bitvectorRanksRow : OpenClaim := { program := "ytomifmeccpconaa", sum := "f53fe0afb896a4e2ce6324a9452b12b9d2fda3c1e1ae427501b4fcafcdefa474", func := "heartwood/heartwoodlaw21.BitvectorRanks", spec := "bitvectorRanks", unfollowed := true, recurses := true, apart := false }
def BitvectorRanksSaid : Prop := bitvectorRanksRow.holds Try.pinned (OpenSpec.ofChange bitvectorRanksSpec)

/-- ITS FALSE NEIGHBOUR: 'it returns false'. Refute it at one input. -/
def bitvectorRanksWrong : ChangeSpec := { name := "bitvectorRanks", fn := fun _ => fun
  | [d1, d2, d3] => { results := [.lit (.bool false)], args := [d1, d2, d3] }
  | _ => none }
def BitvectorRanksWrongFalsely : Prop := bitvectorRanksRow.holds Try.pinned (OpenSpec.ofChange bitvectorRanksWrong)

/-- 'heartwoodlaw21.BitvectorSteps': WHATEVER THE INPUT: true; the input reads as it did. -/
def bitvectorStepsSpec : ChangeSpec := { name := "bitvectorSteps", fn := fun _ => fun
  | [d1, d2, d3] => { results := [.lit (.bool true)], args := [d1, d2, d3] }
  | _ => none }
def bitvectorStepsRow : OpenClaim := { program := "ytomifmeccpconaa", sum := "f53fe0afb896a4e2ce6324a9452b12b9d2fda3c1e1ae427501b4fcafcdefa474", func := "heartwood/heartwoodlaw21.BitvectorSteps", spec := "bitvectorSteps", unfollowed := true, recurses := true, apart := false }
def BitvectorStepsSaid : Prop := bitvectorStepsRow.holds Try.pinned (OpenSpec.ofChange bitvectorStepsSpec)

/-- ITS FALSE NEIGHBOUR: 'it returns false'. Refute it at one input. -/
def bitvectorStepsWrong : ChangeSpec := { name := "bitvectorSteps", fn := fun _ => fun
  | [d1, d2, d3] => { results := [.lit (.bool false)], args := [d1, d2, d3] }
  | _ => none }
def BitvectorStepsWrongFalsely : Prop := bitvectorStepsRow.holds Try.pinned (OpenSpec.ofChange bitvectorStepsWrong)

/-- 'heartwoodlaw21.BitvectorMakes': WHATEVER THE INPUT: true; the input reads as it did. -/
def bitvectorMakesSpec : ChangeSpec := { name := "bitvectorMakes", fn := fun _ => fun
  | [d1, d2] => { results := [.lit (.bool true)], args := [d1, d2] }
  | _ => none }
def bitvectorMakesRow : OpenClaim := { program := "ytomifmeccpconaa", sum := "f53fe0afb896a4e2ce6324a9452b12b9d2fda3c1e1ae427501b4fcafcdefa474", func := "heartwood/heartwoodlaw21.BitvectorMakes", spec := "bitvectorMakes", unfollowed := true, recurses := true, apart := false }
def BitvectorMakesSaid : Prop := bitvectorMakesRow.holds Try.pinned (OpenSpec.ofChange bitvectorMakesSpec)

/-- ITS FALSE NEIGHBOUR: 'it returns false'. Refute it at one input. -/
def bitvectorMakesWrong : ChangeSpec := { name := "bitvectorMakes", fn := fun _ => fun
  | [d1, d2] => { results := [.lit (.bool false)], args := [d1, d2] }
  | _ => none }
def BitvectorMakesWrongFalsely : Prop := bitvectorMakesRow.holds Try.pinned (OpenSpec.ofChange bitvectorMakesWrong)

/-- 'heartwoodlaw21.BitvectorNil': WHATEVER THE INPUT: true; the input reads as it did. -/
def bitvectorNilSpec : ChangeSpec := { name := "bitvectorNil", fn := fun _ => fun
  | [d1, d2] => { results := [.lit (.bool true)], args := [d1, d2] }
  | _ => none }
def bitvectorNilRow : OpenClaim := { program := "ytomifmeccpconaa", sum := "f53fe0afb896a4e2ce6324a9452b12b9d2fda3c1e1ae427501b4fcafcdefa474", func := "heartwood/heartwoodlaw21.BitvectorNil", spec := "bitvectorNil", unfollowed := true, recurses := true, apart := false }
def BitvectorNilSaid : Prop := bitvectorNilRow.holds Try.pinned (OpenSpec.ofChange bitvectorNilSpec)

/-- ITS FALSE NEIGHBOUR: 'it returns false'. Refute it at one input. -/
def bitvectorNilWrong : ChangeSpec := { name := "bitvectorNil", fn := fun _ => fun
  | [d1, d2] => { results := [.lit (.bool false)], args := [d1, d2] }
  | _ => none }
def BitvectorNilWrongFalsely : Prop := bitvectorNilRow.holds Try.pinned (OpenSpec.ofChange bitvectorNilWrong)

/-- 'heartwoodlaw21.BitvectorCodes': WHATEVER THE INPUT: true; the input reads as it did. -/
def bitvectorCodesSpec : ChangeSpec := { name := "bitvectorCodes", fn := fun _ => fun
  | [d1, d2] => { results := [.lit (.bool true)], args := [d1, d2] }
  | _ => none }
def bitvectorCodesRow : OpenClaim := { program := "ytomifmeccpconaa", sum := "f53fe0afb896a4e2ce6324a9452b12b9d2fda3c1e1ae427501b4fcafcdefa474", func := "heartwood/heartwoodlaw21.BitvectorCodes", spec := "bitvectorCodes", unfollowed := true, recurses := true, apart := false }
def BitvectorCodesSaid : Prop := bitvectorCodesRow.holds Try.pinned (OpenSpec.ofChange bitvectorCodesSpec)

/-- ITS FALSE NEIGHBOUR: 'it returns false'. Refute it at one input. -/
def bitvectorCodesWrong : ChangeSpec := { name := "bitvectorCodes", fn := fun _ => fun
  | [d1, d2] => { results := [.lit (.bool false)], args := [d1, d2] }
  | _ => none }
def BitvectorCodesWrongFalsely : Prop := bitvectorCodesRow.holds Try.pinned (OpenSpec.ofChange bitvectorCodesWrong)

/-- 'heartwoodlaw21.BitvectorInverse': WHATEVER THE INPUT: true; the input reads as it did. -/
def bitvectorInverseSpec : ChangeSpec := { name := "bitvectorInverse", fn := fun _ => fun
  | [d1, d2] => { results := [.lit (.bool true)], args := [d1, d2] }
  | _ => none }
def bitvectorInverseRow : OpenClaim := { program := "ytomifmeccpconaa", sum := "f53fe0afb896a4e2ce6324a9452b12b9d2fda3c1e1ae427501b4fcafcdefa474", func := "heartwood/heartwoodlaw21.BitvectorInverse", spec := "bitvectorInverse", unfollowed := true, recurses := true, apart := false }
def BitvectorInverseSaid : Prop := bitvectorInverseRow.holds Try.pinned (OpenSpec.ofChange bitvectorInverseSpec)

/-- ITS FALSE NEIGHBOUR: 'it returns false'. Refute it at one input. -/
def bitvectorInverseWrong : ChangeSpec := { name := "bitvectorInverse", fn := fun _ => fun
  | [d1, d2] => { results := [.lit (.bool false)], args := [d1, d2] }
  | _ => none }
def BitvectorInverseWrongFalsely : Prop := bitvectorInverseRow.holds Try.pinned (OpenSpec.ofChange bitvectorInverseWrong)

/- THE SECOND FORM. 'bulk': how many values and letters a reading holds, each counted each time it is reached (what is shared counts as often as it is met; a slice's spare places count too). A statement '..UptoSaid' is the law's where the arguments, and the package variables that the reading takes, are together of bulk at most 1048576: NARROWER than '..Said'. Prove '..Said' where nothing that the law and all that it calls make is longer than what came in: it says more and counts as full. Else prove '..UptoSaid'. A law counts once. -/
mutual
def uptoBulk {H : Type} : DataW H → Nat
  | .lit (.string bytes) => bytes.length + 1
  | .lit _ => 1
  | .nil => 1
  | .ptr d => uptoBulk d + 1
  | .slice elems spare => uptoBulkAll elems + uptoBulkAll spare + 1
  | .agg parts => uptoBulkAll parts + 1
  | .iface _ d => uptoBulk d + 1
  | .map entries => uptoBulkEntries entries + 1
  | .held _ => 1
def uptoBulkAll {H : Type} : List (DataW H) → Nat
  | [] => 0
  | d :: r => uptoBulk d + uptoBulkAll r
def uptoBulkEntries {H : Type} : List (Lit × DataW H) → Nat
  | [] => 0
  | x :: r => uptoBulkEntry x + uptoBulkEntries r
def uptoBulkEntry {H : Type} : Lit × DataW H → Nat
  | (.string bytes, d) => bytes.length + uptoBulk d + 1
  | (_, d) => uptoBulk d + 1
 end
def uptoSmall : (H : Type) → List (DataW H) → Bool := fun _ ds => decide (uptoBulkAll ds ≤ 1048576)
def OpenSpec.upto (s : _root_.Go.ChangeSpec) : _root_.Go.OpenSpec := { _root_.Go.OpenSpec.ofChange s with cond := some uptoSmall }

/-- 'heartwoodlaw21.BitvectorRanks', WHERE WHAT IT READS IS OF BULK AT MOST 1048576: true; the input reads as it did. -/
def bitvectorRanksUptoRow : OpenClaim := { program := "ytomifmeccpconaa", sum := "f53fe0afb896a4e2ce6324a9452b12b9d2fda3c1e1ae427501b4fcafcdefa474", func := "heartwood/heartwoodlaw21.BitvectorRanks", spec := "bitvectorRanks", unfollowed := true, recurses := true, apart := false, narrowed := true }
def BitvectorRanksUptoSaid : Prop := bitvectorRanksUptoRow.holds Try.pinned (OpenSpec.upto bitvectorRanksSpec)

/-- 'heartwoodlaw21.BitvectorSteps', WHERE WHAT IT READS IS OF BULK AT MOST 1048576: true; the input reads as it did. -/
def bitvectorStepsUptoRow : OpenClaim := { program := "ytomifmeccpconaa", sum := "f53fe0afb896a4e2ce6324a9452b12b9d2fda3c1e1ae427501b4fcafcdefa474", func := "heartwood/heartwoodlaw21.BitvectorSteps", spec := "bitvectorSteps", unfollowed := true, recurses := true, apart := false, narrowed := true }
def BitvectorStepsUptoSaid : Prop := bitvectorStepsUptoRow.holds Try.pinned (OpenSpec.upto bitvectorStepsSpec)

/-- 'heartwoodlaw21.BitvectorMakes', WHERE WHAT IT READS IS OF BULK AT MOST 1048576: true; the input reads as it did. -/
def bitvectorMakesUptoRow : OpenClaim := { program := "ytomifmeccpconaa", sum := "f53fe0afb896a4e2ce6324a9452b12b9d2fda3c1e1ae427501b4fcafcdefa474", func := "heartwood/heartwoodlaw21.BitvectorMakes", spec := "bitvectorMakes", unfollowed := true, recurses := true, apart := false, narrowed := true }
def BitvectorMakesUptoSaid : Prop := bitvectorMakesUptoRow.holds Try.pinned (OpenSpec.upto bitvectorMakesSpec)

/-- 'heartwoodlaw21.BitvectorNil', WHERE WHAT IT READS IS OF BULK AT MOST 1048576: true; the input reads as it did. -/
def bitvectorNilUptoRow : OpenClaim := { program := "ytomifmeccpconaa", sum := "f53fe0afb896a4e2ce6324a9452b12b9d2fda3c1e1ae427501b4fcafcdefa474", func := "heartwood/heartwoodlaw21.BitvectorNil", spec := "bitvectorNil", unfollowed := true, recurses := true, apart := false, narrowed := true }
def BitvectorNilUptoSaid : Prop := bitvectorNilUptoRow.holds Try.pinned (OpenSpec.upto bitvectorNilSpec)

/-- 'heartwoodlaw21.BitvectorCodes', WHERE WHAT IT READS IS OF BULK AT MOST 1048576: true; the input reads as it did. -/
def bitvectorCodesUptoRow : OpenClaim := { program := "ytomifmeccpconaa", sum := "f53fe0afb896a4e2ce6324a9452b12b9d2fda3c1e1ae427501b4fcafcdefa474", func := "heartwood/heartwoodlaw21.BitvectorCodes", spec := "bitvectorCodes", unfollowed := true, recurses := true, apart := false, narrowed := true }
def BitvectorCodesUptoSaid : Prop := bitvectorCodesUptoRow.holds Try.pinned (OpenSpec.upto bitvectorCodesSpec)

/-- 'heartwoodlaw21.BitvectorInverse', WHERE WHAT IT READS IS OF BULK AT MOST 1048576: true; the input reads as it did. -/
def bitvectorInverseUptoRow : OpenClaim := { program := "ytomifmeccpconaa", sum := "f53fe0afb896a4e2ce6324a9452b12b9d2fda3c1e1ae427501b4fcafcdefa474", func := "heartwood/heartwoodlaw21.BitvectorInverse", spec := "bitvectorInverse", unfollowed := true, recurses := true, apart := false, narrowed := true }
def BitvectorInverseUptoSaid : Prop := bitvectorInverseUptoRow.holds Try.pinned (OpenSpec.upto bitvectorInverseSpec)

end Rows
end Go.Proofs.Ytomifmeccpconaa
