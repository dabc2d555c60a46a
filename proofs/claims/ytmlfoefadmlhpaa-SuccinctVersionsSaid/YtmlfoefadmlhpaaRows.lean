/-
  No cell of these rows narrows 'for every input' (looked for: loops, veiled, ifaces, maps, wideKeys, modest, calm, conditions, laid).
  DERIVED. THE GIVEN ROWS OF THIS SEAT. 8 by the template 'for every input the law returns true; each argument reads behind the call as it read before'; 0 by the template 'total and deterministic' (their statements: YtmlfoefadmlhpaaTotals.lean).
  GIVEN WITH THE SEED: the statements are not yours to turn. If you find one false, say at which input.
  Laid BY PROGRAM, IN A SANDBOX (cutbox-rows.mjs): the forced cells as the released guide's own fill.sh prints them over the translation cad564e4944fc96d… (all of the seat's roots in one cut). By AI agents, Wed Nov 11 2026. No macro, syntax, notation, axiom, sorry.
-/
import Derived.Test.YtmlfoefadmlhpaaChecked
import GoSem.Claim
import GoSem.ClaimJoined
import GoSem.ClaimMapViews
import Derived.JoinedTies
import Derived.KernelRfl
namespace Go.Proofs.Ytmlfoefadmlhpaa
/- THE CELL 'sum', in the pinned program and in every row, IS THE sha256 OF THE DUMP (.gsa) THAT YtmlfoefadmlhpaaProg.lean LOADS. Nothing in Lean hashes anything: it is a label: what it is worth is what the hold of that sum in a sandbox is worth. -/
noncomputable def Try.pinned : Pinned := { name := "ytmlfoefadmlhpaa", sum := "cad564e4944fc96d2b9e1a58d8c0b933a884fc98b3eab0057694b66f9b48d7b2", checked := Try.checked }
namespace Rows
def none {H : Type} : Left H := { results := [], args := [] }

/-- 'heartwoodlaw48.SuccinctLists': WHATEVER THE INPUT: true; the input reads as it did. -/
def succinctListsSpec : ChangeSpec := { name := "succinctLists", fn := fun _ => fun
  | [d1, d2, d3] => { results := [.lit (.bool true)], args := [d1, d2, d3] }
  | _ => none }
def succinctListsRow : OpenClaim := { program := "ytmlfoefadmlhpaa", sum := "cad564e4944fc96d2b9e1a58d8c0b933a884fc98b3eab0057694b66f9b48d7b2", func := "heartwood/heartwoodlaw48.SuccinctLists", spec := "succinctLists", unfollowed := true, recurses := true, apart := false }
def SuccinctListsSaid : Prop := succinctListsRow.holds Try.pinned (OpenSpec.ofChange succinctListsSpec)

/-- ITS FALSE NEIGHBOUR: 'it returns false'. Refute it at one input. -/
def succinctListsWrong : ChangeSpec := { name := "succinctLists", fn := fun _ => fun
  | [d1, d2, d3] => { results := [.lit (.bool false)], args := [d1, d2, d3] }
  | _ => none }
def SuccinctListsWrongFalsely : Prop := succinctListsRow.holds Try.pinned (OpenSpec.ofChange succinctListsWrong)

/-- 'heartwoodlaw48.SuccinctFinds': WHATEVER THE INPUT: true; the input reads as it did. -/
def succinctFindsSpec : ChangeSpec := { name := "succinctFinds", fn := fun _ => fun
  | [d1, d2] => { results := [.lit (.bool true)], args := [d1, d2] }
  | _ => none }
def succinctFindsRow : OpenClaim := { program := "ytmlfoefadmlhpaa", sum := "cad564e4944fc96d2b9e1a58d8c0b933a884fc98b3eab0057694b66f9b48d7b2", func := "heartwood/heartwoodlaw48.SuccinctFinds", spec := "succinctFinds", unfollowed := true, recurses := true, apart := false }
def SuccinctFindsSaid : Prop := succinctFindsRow.holds Try.pinned (OpenSpec.ofChange succinctFindsSpec)

/-- ITS FALSE NEIGHBOUR: 'it returns false'. Refute it at one input. -/
def succinctFindsWrong : ChangeSpec := { name := "succinctFinds", fn := fun _ => fun
  | [d1, d2] => { results := [.lit (.bool false)], args := [d1, d2] }
  | _ => none }
def SuccinctFindsWrongFalsely : Prop := succinctFindsRow.holds Try.pinned (OpenSpec.ofChange succinctFindsWrong)

/-- 'heartwoodlaw48.SuccinctMakes': WHATEVER THE INPUT: true; the input reads as it did. -/
def succinctMakesSpec : ChangeSpec := { name := "succinctMakes", fn := fun _ => fun
  | [d1, d2] => { results := [.lit (.bool true)], args := [d1, d2] }
  | _ => none }
def succinctMakesRow : OpenClaim := { program := "ytmlfoefadmlhpaa", sum := "cad564e4944fc96d2b9e1a58d8c0b933a884fc98b3eab0057694b66f9b48d7b2", func := "heartwood/heartwoodlaw48.SuccinctMakes", spec := "succinctMakes", unfollowed := true, recurses := true, apart := false }
def SuccinctMakesSaid : Prop := succinctMakesRow.holds Try.pinned (OpenSpec.ofChange succinctMakesSpec)

/-- ITS FALSE NEIGHBOUR: 'it returns false'. Refute it at one input. -/
def succinctMakesWrong : ChangeSpec := { name := "succinctMakes", fn := fun _ => fun
  | [d1, d2] => { results := [.lit (.bool false)], args := [d1, d2] }
  | _ => none }
def SuccinctMakesWrongFalsely : Prop := succinctMakesRow.holds Try.pinned (OpenSpec.ofChange succinctMakesWrong)

/-- 'heartwoodlaw48.SuccinctVersions': WHATEVER THE INPUT: true; the input reads as it did. -/
def succinctVersionsSpec : ChangeSpec := { name := "succinctVersions", fn := fun _ => fun
  | [d1, d2, d3] => { results := [.lit (.bool true)], args := [d1, d2, d3] }
  | _ => none }
def succinctVersionsRow : OpenClaim := { program := "ytmlfoefadmlhpaa", sum := "cad564e4944fc96d2b9e1a58d8c0b933a884fc98b3eab0057694b66f9b48d7b2", func := "heartwood/heartwoodlaw48.SuccinctVersions", spec := "succinctVersions", unfollowed := true, recurses := true, apart := false }
def SuccinctVersionsSaid : Prop := succinctVersionsRow.holds Try.pinned (OpenSpec.ofChange succinctVersionsSpec)

/-- ITS FALSE NEIGHBOUR: 'it returns false'. Refute it at one input. -/
def succinctVersionsWrong : ChangeSpec := { name := "succinctVersions", fn := fun _ => fun
  | [d1, d2, d3] => { results := [.lit (.bool false)], args := [d1, d2, d3] }
  | _ => none }
def SuccinctVersionsWrongFalsely : Prop := succinctVersionsRow.holds Try.pinned (OpenSpec.ofChange succinctVersionsWrong)

/-- 'heartwoodlaw48.SuccinctBack': WHATEVER THE INPUT: true; the input reads as it did. -/
def succinctBackSpec : ChangeSpec := { name := "succinctBack", fn := fun _ => fun
  | [d] => { results := [.lit (.bool true)], args := [d] }
  | _ => none }
def succinctBackRow : OpenClaim := { program := "ytmlfoefadmlhpaa", sum := "cad564e4944fc96d2b9e1a58d8c0b933a884fc98b3eab0057694b66f9b48d7b2", func := "heartwood/heartwoodlaw48.SuccinctBack", spec := "succinctBack", unfollowed := true, recurses := true, apart := false }
def SuccinctBackSaid : Prop := succinctBackRow.holds Try.pinned (OpenSpec.ofChange succinctBackSpec)

/-- ITS FALSE NEIGHBOUR: 'it returns false'. Refute it at one input. -/
def succinctBackWrong : ChangeSpec := { name := "succinctBack", fn := fun _ => fun
  | [d] => { results := [.lit (.bool false)], args := [d] }
  | _ => none }
def SuccinctBackWrongFalsely : Prop := succinctBackRow.holds Try.pinned (OpenSpec.ofChange succinctBackWrong)

/-- 'heartwoodlaw48.SuccinctNodes': WHATEVER THE INPUT: true; the input reads as it did. -/
def succinctNodesSpec : ChangeSpec := { name := "succinctNodes", fn := fun _ => fun
  | [d1, d2, d3, d4, d5] => { results := [.lit (.bool true)], args := [d1, d2, d3, d4, d5] }
  | _ => none }
def succinctNodesRow : OpenClaim := { program := "ytmlfoefadmlhpaa", sum := "cad564e4944fc96d2b9e1a58d8c0b933a884fc98b3eab0057694b66f9b48d7b2", func := "heartwood/heartwoodlaw48.SuccinctNodes", spec := "succinctNodes", unfollowed := true, recurses := true, apart := false }
def SuccinctNodesSaid : Prop := succinctNodesRow.holds Try.pinned (OpenSpec.ofChange succinctNodesSpec)

/-- ITS FALSE NEIGHBOUR: 'it returns false'. Refute it at one input. -/
def succinctNodesWrong : ChangeSpec := { name := "succinctNodes", fn := fun _ => fun
  | [d1, d2, d3, d4, d5] => { results := [.lit (.bool false)], args := [d1, d2, d3, d4, d5] }
  | _ => none }
def SuccinctNodesWrongFalsely : Prop := succinctNodesRow.holds Try.pinned (OpenSpec.ofChange succinctNodesWrong)

/-- 'heartwoodlaw48.SuccinctRanges': WHATEVER THE INPUT: true; the input reads as it did. -/
def succinctRangesSpec : ChangeSpec := { name := "succinctRanges", fn := fun _ => fun
  | [d1, d2, d3] => { results := [.lit (.bool true)], args := [d1, d2, d3] }
  | _ => none }
def succinctRangesRow : OpenClaim := { program := "ytmlfoefadmlhpaa", sum := "cad564e4944fc96d2b9e1a58d8c0b933a884fc98b3eab0057694b66f9b48d7b2", func := "heartwood/heartwoodlaw48.SuccinctRanges", spec := "succinctRanges", unfollowed := true, recurses := true, apart := false }
def SuccinctRangesSaid : Prop := succinctRangesRow.holds Try.pinned (OpenSpec.ofChange succinctRangesSpec)

/-- ITS FALSE NEIGHBOUR: 'it returns false'. Refute it at one input. -/
def succinctRangesWrong : ChangeSpec := { name := "succinctRanges", fn := fun _ => fun
  | [d1, d2, d3] => { results := [.lit (.bool false)], args := [d1, d2, d3] }
  | _ => none }
def SuccinctRangesWrongFalsely : Prop := succinctRangesRow.holds Try.pinned (OpenSpec.ofChange succinctRangesWrong)

/-- 'heartwoodlaw48.SuccinctApart': WHATEVER THE INPUT: true; the input reads as it did. -/
def succinctApartSpec : ChangeSpec := { name := "succinctApart", fn := fun _ => fun
  | [d1, d2] => { results := [.lit (.bool true)], args := [d1, d2] }
  | _ => none }
def succinctApartRow : OpenClaim := { program := "ytmlfoefadmlhpaa", sum := "cad564e4944fc96d2b9e1a58d8c0b933a884fc98b3eab0057694b66f9b48d7b2", func := "heartwood/heartwoodlaw48.SuccinctApart", spec := "succinctApart", unfollowed := true, recurses := true, apart := false }
def SuccinctApartSaid : Prop := succinctApartRow.holds Try.pinned (OpenSpec.ofChange succinctApartSpec)

/-- ITS FALSE NEIGHBOUR: 'it returns false'. Refute it at one input. -/
def succinctApartWrong : ChangeSpec := { name := "succinctApart", fn := fun _ => fun
  | [d1, d2] => { results := [.lit (.bool false)], args := [d1, d2] }
  | _ => none }
def SuccinctApartWrongFalsely : Prop := succinctApartRow.holds Try.pinned (OpenSpec.ofChange succinctApartWrong)

/- THE SECOND FORM. 'bulk': how many values and letters a reading holds, each counted each time it is reached (what is shared counts as often as it is met; a slice's spare places count too). A statement '..UptoSaid' is the law's where the arguments, and the package variables that the reading takes, are together of bulk at most 1048576: NARROWER than '..Said'. Prove '..Said' where nothing that the law and all that it calls make is longer than what came in: it says more and counts as full. Else prove '..UptoSaid'. A law counts once. -/
mutual
def uptoBulk {H : Type} : DataW H → Nat
  | .lit (.string bytes) => bytes.length + 1
  | .lit _ => 1
  | .nil => 1
  | .ptr d => uptoBulk d + 1
  | .slice elems spare => uptoBulkAll elems + uptoBulkAll spare + 1
  | .agg parts => uptoBulkAll parts + 1
  | .iface _ d => uptoBulk d + 1
  | .map entries => uptoBulkEntries entries + 1
  | .held _ => 1
def uptoBulkAll {H : Type} : List (DataW H) → Nat
  | [] => 0
  | d :: r => uptoBulk d + uptoBulkAll r
def uptoBulkEntries {H : Type} : List (Lit × DataW H) → Nat
  | [] => 0
  | x :: r => uptoBulkEntry x + uptoBulkEntries r
def uptoBulkEntry {H : Type} : Lit × DataW H → Nat
  | (.string bytes, d) => bytes.length + uptoBulk d + 1
  | (_, d) => uptoBulk d + 1
 end
def uptoSmall : (H : Type) → List (DataW H) → Bool := fun _ ds => decide (uptoBulkAll ds ≤ 1048576)
def OpenSpec.upto (s : _root_.Go.ChangeSpec) : _root_.Go.OpenSpec := { _root_.Go.OpenSpec.ofChange s with cond := some uptoSmall }

/-- 'heartwoodlaw48.SuccinctLists', WHERE WHAT IT READS IS OF BULK AT MOST 1048576: true; the input reads as it did. -/
def succinctListsUptoRow : OpenClaim := { program := "ytmlfoefadmlhpaa", sum := "cad564e4944fc96d2b9e1a58d8c0b933a884fc98b3eab0057694b66f9b48d7b2", func := "heartwood/heartwoodlaw48.SuccinctLists", spec := "succinctLists", unfollowed := true, recurses := true, apart := false, narrowed := true }
def SuccinctListsUptoSaid : Prop := succinctListsUptoRow.holds Try.pinned (OpenSpec.upto succinctListsSpec)

/-- 'heartwoodlaw48.SuccinctFinds', WHERE WHAT IT READS IS OF BULK AT MOST 1048576: true; the input reads as it did. -/
def succinctFindsUptoRow : OpenClaim := { program := "ytmlfoefadmlhpaa", sum := "cad564e4944fc96d2b9e1a58d8c0b933a884fc98b3eab0057694b66f9b48d7b2", func := "heartwood/heartwoodlaw48.SuccinctFinds", spec := "succinctFinds", unfollowed := true, recurses := true, apart := false, narrowed := true }
def SuccinctFindsUptoSaid : Prop := succinctFindsUptoRow.holds Try.pinned (OpenSpec.upto succinctFindsSpec)

/-- 'heartwoodlaw48.SuccinctMakes', WHERE WHAT IT READS IS OF BULK AT MOST 1048576: true; the input reads as it did. -/
def succinctMakesUptoRow : OpenClaim := { program := "ytmlfoefadmlhpaa", sum := "cad564e4944fc96d2b9e1a58d8c0b933a884fc98b3eab0057694b66f9b48d7b2", func := "heartwood/heartwoodlaw48.SuccinctMakes", spec := "succinctMakes", unfollowed := true, recurses := true, apart := false, narrowed := true }
def SuccinctMakesUptoSaid : Prop := succinctMakesUptoRow.holds Try.pinned (OpenSpec.upto succinctMakesSpec)

/-- 'heartwoodlaw48.SuccinctVersions', WHERE WHAT IT READS IS OF BULK AT MOST 1048576: true; the input reads as it did. -/
def succinctVersionsUptoRow : OpenClaim := { program := "ytmlfoefadmlhpaa", sum := "cad564e4944fc96d2b9e1a58d8c0b933a884fc98b3eab0057694b66f9b48d7b2", func := "heartwood/heartwoodlaw48.SuccinctVersions", spec := "succinctVersions", unfollowed := true, recurses := true, apart := false, narrowed := true }
def SuccinctVersionsUptoSaid : Prop := succinctVersionsUptoRow.holds Try.pinned (OpenSpec.upto succinctVersionsSpec)

/-- 'heartwoodlaw48.SuccinctBack', WHERE WHAT IT READS IS OF BULK AT MOST 1048576: true; the input reads as it did. -/
def succinctBackUptoRow : OpenClaim := { program := "ytmlfoefadmlhpaa", sum := "cad564e4944fc96d2b9e1a58d8c0b933a884fc98b3eab0057694b66f9b48d7b2", func := "heartwood/heartwoodlaw48.SuccinctBack", spec := "succinctBack", unfollowed := true, recurses := true, apart := false, narrowed := true }
def SuccinctBackUptoSaid : Prop := succinctBackUptoRow.holds Try.pinned (OpenSpec.upto succinctBackSpec)

/-- 'heartwoodlaw48.SuccinctNodes', WHERE WHAT IT READS IS OF BULK AT MOST 1048576: true; the input reads as it did. -/
def succinctNodesUptoRow : OpenClaim := { program := "ytmlfoefadmlhpaa", sum := "cad564e4944fc96d2b9e1a58d8c0b933a884fc98b3eab0057694b66f9b48d7b2", func := "heartwood/heartwoodlaw48.SuccinctNodes", spec := "succinctNodes", unfollowed := true, recurses := true, apart := false, narrowed := true }
def SuccinctNodesUptoSaid : Prop := succinctNodesUptoRow.holds Try.pinned (OpenSpec.upto succinctNodesSpec)

/-- 'heartwoodlaw48.SuccinctRanges', WHERE WHAT IT READS IS OF BULK AT MOST 1048576: true; the input reads as it did. -/
def succinctRangesUptoRow : OpenClaim := { program := "ytmlfoefadmlhpaa", sum := "cad564e4944fc96d2b9e1a58d8c0b933a884fc98b3eab0057694b66f9b48d7b2", func := "heartwood/heartwoodlaw48.SuccinctRanges", spec := "succinctRanges", unfollowed := true, recurses := true, apart := false, narrowed := true }
def SuccinctRangesUptoSaid : Prop := succinctRangesUptoRow.holds Try.pinned (OpenSpec.upto succinctRangesSpec)

/-- 'heartwoodlaw48.SuccinctApart', WHERE WHAT IT READS IS OF BULK AT MOST 1048576: true; the input reads as it did. -/
def succinctApartUptoRow : OpenClaim := { program := "ytmlfoefadmlhpaa", sum := "cad564e4944fc96d2b9e1a58d8c0b933a884fc98b3eab0057694b66f9b48d7b2", func := "heartwood/heartwoodlaw48.SuccinctApart", spec := "succinctApart", unfollowed := true, recurses := true, apart := false, narrowed := true }
def SuccinctApartUptoSaid : Prop := succinctApartUptoRow.holds Try.pinned (OpenSpec.upto succinctApartSpec)

end Rows
end Go.Proofs.Ytmlfoefadmlhpaa
