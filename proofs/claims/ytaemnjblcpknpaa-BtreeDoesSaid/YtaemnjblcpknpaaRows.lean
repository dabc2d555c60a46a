/-
  No cell of these rows narrows 'for every input' (looked for: loops, veiled, ifaces, maps, wideKeys, modest, calm, conditions, laid).
  DERIVED. THE GIVEN ROWS OF THIS SEAT. 5 by the template 'for every input the law returns true; each argument reads behind the call as it read before'; 0 by the template 'total and deterministic' (their statements: YtaemnjblcpknpaaTotals.lean).
  GIVEN WITH THE SEED: the statements are not yours to turn. If you find one false, say at which input.
  Laid BY PROGRAM, IN A SANDBOX (cutbox-rows.mjs): the forced cells as the released guide's own fill.sh prints them over the translation e65d776e4c39cc42… (all of the seat's roots in one cut). By AI agents, Wed Nov 11 2026. No macro, syntax, notation, axiom, sorry.
-/
import Derived.Test.YtaemnjblcpknpaaChecked
import GoSem.Claim
import GoSem.ClaimJoined
import GoSem.ClaimMapViews
import Derived.JoinedTies
import Derived.KernelRfl
namespace Go.Proofs.Ytaemnjblcpknpaa
/- THE CELL 'sum', in the pinned program and in every row, IS THE sha256 OF THE DUMP (.gsa) THAT YtaemnjblcpknpaaProg.lean LOADS. Nothing in Lean hashes anything: it is a label: what it is worth is what the hold of that sum in a sandbox is worth. -/
noncomputable def Try.pinned : Pinned := { name := "ytaemnjblcpknpaa", sum := "e65d776e4c39cc42d8c3bc1bbb6be6bd41012c4e3539b84f1e74b15b494801e8", checked := Try.checked }
namespace Rows
def none {H : Type} : Left H := { results := [], args := [] }

/-- 'heartwoodlaw43.BtreeLoads': WHATEVER THE INPUT: true; the input reads as it did. -/
def btreeLoadsSpec : ChangeSpec := { name := "btreeLoads", fn := fun _ => fun
  | [d1, d2, d3] => { results := [.lit (.bool true)], args := [d1, d2, d3] }
  | _ => none }
def btreeLoadsRow : OpenClaim := { program := "ytaemnjblcpknpaa", sum := "e65d776e4c39cc42d8c3bc1bbb6be6bd41012c4e3539b84f1e74b15b494801e8", func := "heartwood/heartwoodlaw43.BtreeLoads", spec := "btreeLoads", inPlace := ["slices.overlaps[int]", "slices.overlaps[*heartwood/btree.node]"], unfollowed := true, recurses := true, apart := false }
def BtreeLoadsSaid : Prop := btreeLoadsRow.holds Try.pinned (OpenSpec.ofChange btreeLoadsSpec)

/-- ITS FALSE NEIGHBOUR: 'it returns false'. Refute it at one input. -/
def btreeLoadsWrong : ChangeSpec := { name := "btreeLoads", fn := fun _ => fun
  | [d1, d2, d3] => { results := [.lit (.bool false)], args := [d1, d2, d3] }
  | _ => none }
def BtreeLoadsWrongFalsely : Prop := btreeLoadsRow.holds Try.pinned (OpenSpec.ofChange btreeLoadsWrong)

/-- 'heartwoodlaw43.BtreeHeights': WHATEVER THE INPUT: true; the input reads as it did. -/
def btreeHeightsSpec : ChangeSpec := { name := "btreeHeights", fn := fun _ => fun
  | [d1, d2, d3] => { results := [.lit (.bool true)], args := [d1, d2, d3] }
  | _ => none }
def btreeHeightsRow : OpenClaim := { program := "ytaemnjblcpknpaa", sum := "e65d776e4c39cc42d8c3bc1bbb6be6bd41012c4e3539b84f1e74b15b494801e8", func := "heartwood/heartwoodlaw43.BtreeHeights", spec := "btreeHeights", inPlace := ["slices.overlaps[int]", "slices.overlaps[*heartwood/btree.node]"], unfollowed := true, recurses := true, apart := false }
def BtreeHeightsSaid : Prop := btreeHeightsRow.holds Try.pinned (OpenSpec.ofChange btreeHeightsSpec)

/-- ITS FALSE NEIGHBOUR: 'it returns false'. Refute it at one input. -/
def btreeHeightsWrong : ChangeSpec := { name := "btreeHeights", fn := fun _ => fun
  | [d1, d2, d3] => { results := [.lit (.bool false)], args := [d1, d2, d3] }
  | _ => none }
def BtreeHeightsWrongFalsely : Prop := btreeHeightsRow.holds Try.pinned (OpenSpec.ofChange btreeHeightsWrong)

/-- 'heartwoodlaw43.BtreePlays': WHATEVER THE INPUT: true; the input reads as it did. -/
def btreePlaysSpec : ChangeSpec := { name := "btreePlays", fn := fun _ => fun
  | [d1, d2] => { results := [.lit (.bool true)], args := [d1, d2] }
  | _ => none }
def btreePlaysRow : OpenClaim := { program := "ytaemnjblcpknpaa", sum := "e65d776e4c39cc42d8c3bc1bbb6be6bd41012c4e3539b84f1e74b15b494801e8", func := "heartwood/heartwoodlaw43.BtreePlays", spec := "btreePlays", inPlace := ["slices.overlaps[int]", "slices.overlaps[*heartwood/btree.node]"], unfollowed := true, recurses := true, apart := false }
def BtreePlaysSaid : Prop := btreePlaysRow.holds Try.pinned (OpenSpec.ofChange btreePlaysSpec)

/-- ITS FALSE NEIGHBOUR: 'it returns false'. Refute it at one input. -/
def btreePlaysWrong : ChangeSpec := { name := "btreePlays", fn := fun _ => fun
  | [d1, d2] => { results := [.lit (.bool false)], args := [d1, d2] }
  | _ => none }
def BtreePlaysWrongFalsely : Prop := btreePlaysRow.holds Try.pinned (OpenSpec.ofChange btreePlaysWrong)

/-- 'heartwoodlaw43.BtreeDoes': WHATEVER THE INPUT: true; the input reads as it did. -/
def btreeDoesSpec : ChangeSpec := { name := "btreeDoes", fn := fun _ => fun
  | [d1, d2] => { results := [.lit (.bool true)], args := [d1, d2] }
  | _ => none }
def btreeDoesRow : OpenClaim := { program := "ytaemnjblcpknpaa", sum := "e65d776e4c39cc42d8c3bc1bbb6be6bd41012c4e3539b84f1e74b15b494801e8", func := "heartwood/heartwoodlaw43.BtreeDoes", spec := "btreeDoes", inPlace := ["slices.overlaps[int]", "slices.overlaps[*heartwood/btree.node]"], unfollowed := true, recurses := true, apart := false }
def BtreeDoesSaid : Prop := btreeDoesRow.holds Try.pinned (OpenSpec.ofChange btreeDoesSpec)

/-- ITS FALSE NEIGHBOUR: 'it returns false'. Refute it at one input. -/
def btreeDoesWrong : ChangeSpec := { name := "btreeDoes", fn := fun _ => fun
  | [d1, d2] => { results := [.lit (.bool false)], args := [d1, d2] }
  | _ => none }
def BtreeDoesWrongFalsely : Prop := btreeDoesRow.holds Try.pinned (OpenSpec.ofChange btreeDoesWrong)

/-- 'heartwoodlaw43.BtreeFull': WHATEVER THE INPUT: true; the input reads as it did. -/
def btreeFullSpec : ChangeSpec := { name := "btreeFull", fn := fun _ => fun
  | [d1, d2] => { results := [.lit (.bool true)], args := [d1, d2] }
  | _ => none }
def btreeFullRow : OpenClaim := { program := "ytaemnjblcpknpaa", sum := "e65d776e4c39cc42d8c3bc1bbb6be6bd41012c4e3539b84f1e74b15b494801e8", func := "heartwood/heartwoodlaw43.BtreeFull", spec := "btreeFull", inPlace := ["slices.overlaps[int]", "slices.overlaps[*heartwood/btree.node]"], unfollowed := true, recurses := true, apart := false }
def BtreeFullSaid : Prop := btreeFullRow.holds Try.pinned (OpenSpec.ofChange btreeFullSpec)

/-- ITS FALSE NEIGHBOUR: 'it returns false'. Refute it at one input. -/
def btreeFullWrong : ChangeSpec := { name := "btreeFull", fn := fun _ => fun
  | [d1, d2] => { results := [.lit (.bool false)], args := [d1, d2] }
  | _ => none }
def BtreeFullWrongFalsely : Prop := btreeFullRow.holds Try.pinned (OpenSpec.ofChange btreeFullWrong)

/- THE SECOND FORM. 'bulk': how many values and letters a reading holds, each counted each time it is reached (what is shared counts as often as it is met; a slice's spare places count too). A statement '..UptoSaid' is the law's where the arguments, and the package variables that the reading takes, are together of bulk at most 1048576: NARROWER than '..Said'. Prove '..Said' where nothing that the law and all that it calls make is longer than what came in: it says more and counts as full. Else prove '..UptoSaid'. A law counts once. -/
mutual
def uptoBulk {H : Type} : DataW H → Nat
  | .lit (.string bytes) => bytes.length + 1
  | .lit _ => 1
  | .nil => 1
  | .ptr d => uptoBulk d + 1
  | .slice elems spare => uptoBulkAll elems + uptoBulkAll spare + 1
  | .agg parts => uptoBulkAll parts + 1
  | .iface _ d => uptoBulk d + 1
  | .map entries => uptoBulkEntries entries + 1
  | .held _ => 1
def uptoBulkAll {H : Type} : List (DataW H) → Nat
  | [] => 0
  | d :: r => uptoBulk d + uptoBulkAll r
def uptoBulkEntries {H : Type} : List (Lit × DataW H) → Nat
  | [] => 0
  | x :: r => uptoBulkEntry x + uptoBulkEntries r
def uptoBulkEntry {H : Type} : Lit × DataW H → Nat
  | (.string bytes, d) => bytes.length + uptoBulk d + 1
  | (_, d) => uptoBulk d + 1
 end
def uptoSmall : (H : Type) → List (DataW H) → Bool := fun _ ds => decide (uptoBulkAll ds ≤ 1048576)
def OpenSpec.upto (s : _root_.Go.ChangeSpec) : _root_.Go.OpenSpec := { _root_.Go.OpenSpec.ofChange s with cond := some uptoSmall }

/-- 'heartwoodlaw43.BtreeLoads', WHERE WHAT IT READS IS OF BULK AT MOST 1048576: true; the input reads as it did. -/
def btreeLoadsUptoRow : OpenClaim := { program := "ytaemnjblcpknpaa", sum := "e65d776e4c39cc42d8c3bc1bbb6be6bd41012c4e3539b84f1e74b15b494801e8", func := "heartwood/heartwoodlaw43.BtreeLoads", spec := "btreeLoads", inPlace := ["slices.overlaps[int]", "slices.overlaps[*heartwood/btree.node]"], unfollowed := true, recurses := true, apart := false, narrowed := true }
def BtreeLoadsUptoSaid : Prop := btreeLoadsUptoRow.holds Try.pinned (OpenSpec.upto btreeLoadsSpec)

/-- 'heartwoodlaw43.BtreeHeights', WHERE WHAT IT READS IS OF BULK AT MOST 1048576: true; the input reads as it did. -/
def btreeHeightsUptoRow : OpenClaim := { program := "ytaemnjblcpknpaa", sum := "e65d776e4c39cc42d8c3bc1bbb6be6bd41012c4e3539b84f1e74b15b494801e8", func := "heartwood/heartwoodlaw43.BtreeHeights", spec := "btreeHeights", inPlace := ["slices.overlaps[int]", "slices.overlaps[*heartwood/btree.node]"], unfollowed := true, recurses := true, apart := false, narrowed := true }
def BtreeHeightsUptoSaid : Prop := btreeHeightsUptoRow.holds Try.pinned (OpenSpec.upto btreeHeightsSpec)

/-- 'heartwoodlaw43.BtreePlays', WHERE WHAT IT READS IS OF BULK AT MOST 1048576: true; the input reads as it did. -/
def btreePlaysUptoRow : OpenClaim := { program := "ytaemnjblcpknpaa", sum := "e65d776e4c39cc42d8c3bc1bbb6be6bd41012c4e3539b84f1e74b15b494801e8", func := "heartwood/heartwoodlaw43.BtreePlays", spec := "btreePlays", inPlace := ["slices.overlaps[int]", "slices.overlaps[*heartwood/btree.node]"], unfollowed := true, recurses := true, apart := false, narrowed := true }
def BtreePlaysUptoSaid : Prop := btreePlaysUptoRow.holds Try.pinned (OpenSpec.upto btreePlaysSpec)

/-- 'heartwoodlaw43.BtreeDoes', WHERE WHAT IT READS IS OF BULK AT MOST 1048576: true; the input reads as it did. -/
def btreeDoesUptoRow : OpenClaim := { program := "ytaemnjblcpknpaa", sum := "e65d776e4c39cc42d8c3bc1bbb6be6bd41012c4e3539b84f1e74b15b494801e8", func := "heartwood/heartwoodlaw43.BtreeDoes", spec := "btreeDoes", inPlace := ["slices.overlaps[int]", "slices.overlaps[*heartwood/btree.node]"], unfollowed := true, recurses := true, apart := false, narrowed := true }
def BtreeDoesUptoSaid : Prop := btreeDoesUptoRow.holds Try.pinned (OpenSpec.upto btreeDoesSpec)

/-- 'heartwoodlaw43.BtreeFull', WHERE WHAT IT READS IS OF BULK AT MOST 1048576: true; the input reads as it did. -/
def btreeFullUptoRow : OpenClaim := { program := "ytaemnjblcpknpaa", sum := "e65d776e4c39cc42d8c3bc1bbb6be6bd41012c4e3539b84f1e74b15b494801e8", func := "heartwood/heartwoodlaw43.BtreeFull", spec := "btreeFull", inPlace := ["slices.overlaps[int]", "slices.overlaps[*heartwood/btree.node]"], unfollowed := true, recurses := true, apart := false, narrowed := true }
def BtreeFullUptoSaid : Prop := btreeFullUptoRow.holds Try.pinned (OpenSpec.upto btreeFullSpec)

end Rows
end Go.Proofs.Ytaemnjblcpknpaa
