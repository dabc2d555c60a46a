/-
  No cell of these rows narrows 'for every input' (looked for: loops, veiled, ifaces, maps, wideKeys, modest, calm, conditions, laid).
  DERIVED. THE GIVEN ROWS OF THIS SEAT. 6 by the template 'for every input the law returns true; each argument reads behind the call as it read before'; 0 by the template 'total and deterministic' (their statements: YtfkimbdjgadelaaTotals.lean).
  GIVEN WITH THE SEED: the statements are not yours to turn. If you find one false, say at which input.
  Laid BY PROGRAM, IN A SANDBOX (cutbox-rows.mjs): the forced cells as the released guide's own fill.sh prints them over the translation 074dda4156b838c8… (all of the seat's roots in one cut). By AI agents, Wed Nov 11 2026. No macro, syntax, notation, axiom, sorry.
-/
import Derived.Test.YtfkimbdjgadelaaChecked
import GoSem.Claim
import GoSem.ClaimJoined
import GoSem.ClaimMapViews
import Derived.JoinedTies
import Derived.KernelRfl
namespace Go.Proofs.Ytfkimbdjgadelaa
/- THE CELL 'sum', in the pinned program and in every row, IS THE sha256 OF THE DUMP (.gsa) THAT YtfkimbdjgadelaaProg.lean LOADS. Nothing in Lean hashes anything: it is a label: what it is worth is what the hold of that sum in a sandbox is worth. -/
noncomputable def Try.pinned : Pinned := { name := "ytfkimbdjgadelaa", sum := "074dda4156b838c821f615946d04ed1cada523908a0b7fd1a77c5d03087bdb18", checked := Try.checked }
namespace Rows
def none {H : Type} : Left H := { results := [], args := [] }

/-- 'heartwoodlaw22.WaveletRanges': WHATEVER THE INPUT: true; the input reads as it did. -/
def waveletRangesSpec : ChangeSpec := { name := "waveletRanges", fn := fun _ => fun
  | [d1, d2, d3, d4, d5, d6] => { results := [.lit (.bool true)], args := [d1, d2, d3, d4, d5, d6] }
  | _ => none }
def waveletRangesRow : OpenClaim := { program := "ytfkimbdjgadelaa", sum := "074dda4156b838c821f615946d04ed1cada523908a0b7fd1a77c5d03087bdb18", func := "heartwood/heartwoodlaw22.WaveletRanges", spec := "waveletRanges", unfollowed := true, recurses := true, apart := false }
def WaveletRangesSaid : Prop := waveletRangesRow.holds Try.pinned (OpenSpec.ofChange waveletRangesSpec)

/-- ITS FALSE NEIGHBOUR: 'it returns false'. Refute it at one input. -/
def waveletRangesWrong : ChangeSpec := { name := "waveletRanges", fn := fun _ => fun
  | [d1, d2, d3, d4, d5, d6] => { results := [.lit (.bool false)], args := [d1, d2, d3, d4, d5, d6] }
  | _ => none }
def WaveletRangesWrongFalsely : Prop := waveletRangesRow.holds Try.pinned (OpenSpec.ofChange waveletRangesWrong)

/-- 'heartwoodlaw22.WaveletTops': WHATEVER THE INPUT: true; the input reads as it did. -/
def waveletTopsSpec : ChangeSpec := { name := "waveletTops", fn := fun _ => fun
  | [d1, d2, d3, d4, d5] => { results := [.lit (.bool true)], args := [d1, d2, d3, d4, d5] }
  | _ => none }
def waveletTopsRow : OpenClaim := { program := "ytfkimbdjgadelaa", sum := "074dda4156b838c821f615946d04ed1cada523908a0b7fd1a77c5d03087bdb18", func := "heartwood/heartwoodlaw22.WaveletTops", spec := "waveletTops", unfollowed := true, recurses := true, apart := false }
def WaveletTopsSaid : Prop := waveletTopsRow.holds Try.pinned (OpenSpec.ofChange waveletTopsSpec)

/-- ITS FALSE NEIGHBOUR: 'it returns false'. Refute it at one input. -/
def waveletTopsWrong : ChangeSpec := { name := "waveletTops", fn := fun _ => fun
  | [d1, d2, d3, d4, d5] => { results := [.lit (.bool false)], args := [d1, d2, d3, d4, d5] }
  | _ => none }
def WaveletTopsWrongFalsely : Prop := waveletTopsRow.holds Try.pinned (OpenSpec.ofChange waveletTopsWrong)

/-- 'heartwoodlaw22.WaveletSorts': WHATEVER THE INPUT: true; the input reads as it did. -/
def waveletSortsSpec : ChangeSpec := { name := "waveletSorts", fn := fun _ => fun
  | [d1, d2, d3, d4, d5] => { results := [.lit (.bool true)], args := [d1, d2, d3, d4, d5] }
  | _ => none }
def waveletSortsRow : OpenClaim := { program := "ytfkimbdjgadelaa", sum := "074dda4156b838c821f615946d04ed1cada523908a0b7fd1a77c5d03087bdb18", func := "heartwood/heartwoodlaw22.WaveletSorts", spec := "waveletSorts", unfollowed := true, recurses := true, apart := false }
def WaveletSortsSaid : Prop := waveletSortsRow.holds Try.pinned (OpenSpec.ofChange waveletSortsSpec)

/-- ITS FALSE NEIGHBOUR: 'it returns false'. Refute it at one input. -/
def waveletSortsWrong : ChangeSpec := { name := "waveletSorts", fn := fun _ => fun
  | [d1, d2, d3, d4, d5] => { results := [.lit (.bool false)], args := [d1, d2, d3, d4, d5] }
  | _ => none }
def WaveletSortsWrongFalsely : Prop := waveletSortsRow.holds Try.pinned (OpenSpec.ofChange waveletSortsWrong)

/-- 'heartwoodlaw22.WaveletReads': WHATEVER THE INPUT: true; the input reads as it did. -/
def waveletReadsSpec : ChangeSpec := { name := "waveletReads", fn := fun _ => fun
  | [d1, d2, d3, d4] => { results := [.lit (.bool true)], args := [d1, d2, d3, d4] }
  | _ => none }
def waveletReadsRow : OpenClaim := { program := "ytfkimbdjgadelaa", sum := "074dda4156b838c821f615946d04ed1cada523908a0b7fd1a77c5d03087bdb18", func := "heartwood/heartwoodlaw22.WaveletReads", spec := "waveletReads", unfollowed := true, recurses := true, apart := false }
def WaveletReadsSaid : Prop := waveletReadsRow.holds Try.pinned (OpenSpec.ofChange waveletReadsSpec)

/-- ITS FALSE NEIGHBOUR: 'it returns false'. Refute it at one input. -/
def waveletReadsWrong : ChangeSpec := { name := "waveletReads", fn := fun _ => fun
  | [d1, d2, d3, d4] => { results := [.lit (.bool false)], args := [d1, d2, d3, d4] }
  | _ => none }
def WaveletReadsWrongFalsely : Prop := waveletReadsRow.holds Try.pinned (OpenSpec.ofChange waveletReadsWrong)

/-- 'heartwoodlaw22.WaveletInverse': WHATEVER THE INPUT: true; the input reads as it did. -/
def waveletInverseSpec : ChangeSpec := { name := "waveletInverse", fn := fun _ => fun
  | [d1, d2, d3, d4] => { results := [.lit (.bool true)], args := [d1, d2, d3, d4] }
  | _ => none }
def waveletInverseRow : OpenClaim := { program := "ytfkimbdjgadelaa", sum := "074dda4156b838c821f615946d04ed1cada523908a0b7fd1a77c5d03087bdb18", func := "heartwood/heartwoodlaw22.WaveletInverse", spec := "waveletInverse", unfollowed := true, recurses := true, apart := false }
def WaveletInverseSaid : Prop := waveletInverseRow.holds Try.pinned (OpenSpec.ofChange waveletInverseSpec)

/-- ITS FALSE NEIGHBOUR: 'it returns false'. Refute it at one input. -/
def waveletInverseWrong : ChangeSpec := { name := "waveletInverse", fn := fun _ => fun
  | [d1, d2, d3, d4] => { results := [.lit (.bool false)], args := [d1, d2, d3, d4] }
  | _ => none }
def WaveletInverseWrongFalsely : Prop := waveletInverseRow.holds Try.pinned (OpenSpec.ofChange waveletInverseWrong)

/-- 'heartwoodlaw22.WaveletSplits': WHATEVER THE INPUT: true; the input reads as it did. -/
def waveletSplitsSpec : ChangeSpec := { name := "waveletSplits", fn := fun _ => fun
  | [d1, d2, d3, d4, d5, d6] => { results := [.lit (.bool true)], args := [d1, d2, d3, d4, d5, d6] }
  | _ => none }
def waveletSplitsRow : OpenClaim := { program := "ytfkimbdjgadelaa", sum := "074dda4156b838c821f615946d04ed1cada523908a0b7fd1a77c5d03087bdb18", func := "heartwood/heartwoodlaw22.WaveletSplits", spec := "waveletSplits", unfollowed := true, recurses := true, apart := false }
def WaveletSplitsSaid : Prop := waveletSplitsRow.holds Try.pinned (OpenSpec.ofChange waveletSplitsSpec)

/-- ITS FALSE NEIGHBOUR: 'it returns false'. Refute it at one input. -/
def waveletSplitsWrong : ChangeSpec := { name := "waveletSplits", fn := fun _ => fun
  | [d1, d2, d3, d4, d5, d6] => { results := [.lit (.bool false)], args := [d1, d2, d3, d4, d5, d6] }
  | _ => none }
def WaveletSplitsWrongFalsely : Prop := waveletSplitsRow.holds Try.pinned (OpenSpec.ofChange waveletSplitsWrong)

/- THE SECOND FORM. 'bulk': how many values and letters a reading holds, each counted each time it is reached (what is shared counts as often as it is met; a slice's spare places count too). A statement '..UptoSaid' is the law's where the arguments, and the package variables that the reading takes, are together of bulk at most 1048576: NARROWER than '..Said'. Prove '..Said' where nothing that the law and all that it calls make is longer than what came in: it says more and counts as full. Else prove '..UptoSaid'. A law counts once. -/
mutual
def uptoBulk {H : Type} : DataW H → Nat
  | .lit (.string bytes) => bytes.length + 1
  | .lit _ => 1
  | .nil => 1
  | .ptr d => uptoBulk d + 1
  | .slice elems spare => uptoBulkAll elems + uptoBulkAll spare + 1
  | .agg parts => uptoBulkAll parts + 1
  | .iface _ d => uptoBulk d + 1
  | .map entries => uptoBulkEntries entries + 1
  | .held _ => 1
def uptoBulkAll {H : Type} : List (DataW H) → Nat
  | [] => 0
  | d :: r => uptoBulk d + uptoBulkAll r
def uptoBulkEntries {H : Type} : List (Lit × DataW H) → Nat
  | [] => 0
  | x :: r => uptoBulkEntry x + uptoBulkEntries r
def uptoBulkEntry {H : Type} : Lit × DataW H → Nat
  | (.string bytes, d) => bytes.length + uptoBulk d + 1
  | (_, d) => uptoBulk d + 1
 end
def uptoSmall : (H : Type) → List (DataW H) → Bool := fun _ ds => decide (uptoBulkAll ds ≤ 1048576)
def OpenSpec.upto (s : _root_.Go.ChangeSpec) : _root_.Go.OpenSpec := { _root_.Go.OpenSpec.ofChange s with cond := some uptoSmall }

/-- 'heartwoodlaw22.WaveletRanges', WHERE WHAT IT READS IS OF BULK AT MOST 1048576: true; the input reads as it did. -/
def waveletRangesUptoRow : OpenClaim := { program := "ytfkimbdjgadelaa", sum := "074dda4156b838c821f615946d04ed1cada523908a0b7fd1a77c5d03087bdb18", func := "heartwood/heartwoodlaw22.WaveletRanges", spec := "waveletRanges", unfollowed := true, recurses := true, apart := false, narrowed := true }
def WaveletRangesUptoSaid : Prop := waveletRangesUptoRow.holds Try.pinned (OpenSpec.upto waveletRangesSpec)

/-- 'heartwoodlaw22.WaveletTops', WHERE WHAT IT READS IS OF BULK AT MOST 1048576: true; the input reads as it did. -/
def waveletTopsUptoRow : OpenClaim := { program := "ytfkimbdjgadelaa", sum := "074dda4156b838c821f615946d04ed1cada523908a0b7fd1a77c5d03087bdb18", func := "heartwood/heartwoodlaw22.WaveletTops", spec := "waveletTops", unfollowed := true, recurses := true, apart := false, narrowed := true }
def WaveletTopsUptoSaid : Prop := waveletTopsUptoRow.holds Try.pinned (OpenSpec.upto waveletTopsSpec)

/-- 'heartwoodlaw22.WaveletSorts', WHERE WHAT IT READS IS OF BULK AT MOST 1048576: true; the input reads as it did. -/
def waveletSortsUptoRow : OpenClaim := { program := "ytfkimbdjgadelaa", sum := "074dda4156b838c821f615946d04ed1cada523908a0b7fd1a77c5d03087bdb18", func := "heartwood/heartwoodlaw22.WaveletSorts", spec := "waveletSorts", unfollowed := true, recurses := true, apart := false, narrowed := true }
def WaveletSortsUptoSaid : Prop := waveletSortsUptoRow.holds Try.pinned (OpenSpec.upto waveletSortsSpec)

/-- 'heartwoodlaw22.WaveletReads', WHERE WHAT IT READS IS OF BULK AT MOST 1048576: true; the input reads as it did. -/
def waveletReadsUptoRow : OpenClaim := { program := "ytfkimbdjgadelaa", sum := "074dda4156b838c821f615946d04ed1cada523908a0b7fd1a77c5d03087bdb18", func := "heartwood/heartwoodlaw22.WaveletReads", spec := "waveletReads", unfollowed := true, recurses := true, apart := false, narrowed := true }
def WaveletReadsUptoSaid : Prop := waveletReadsUptoRow.holds Try.pinned (OpenSpec.upto waveletReadsSpec)

/-- 'heartwoodlaw22.WaveletInverse', WHERE WHAT IT READS IS OF BULK AT MOST 1048576: true; the input reads as it did. -/
def waveletInverseUptoRow : OpenClaim := { program := "ytfkimbdjgadelaa", sum := "074dda4156b838c821f615946d04ed1cada523908a0b7fd1a77c5d03087bdb18", func := "heartwood/heartwoodlaw22.WaveletInverse", spec := "waveletInverse", unfollowed := true, recurses := true, apart := false, narrowed := true }
def WaveletInverseUptoSaid : Prop := waveletInverseUptoRow.holds Try.pinned (OpenSpec.upto waveletInverseSpec)

/-- 'heartwoodlaw22.WaveletSplits', WHERE WHAT IT READS IS OF BULK AT MOST 1048576: true; the input reads as it did. -/
def waveletSplitsUptoRow : OpenClaim := { program := "ytfkimbdjgadelaa", sum := "074dda4156b838c821f615946d04ed1cada523908a0b7fd1a77c5d03087bdb18", func := "heartwood/heartwoodlaw22.WaveletSplits", spec := "waveletSplits", unfollowed := true, recurses := true, apart := false, narrowed := true }
def WaveletSplitsUptoSaid : Prop := waveletSplitsUptoRow.holds Try.pinned (OpenSpec.upto waveletSplitsSpec)

end Rows
end Go.Proofs.Ytfkimbdjgadelaa
