/-
  No cell of these rows narrows 'for every input' (looked for: loops, veiled, ifaces, maps, wideKeys, modest, calm, conditions, laid).
  DERIVED. THE GIVEN ROWS OF THIS SEAT. 7 by the template 'for every input the law returns true; each argument reads behind the call as it read before'; 0 by the template 'total and deterministic' (their statements: YtipmcfpjdebpdaaTotals.lean).
  GIVEN WITH THE SEED: the statements are not yours to turn. If you find one false, say at which input.
  Laid BY PROGRAM, IN A SANDBOX (cutbox-rows.mjs): the forced cells as the released guide's own fill.sh prints them over the translation 03aebd8df8d36d0d… (all of the seat's roots in one cut). By AI agents, Wed Nov 11 2026. No macro, syntax, notation, axiom, sorry.
-/
import Derived.Test.YtipmcfpjdebpdaaChecked
import GoSem.Claim
import GoSem.ClaimJoined
import GoSem.ClaimMapViews
import Derived.JoinedTies
import Derived.KernelRfl
namespace Go.Proofs.Ytipmcfpjdebpdaa
/- THE CELL 'sum', in the pinned program and in every row, IS THE sha256 OF THE DUMP (.gsa) THAT YtipmcfpjdebpdaaProg.lean LOADS. Nothing in Lean hashes anything: it is a label: what it is worth is what the hold of that sum in a sandbox is worth. -/
noncomputable def Try.pinned : Pinned := { name := "ytipmcfpjdebpdaa", sum := "03aebd8df8d36d0dd82e03793f4f36c27c6c476c43f40065754d8cae9f407353", checked := Try.checked }
namespace Rows
def none {H : Type} : Left H := { results := [], args := [] }

/-- 'heartwoodlaw30.SuffixindexSorts': WHATEVER THE INPUT: true; the input reads as it did. -/
def suffixindexSortsSpec : ChangeSpec := { name := "suffixindexSorts", fn := fun _ => fun
  | [d] => { results := [.lit (.bool true)], args := [d] }
  | _ => none }
def suffixindexSortsRow : OpenClaim := { program := "ytipmcfpjdebpdaa", sum := "03aebd8df8d36d0dd82e03793f4f36c27c6c476c43f40065754d8cae9f407353", func := "heartwood/heartwoodlaw30.SuffixindexSorts", spec := "suffixindexSorts", unfollowed := true, recurses := true, apart := false }
def SuffixindexSortsSaid : Prop := suffixindexSortsRow.holds Try.pinned (OpenSpec.ofChange suffixindexSortsSpec)

/-- ITS FALSE NEIGHBOUR: 'it returns false'. Refute it at one input. -/
def suffixindexSortsWrong : ChangeSpec := { name := "suffixindexSorts", fn := fun _ => fun
  | [d] => { results := [.lit (.bool false)], args := [d] }
  | _ => none }
def SuffixindexSortsWrongFalsely : Prop := suffixindexSortsRow.holds Try.pinned (OpenSpec.ofChange suffixindexSortsWrong)

/-- 'heartwoodlaw30.SuffixindexOrder': WHATEVER THE INPUT: true; the input reads as it did. -/
def suffixindexOrderSpec : ChangeSpec := { name := "suffixindexOrder", fn := fun _ => fun
  | [d] => { results := [.lit (.bool true)], args := [d] }
  | _ => none }
def suffixindexOrderRow : OpenClaim := { program := "ytipmcfpjdebpdaa", sum := "03aebd8df8d36d0dd82e03793f4f36c27c6c476c43f40065754d8cae9f407353", func := "heartwood/heartwoodlaw30.SuffixindexOrder", spec := "suffixindexOrder", unfollowed := true, recurses := true, apart := false }
def SuffixindexOrderSaid : Prop := suffixindexOrderRow.holds Try.pinned (OpenSpec.ofChange suffixindexOrderSpec)

/-- ITS FALSE NEIGHBOUR: 'it returns false'. Refute it at one input. -/
def suffixindexOrderWrong : ChangeSpec := { name := "suffixindexOrder", fn := fun _ => fun
  | [d] => { results := [.lit (.bool false)], args := [d] }
  | _ => none }
def SuffixindexOrderWrongFalsely : Prop := suffixindexOrderRow.holds Try.pinned (OpenSpec.ofChange suffixindexOrderWrong)

/-- 'heartwoodlaw30.SuffixindexLongest': WHATEVER THE INPUT: true; the input reads as it did. -/
def suffixindexLongestSpec : ChangeSpec := { name := "suffixindexLongest", fn := fun _ => fun
  | [d1, d2, d3] => { results := [.lit (.bool true)], args := [d1, d2, d3] }
  | _ => none }
def suffixindexLongestRow : OpenClaim := { program := "ytipmcfpjdebpdaa", sum := "03aebd8df8d36d0dd82e03793f4f36c27c6c476c43f40065754d8cae9f407353", func := "heartwood/heartwoodlaw30.SuffixindexLongest", spec := "suffixindexLongest", unfollowed := true, recurses := true, apart := false }
def SuffixindexLongestSaid : Prop := suffixindexLongestRow.holds Try.pinned (OpenSpec.ofChange suffixindexLongestSpec)

/-- ITS FALSE NEIGHBOUR: 'it returns false'. Refute it at one input. -/
def suffixindexLongestWrong : ChangeSpec := { name := "suffixindexLongest", fn := fun _ => fun
  | [d1, d2, d3] => { results := [.lit (.bool false)], args := [d1, d2, d3] }
  | _ => none }
def SuffixindexLongestWrongFalsely : Prop := suffixindexLongestRow.holds Try.pinned (OpenSpec.ofChange suffixindexLongestWrong)

/-- 'heartwoodlaw30.SuffixindexCounts': WHATEVER THE INPUT: true; the input reads as it did. -/
def suffixindexCountsSpec : ChangeSpec := { name := "suffixindexCounts", fn := fun _ => fun
  | [d1, d2] => { results := [.lit (.bool true)], args := [d1, d2] }
  | _ => none }
def suffixindexCountsRow : OpenClaim := { program := "ytipmcfpjdebpdaa", sum := "03aebd8df8d36d0dd82e03793f4f36c27c6c476c43f40065754d8cae9f407353", func := "heartwood/heartwoodlaw30.SuffixindexCounts", spec := "suffixindexCounts", unfollowed := true, recurses := true, apart := false }
def SuffixindexCountsSaid : Prop := suffixindexCountsRow.holds Try.pinned (OpenSpec.ofChange suffixindexCountsSpec)

/-- ITS FALSE NEIGHBOUR: 'it returns false'. Refute it at one input. -/
def suffixindexCountsWrong : ChangeSpec := { name := "suffixindexCounts", fn := fun _ => fun
  | [d1, d2] => { results := [.lit (.bool false)], args := [d1, d2] }
  | _ => none }
def SuffixindexCountsWrongFalsely : Prop := suffixindexCountsRow.holds Try.pinned (OpenSpec.ofChange suffixindexCountsWrong)

/-- 'heartwoodlaw30.SuffixIndexes': WHATEVER THE INPUT: true; the input reads as it did. -/
def suffixIndexesSpec : ChangeSpec := { name := "suffixIndexes", fn := fun _ => fun
  | [d1, d2, d3, d4] => { results := [.lit (.bool true)], args := [d1, d2, d3, d4] }
  | _ => none }
def suffixIndexesRow : OpenClaim := { program := "ytipmcfpjdebpdaa", sum := "03aebd8df8d36d0dd82e03793f4f36c27c6c476c43f40065754d8cae9f407353", func := "heartwood/heartwoodlaw30.SuffixIndexes", spec := "suffixIndexes", unfollowed := true, recurses := true, apart := false }
def SuffixIndexesSaid : Prop := suffixIndexesRow.holds Try.pinned (OpenSpec.ofChange suffixIndexesSpec)

/-- ITS FALSE NEIGHBOUR: 'it returns false'. Refute it at one input. -/
def suffixIndexesWrong : ChangeSpec := { name := "suffixIndexes", fn := fun _ => fun
  | [d1, d2, d3, d4] => { results := [.lit (.bool false)], args := [d1, d2, d3, d4] }
  | _ => none }
def SuffixIndexesWrongFalsely : Prop := suffixIndexesRow.holds Try.pinned (OpenSpec.ofChange suffixIndexesWrong)

/-- 'heartwoodlaw30.SuffixindexNone': WHATEVER THE INPUT: true; the input reads as it did. -/
def suffixindexNoneSpec : ChangeSpec := { name := "suffixindexNone", fn := fun _ => fun
  | [d1, d2] => { results := [.lit (.bool true)], args := [d1, d2] }
  | _ => none }
def suffixindexNoneRow : OpenClaim := { program := "ytipmcfpjdebpdaa", sum := "03aebd8df8d36d0dd82e03793f4f36c27c6c476c43f40065754d8cae9f407353", func := "heartwood/heartwoodlaw30.SuffixindexNone", spec := "suffixindexNone", unfollowed := true, recurses := true, apart := false }
def SuffixindexNoneSaid : Prop := suffixindexNoneRow.holds Try.pinned (OpenSpec.ofChange suffixindexNoneSpec)

/-- ITS FALSE NEIGHBOUR: 'it returns false'. Refute it at one input. -/
def suffixindexNoneWrong : ChangeSpec := { name := "suffixindexNone", fn := fun _ => fun
  | [d1, d2] => { results := [.lit (.bool false)], args := [d1, d2] }
  | _ => none }
def SuffixindexNoneWrongFalsely : Prop := suffixindexNoneRow.holds Try.pinned (OpenSpec.ofChange suffixindexNoneWrong)

/-- 'heartwoodlaw30.SuffixindexTransforms': WHATEVER THE INPUT: true; the input reads as it did. -/
def suffixindexTransformsSpec : ChangeSpec := { name := "suffixindexTransforms", fn := fun _ => fun
  | [d1, d2, d3] => { results := [.lit (.bool true)], args := [d1, d2, d3] }
  | _ => none }
def suffixindexTransformsRow : OpenClaim := { program := "ytipmcfpjdebpdaa", sum := "03aebd8df8d36d0dd82e03793f4f36c27c6c476c43f40065754d8cae9f407353", func := "heartwood/heartwoodlaw30.SuffixindexTransforms", spec := "suffixindexTransforms", unfollowed := true, recurses := true, apart := false }
def SuffixindexTransformsSaid : Prop := suffixindexTransformsRow.holds Try.pinned (OpenSpec.ofChange suffixindexTransformsSpec)

/-- ITS FALSE NEIGHBOUR: 'it returns false'. Refute it at one input. -/
def suffixindexTransformsWrong : ChangeSpec := { name := "suffixindexTransforms", fn := fun _ => fun
  | [d1, d2, d3] => { results := [.lit (.bool false)], args := [d1, d2, d3] }
  | _ => none }
def SuffixindexTransformsWrongFalsely : Prop := suffixindexTransformsRow.holds Try.pinned (OpenSpec.ofChange suffixindexTransformsWrong)

/- THE SECOND FORM. 'bulk': how many values and letters a reading holds, each counted each time it is reached (what is shared counts as often as it is met; a slice's spare places count too). A statement '..UptoSaid' is the law's where the arguments, and the package variables that the reading takes, are together of bulk at most 1048576: NARROWER than '..Said'. Prove '..Said' where nothing that the law and all that it calls make is longer than what came in: it says more and counts as full. Else prove '..UptoSaid'. A law counts once. -/
mutual
def uptoBulk {H : Type} : DataW H → Nat
  | .lit (.string bytes) => bytes.length + 1
  | .lit _ => 1
  | .nil => 1
  | .ptr d => uptoBulk d + 1
  | .slice elems spare => uptoBulkAll elems + uptoBulkAll spare + 1
  | .agg parts => uptoBulkAll parts + 1
  | .iface _ d => uptoBulk d + 1
  | .map entries => uptoBulkEntries entries + 1
  | .held _ => 1
def uptoBulkAll {H : Type} : List (DataW H) → Nat
  | [] => 0
  | d :: r => uptoBulk d + uptoBulkAll r
def uptoBulkEntries {H : Type} : List (Lit × DataW H) → Nat
  | [] => 0
  | x :: r => uptoBulkEntry x + uptoBulkEntries r
def uptoBulkEntry {H : Type} : Lit × DataW H → Nat
  | (.string bytes, d) => bytes.length + uptoBulk d + 1
  | (_, d) => uptoBulk d + 1
 end
def uptoSmall : (H : Type) → List (DataW H) → Bool := fun _ ds => decide (uptoBulkAll ds ≤ 1048576)
def OpenSpec.upto (s : _root_.Go.ChangeSpec) : _root_.Go.OpenSpec := { _root_.Go.OpenSpec.ofChange s with cond := some uptoSmall }

/-- 'heartwoodlaw30.SuffixindexSorts', WHERE WHAT IT READS IS OF BULK AT MOST 1048576: true; the input reads as it did. -/
def suffixindexSortsUptoRow : OpenClaim := { program := "ytipmcfpjdebpdaa", sum := "03aebd8df8d36d0dd82e03793f4f36c27c6c476c43f40065754d8cae9f407353", func := "heartwood/heartwoodlaw30.SuffixindexSorts", spec := "suffixindexSorts", unfollowed := true, recurses := true, apart := false, narrowed := true }
def SuffixindexSortsUptoSaid : Prop := suffixindexSortsUptoRow.holds Try.pinned (OpenSpec.upto suffixindexSortsSpec)

/-- 'heartwoodlaw30.SuffixindexOrder', WHERE WHAT IT READS IS OF BULK AT MOST 1048576: true; the input reads as it did. -/
def suffixindexOrderUptoRow : OpenClaim := { program := "ytipmcfpjdebpdaa", sum := "03aebd8df8d36d0dd82e03793f4f36c27c6c476c43f40065754d8cae9f407353", func := "heartwood/heartwoodlaw30.SuffixindexOrder", spec := "suffixindexOrder", unfollowed := true, recurses := true, apart := false, narrowed := true }
def SuffixindexOrderUptoSaid : Prop := suffixindexOrderUptoRow.holds Try.pinned (OpenSpec.upto suffixindexOrderSpec)

/-- 'heartwoodlaw30.SuffixindexLongest', WHERE WHAT IT READS IS OF BULK AT MOST 1048576: true; the input reads as it did. -/
def suffixindexLongestUptoRow : OpenClaim := { program := "ytipmcfpjdebpdaa", sum := "03aebd8df8d36d0dd82e03793f4f36c27c6c476c43f40065754d8cae9f407353", func := "heartwood/heartwoodlaw30.SuffixindexLongest", spec := "suffixindexLongest", unfollowed := true, recurses := true, apart := false, narrowed := true }
def SuffixindexLongestUptoSaid : Prop := suffixindexLongestUptoRow.holds Try.pinned (OpenSpec.upto suffixindexLongestSpec)

/-- 'heartwoodlaw30.SuffixindexCounts', WHERE WHAT IT READS IS OF BULK AT MOST 1048576: true; the input reads as it did. -/
def suffixindexCountsUptoRow : OpenClaim := { program := "ytipmcfpjdebpdaa", sum := "03aebd8df8d36d0dd82e03793f4f36c27c6c476c43f40065754d8cae9f407353", func := "heartwood/heartwoodlaw30.SuffixindexCounts", spec := "suffixindexCounts", unfollowed := true, recurses := true, apart := false, narrowed := true }
def SuffixindexCountsUptoSaid : Prop := suffixindexCountsUptoRow.holds Try.pinned (OpenSpec.upto suffixindexCountsSpec)

/-- 'heartwoodlaw30.SuffixIndexes', WHERE WHAT IT READS IS OF BULK AT MOST 1048576: true; the input reads as it did. -/
def suffixIndexesUptoRow : OpenClaim := { program := "ytipmcfpjdebpdaa", sum := "03aebd8df8d36d0dd82e03793f4f36c27c6c476c43f40065754d8cae9f407353", func := "heartwood/heartwoodlaw30.SuffixIndexes", spec := "suffixIndexes", unfollowed := true, recurses := true, apart := false, narrowed := true }
def SuffixIndexesUptoSaid : Prop := suffixIndexesUptoRow.holds Try.pinned (OpenSpec.upto suffixIndexesSpec)

/-- 'heartwoodlaw30.SuffixindexNone', WHERE WHAT IT READS IS OF BULK AT MOST 1048576: true; the input reads as it did. -/
def suffixindexNoneUptoRow : OpenClaim := { program := "ytipmcfpjdebpdaa", sum := "03aebd8df8d36d0dd82e03793f4f36c27c6c476c43f40065754d8cae9f407353", func := "heartwood/heartwoodlaw30.SuffixindexNone", spec := "suffixindexNone", unfollowed := true, recurses := true, apart := false, narrowed := true }
def SuffixindexNoneUptoSaid : Prop := suffixindexNoneUptoRow.holds Try.pinned (OpenSpec.upto suffixindexNoneSpec)

/-- 'heartwoodlaw30.SuffixindexTransforms', WHERE WHAT IT READS IS OF BULK AT MOST 1048576: true; the input reads as it did. -/
def suffixindexTransformsUptoRow : OpenClaim := { program := "ytipmcfpjdebpdaa", sum := "03aebd8df8d36d0dd82e03793f4f36c27c6c476c43f40065754d8cae9f407353", func := "heartwood/heartwoodlaw30.SuffixindexTransforms", spec := "suffixindexTransforms", unfollowed := true, recurses := true, apart := false, narrowed := true }
def SuffixindexTransformsUptoSaid : Prop := suffixindexTransformsUptoRow.holds Try.pinned (OpenSpec.upto suffixindexTransformsSpec)

end Rows
end Go.Proofs.Ytipmcfpjdebpdaa
