/-
  No cell of these rows narrows 'for every input' (looked for: loops, veiled, ifaces, maps, wideKeys, modest, calm, conditions, laid).
  DERIVED. THE GIVEN ROWS OF THIS SEAT. 6 by the template 'for every input the law returns true; each argument reads behind the call as it read before'; 0 by the template 'total and deterministic' (their statements: YtbfejfejahoblaaTotals.lean).
  GIVEN WITH THE SEED: the statements are not yours to turn. If you find one false, say at which input.
  Laid BY PROGRAM, IN A SANDBOX (cutbox-rows.mjs): the forced cells as the released guide's own fill.sh prints them over the translation 13d25f9fc4ae8753… (all of the seat's roots in one cut). By AI agents, Wed Nov 11 2026. No macro, syntax, notation, axiom, sorry.
-/
import Derived.Test.YtbfejfejahoblaaChecked
import GoSem.Claim
import GoSem.ClaimJoined
import GoSem.ClaimMapViews
import Derived.JoinedTies
import Derived.KernelRfl
namespace Go.Proofs.Ytbfejfejahoblaa
/- THE CELL 'sum', in the pinned program and in every row, IS THE sha256 OF THE DUMP (.gsa) THAT YtbfejfejahoblaaProg.lean LOADS. Nothing in Lean hashes anything: it is a label: what it is worth is what the hold of that sum in a sandbox is worth. -/
noncomputable def Try.pinned : Pinned := { name := "ytbfejfejahoblaa", sum := "13d25f9fc4ae8753683846b3973a9fe72b8404eb8fad1530b7142a32118df8de", checked := Try.checked }
namespace Rows
def none {H : Type} : Left H := { results := [], args := [] }

/-- 'heartwoodlaw31.RangetreeEffort': WHATEVER THE INPUT: true; the input reads as it did. -/
def rangetreeEffortSpec : ChangeSpec := { name := "rangetreeEffort", fn := fun _ => fun
  | [d1, d2, d3] => { results := [.lit (.bool true)], args := [d1, d2, d3] }
  | _ => none }
def rangetreeEffortRow : OpenClaim := { program := "ytbfejfejahoblaa", sum := "13d25f9fc4ae8753683846b3973a9fe72b8404eb8fad1530b7142a32118df8de", func := "heartwood/heartwoodlaw31.RangetreeEffort", spec := "rangetreeEffort", unfollowed := true, recurses := true, plainKeys := false, apart := false }
def RangetreeEffortSaid : Prop := rangetreeEffortRow.holds Try.pinned (OpenSpec.ofChange rangetreeEffortSpec)

/-- ITS FALSE NEIGHBOUR: 'it returns false'. Refute it at one input. -/
def rangetreeEffortWrong : ChangeSpec := { name := "rangetreeEffort", fn := fun _ => fun
  | [d1, d2, d3] => { results := [.lit (.bool false)], args := [d1, d2, d3] }
  | _ => none }
def RangetreeEffortWrongFalsely : Prop := rangetreeEffortRow.holds Try.pinned (OpenSpec.ofChange rangetreeEffortWrong)

/-- 'heartwoodlaw31.RangetreeBack': WHATEVER THE INPUT: true; the input reads as it did. -/
def rangetreeBackSpec : ChangeSpec := { name := "rangetreeBack", fn := fun _ => fun
  | [d1, d2, d3] => { results := [.lit (.bool true)], args := [d1, d2, d3] }
  | _ => none }
def rangetreeBackRow : OpenClaim := { program := "ytbfejfejahoblaa", sum := "13d25f9fc4ae8753683846b3973a9fe72b8404eb8fad1530b7142a32118df8de", func := "heartwood/heartwoodlaw31.RangetreeBack", spec := "rangetreeBack", unfollowed := true, recurses := true, plainKeys := false, apart := false }
def RangetreeBackSaid : Prop := rangetreeBackRow.holds Try.pinned (OpenSpec.ofChange rangetreeBackSpec)

/-- ITS FALSE NEIGHBOUR: 'it returns false'. Refute it at one input. -/
def rangetreeBackWrong : ChangeSpec := { name := "rangetreeBack", fn := fun _ => fun
  | [d1, d2, d3] => { results := [.lit (.bool false)], args := [d1, d2, d3] }
  | _ => none }
def RangetreeBackWrongFalsely : Prop := rangetreeBackRow.holds Try.pinned (OpenSpec.ofChange rangetreeBackWrong)

/-- 'heartwoodlaw31.RangetreeOrder': WHATEVER THE INPUT: true; the input reads as it did. -/
def rangetreeOrderSpec : ChangeSpec := { name := "rangetreeOrder", fn := fun _ => fun
  | [d1, d2] => { results := [.lit (.bool true)], args := [d1, d2] }
  | _ => none }
def rangetreeOrderRow : OpenClaim := { program := "ytbfejfejahoblaa", sum := "13d25f9fc4ae8753683846b3973a9fe72b8404eb8fad1530b7142a32118df8de", func := "heartwood/heartwoodlaw31.RangetreeOrder", spec := "rangetreeOrder", unfollowed := true, recurses := true, plainKeys := false, apart := false }
def RangetreeOrderSaid : Prop := rangetreeOrderRow.holds Try.pinned (OpenSpec.ofChange rangetreeOrderSpec)

/-- ITS FALSE NEIGHBOUR: 'it returns false'. Refute it at one input. -/
def rangetreeOrderWrong : ChangeSpec := { name := "rangetreeOrder", fn := fun _ => fun
  | [d1, d2] => { results := [.lit (.bool false)], args := [d1, d2] }
  | _ => none }
def RangetreeOrderWrongFalsely : Prop := rangetreeOrderRow.holds Try.pinned (OpenSpec.ofChange rangetreeOrderWrong)

/-- 'heartwoodlaw31.RangetreeNil': WHATEVER THE INPUT: true; the input reads as it did. -/
def rangetreeNilSpec : ChangeSpec := { name := "rangetreeNil", fn := fun _ => fun
  | [d1, d2] => { results := [.lit (.bool true)], args := [d1, d2] }
  | _ => none }
def rangetreeNilRow : OpenClaim := { program := "ytbfejfejahoblaa", sum := "13d25f9fc4ae8753683846b3973a9fe72b8404eb8fad1530b7142a32118df8de", func := "heartwood/heartwoodlaw31.RangetreeNil", spec := "rangetreeNil", unfollowed := true, recurses := true, plainKeys := false, apart := false }
def RangetreeNilSaid : Prop := rangetreeNilRow.holds Try.pinned (OpenSpec.ofChange rangetreeNilSpec)

/-- ITS FALSE NEIGHBOUR: 'it returns false'. Refute it at one input. -/
def rangetreeNilWrong : ChangeSpec := { name := "rangetreeNil", fn := fun _ => fun
  | [d1, d2] => { results := [.lit (.bool false)], args := [d1, d2] }
  | _ => none }
def RangetreeNilWrongFalsely : Prop := rangetreeNilRow.holds Try.pinned (OpenSpec.ofChange rangetreeNilWrong)

/-- 'heartwoodlaw31.RangetreePlays': WHATEVER THE INPUT: true; the input reads as it did. -/
def rangetreePlaysSpec : ChangeSpec := { name := "rangetreePlays", fn := fun _ => fun
  | [d1, d2] => { results := [.lit (.bool true)], args := [d1, d2] }
  | _ => none }
def rangetreePlaysRow : OpenClaim := { program := "ytbfejfejahoblaa", sum := "13d25f9fc4ae8753683846b3973a9fe72b8404eb8fad1530b7142a32118df8de", func := "heartwood/heartwoodlaw31.RangetreePlays", spec := "rangetreePlays", unfollowed := true, recurses := true, plainKeys := false, apart := false }
def RangetreePlaysSaid : Prop := rangetreePlaysRow.holds Try.pinned (OpenSpec.ofChange rangetreePlaysSpec)

/-- ITS FALSE NEIGHBOUR: 'it returns false'. Refute it at one input. -/
def rangetreePlaysWrong : ChangeSpec := { name := "rangetreePlays", fn := fun _ => fun
  | [d1, d2] => { results := [.lit (.bool false)], args := [d1, d2] }
  | _ => none }
def RangetreePlaysWrongFalsely : Prop := rangetreePlaysRow.holds Try.pinned (OpenSpec.ofChange rangetreePlaysWrong)

/-- 'heartwoodlaw31.RangetreeSums': WHATEVER THE INPUT: true; the input reads as it did. -/
def rangetreeSumsSpec : ChangeSpec := { name := "rangetreeSums", fn := fun _ => fun
  | [d1, d2, d3, d4, d5, d6] => { results := [.lit (.bool true)], args := [d1, d2, d3, d4, d5, d6] }
  | _ => none }
def rangetreeSumsRow : OpenClaim := { program := "ytbfejfejahoblaa", sum := "13d25f9fc4ae8753683846b3973a9fe72b8404eb8fad1530b7142a32118df8de", func := "heartwood/heartwoodlaw31.RangetreeSums", spec := "rangetreeSums", unfollowed := true, recurses := true, plainKeys := false, apart := false }
def RangetreeSumsSaid : Prop := rangetreeSumsRow.holds Try.pinned (OpenSpec.ofChange rangetreeSumsSpec)

/-- ITS FALSE NEIGHBOUR: 'it returns false'. Refute it at one input. -/
def rangetreeSumsWrong : ChangeSpec := { name := "rangetreeSums", fn := fun _ => fun
  | [d1, d2, d3, d4, d5, d6] => { results := [.lit (.bool false)], args := [d1, d2, d3, d4, d5, d6] }
  | _ => none }
def RangetreeSumsWrongFalsely : Prop := rangetreeSumsRow.holds Try.pinned (OpenSpec.ofChange rangetreeSumsWrong)

/- THE SECOND FORM. 'bulk': how many values and letters a reading holds, each counted each time it is reached (what is shared counts as often as it is met; a slice's spare places count too). A statement '..UptoSaid' is the law's where the arguments, and the package variables that the reading takes, are together of bulk at most 1048576: NARROWER than '..Said'. Prove '..Said' where nothing that the law and all that it calls make is longer than what came in: it says more and counts as full. Else prove '..UptoSaid'. A law counts once. -/
mutual
def uptoBulk {H : Type} : DataW H → Nat
  | .lit (.string bytes) => bytes.length + 1
  | .lit _ => 1
  | .nil => 1
  | .ptr d => uptoBulk d + 1
  | .slice elems spare => uptoBulkAll elems + uptoBulkAll spare + 1
  | .agg parts => uptoBulkAll parts + 1
  | .iface _ d => uptoBulk d + 1
  | .map entries => uptoBulkEntries entries + 1
  | .held _ => 1
def uptoBulkAll {H : Type} : List (DataW H) → Nat
  | [] => 0
  | d :: r => uptoBulk d + uptoBulkAll r
def uptoBulkEntries {H : Type} : List (Lit × DataW H) → Nat
  | [] => 0
  | x :: r => uptoBulkEntry x + uptoBulkEntries r
def uptoBulkEntry {H : Type} : Lit × DataW H → Nat
  | (.string bytes, d) => bytes.length + uptoBulk d + 1
  | (_, d) => uptoBulk d + 1
 end
def uptoSmall : (H : Type) → List (DataW H) → Bool := fun _ ds => decide (uptoBulkAll ds ≤ 1048576)
def OpenSpec.upto (s : _root_.Go.ChangeSpec) : _root_.Go.OpenSpec := { _root_.Go.OpenSpec.ofChange s with cond := some uptoSmall }

/-- 'heartwoodlaw31.RangetreeEffort', WHERE WHAT IT READS IS OF BULK AT MOST 1048576: true; the input reads as it did. -/
def rangetreeEffortUptoRow : OpenClaim := { program := "ytbfejfejahoblaa", sum := "13d25f9fc4ae8753683846b3973a9fe72b8404eb8fad1530b7142a32118df8de", func := "heartwood/heartwoodlaw31.RangetreeEffort", spec := "rangetreeEffort", unfollowed := true, recurses := true, plainKeys := false, apart := false, narrowed := true }
def RangetreeEffortUptoSaid : Prop := rangetreeEffortUptoRow.holds Try.pinned (OpenSpec.upto rangetreeEffortSpec)

/-- 'heartwoodlaw31.RangetreeBack', WHERE WHAT IT READS IS OF BULK AT MOST 1048576: true; the input reads as it did. -/
def rangetreeBackUptoRow : OpenClaim := { program := "ytbfejfejahoblaa", sum := "13d25f9fc4ae8753683846b3973a9fe72b8404eb8fad1530b7142a32118df8de", func := "heartwood/heartwoodlaw31.RangetreeBack", spec := "rangetreeBack", unfollowed := true, recurses := true, plainKeys := false, apart := false, narrowed := true }
def RangetreeBackUptoSaid : Prop := rangetreeBackUptoRow.holds Try.pinned (OpenSpec.upto rangetreeBackSpec)

/-- 'heartwoodlaw31.RangetreeOrder', WHERE WHAT IT READS IS OF BULK AT MOST 1048576: true; the input reads as it did. -/
def rangetreeOrderUptoRow : OpenClaim := { program := "ytbfejfejahoblaa", sum := "13d25f9fc4ae8753683846b3973a9fe72b8404eb8fad1530b7142a32118df8de", func := "heartwood/heartwoodlaw31.RangetreeOrder", spec := "rangetreeOrder", unfollowed := true, recurses := true, plainKeys := false, apart := false, narrowed := true }
def RangetreeOrderUptoSaid : Prop := rangetreeOrderUptoRow.holds Try.pinned (OpenSpec.upto rangetreeOrderSpec)

/-- 'heartwoodlaw31.RangetreeNil', WHERE WHAT IT READS IS OF BULK AT MOST 1048576: true; the input reads as it did. -/
def rangetreeNilUptoRow : OpenClaim := { program := "ytbfejfejahoblaa", sum := "13d25f9fc4ae8753683846b3973a9fe72b8404eb8fad1530b7142a32118df8de", func := "heartwood/heartwoodlaw31.RangetreeNil", spec := "rangetreeNil", unfollowed := true, recurses := true, plainKeys := false, apart := false, narrowed := true }
def RangetreeNilUptoSaid : Prop := rangetreeNilUptoRow.holds Try.pinned (OpenSpec.upto rangetreeNilSpec)

/-- 'heartwoodlaw31.RangetreePlays', WHERE WHAT IT READS IS OF BULK AT MOST 1048576: true; the input reads as it did. -/
def rangetreePlaysUptoRow : OpenClaim := { program := "ytbfejfejahoblaa", sum := "13d25f9fc4ae8753683846b3973a9fe72b8404eb8fad1530b7142a32118df8de", func := "heartwood/heartwoodlaw31.RangetreePlays", spec := "rangetreePlays", unfollowed := true, recurses := true, plainKeys := false, apart := false, narrowed := true }
def RangetreePlaysUptoSaid : Prop := rangetreePlaysUptoRow.holds Try.pinned (OpenSpec.upto rangetreePlaysSpec)

/-- 'heartwoodlaw31.RangetreeSums', WHERE WHAT IT READS IS OF BULK AT MOST 1048576: true; the input reads as it did. -/
def rangetreeSumsUptoRow : OpenClaim := { program := "ytbfejfejahoblaa", sum := "13d25f9fc4ae8753683846b3973a9fe72b8404eb8fad1530b7142a32118df8de", func := "heartwood/heartwoodlaw31.RangetreeSums", spec := "rangetreeSums", unfollowed := true, recurses := true, plainKeys := false, apart := false, narrowed := true }
def RangetreeSumsUptoSaid : Prop := rangetreeSumsUptoRow.holds Try.pinned (OpenSpec.upto rangetreeSumsSpec)

end Rows
end Go.Proofs.Ytbfejfejahoblaa
