/-
  No cell of these rows narrows 'for every input' (looked for: loops, veiled, ifaces, maps, wideKeys, modest, calm, conditions, laid).
  DERIVED. THE GIVEN ROWS OF THIS SEAT. 6 by the template 'for every input the law returns true; each argument reads behind the call as it read before'; 0 by the template 'total and deterministic' (their statements: YtdlkohenamlnaaaGreatTotals.lean).
  GIVEN WITH THE SEED: the statements are not yours to turn. If you find one false, say at which input.
  Laid BY PROGRAM, IN A SANDBOX (cutbox-rows.mjs): the forced cells as the released guide's own fill.sh prints them over the translation 8197eb0d7355bdfd… (all of the seat's roots in one cut). By AI agents, Wed Nov 11 2026. No macro, syntax, notation, axiom, sorry.
-/
import Derived.Test.YtdlkohenamlnaaaGreatChecked
import GoSem.Claim
import GoSem.ClaimJoined
import GoSem.ClaimMapViews
import Derived.JoinedTies
import Derived.KernelRfl
namespace Go.Proofs.YtdlkohenamlnaaaGreat
/- THE CELL 'sum', in the pinned program and in every row, IS THE sha256 OF THE DUMP (.gsa) THAT YtdlkohenamlnaaaGreatProg.lean LOADS. Nothing in Lean hashes anything: it is a label: what it is worth is what the hold of that sum in a sandbox is worth. -/
noncomputable def Tryz.pinned : Pinned := { name := "ytdlkohenamlnaaagreat", sum := "8197eb0d7355bdfd3145dc7cab8f2323bddd17b2a667d6a1d78995c685907807", checked := Tryz.checked }
namespace Rows
def none {H : Type} : Left H := { results := [], args := [] }

/-- 'heartwoodlaw35.PartialretroBridge': WHATEVER THE INPUT: true; the input reads as it did. -/
def partialretroBridgeSpec : ChangeSpec := { name := "partialretroBridge", fn := fun _ => fun
  | [d1, d2] => { results := [.lit (.bool true)], args := [d1, d2] }
  | _ => none }
def partialretroBridgeRow : OpenClaim := { program := "ytdlkohenamlnaaagreat", sum := "8197eb0d7355bdfd3145dc7cab8f2323bddd17b2a667d6a1d78995c685907807", func := "heartwood/heartwoodlaw35.PartialretroBridge", spec := "partialretroBridge", inPlace := ["slices.overlaps[heartwood/partialretro.action]", "slices.overlaps[heartwood/partialretro.element]", "slices.overlaps[int]", "slices.overlaps[heartwood/api.Op]", "slices.overlaps[[]int]"], unfollowed := true, recurses := true, apart := false }
def PartialretroBridgeSaid : Prop := partialretroBridgeRow.holds Tryz.pinned (OpenSpec.ofChange partialretroBridgeSpec)

/-- ITS FALSE NEIGHBOUR: 'it returns false'. Refute it at one input. -/
def partialretroBridgeWrong : ChangeSpec := { name := "partialretroBridge", fn := fun _ => fun
  | [d1, d2] => { results := [.lit (.bool false)], args := [d1, d2] }
  | _ => none }
def PartialretroBridgeWrongFalsely : Prop := partialretroBridgeRow.holds Tryz.pinned (OpenSpec.ofChange partialretroBridgeWrong)

/-- 'heartwoodlaw35.PartialretroBack': WHATEVER THE INPUT: true; the input reads as it did. -/
def partialretroBackSpec : ChangeSpec := { name := "partialretroBack", fn := fun _ => fun
  | [d1, d2] => { results := [.lit (.bool true)], args := [d1, d2] }
  | _ => none }
def partialretroBackRow : OpenClaim := { program := "ytdlkohenamlnaaagreat", sum := "8197eb0d7355bdfd3145dc7cab8f2323bddd17b2a667d6a1d78995c685907807", func := "heartwood/heartwoodlaw35.PartialretroBack", spec := "partialretroBack", inPlace := ["slices.overlaps[heartwood/partialretro.action]", "slices.overlaps[heartwood/partialretro.element]", "slices.overlaps[int]", "slices.overlaps[heartwood/api.Op]", "slices.overlaps[[]int]"], unfollowed := true, recurses := true, apart := false }
def PartialretroBackSaid : Prop := partialretroBackRow.holds Tryz.pinned (OpenSpec.ofChange partialretroBackSpec)

/-- ITS FALSE NEIGHBOUR: 'it returns false'. Refute it at one input. -/
def partialretroBackWrong : ChangeSpec := { name := "partialretroBack", fn := fun _ => fun
  | [d1, d2] => { results := [.lit (.bool false)], args := [d1, d2] }
  | _ => none }
def PartialretroBackWrongFalsely : Prop := partialretroBackRow.holds Tryz.pinned (OpenSpec.ofChange partialretroBackWrong)

/-- 'heartwoodlaw35.PartialretroQueue': WHATEVER THE INPUT: true; the input reads as it did. -/
def partialretroQueueSpec : ChangeSpec := { name := "partialretroQueue", fn := fun _ => fun
  | [d] => { results := [.lit (.bool true)], args := [d] }
  | _ => none }
def partialretroQueueRow : OpenClaim := { program := "ytdlkohenamlnaaagreat", sum := "8197eb0d7355bdfd3145dc7cab8f2323bddd17b2a667d6a1d78995c685907807", func := "heartwood/heartwoodlaw35.PartialretroQueue", spec := "partialretroQueue", inPlace := ["slices.overlaps[heartwood/partialretro.action]", "slices.overlaps[heartwood/partialretro.element]", "slices.overlaps[int]", "slices.overlaps[heartwood/api.Op]", "slices.overlaps[[]int]"], unfollowed := true, recurses := true, apart := false }
def PartialretroQueueSaid : Prop := partialretroQueueRow.holds Tryz.pinned (OpenSpec.ofChange partialretroQueueSpec)

/-- ITS FALSE NEIGHBOUR: 'it returns false'. Refute it at one input. -/
def partialretroQueueWrong : ChangeSpec := { name := "partialretroQueue", fn := fun _ => fun
  | [d] => { results := [.lit (.bool false)], args := [d] }
  | _ => none }
def PartialretroQueueWrongFalsely : Prop := partialretroQueueRow.holds Tryz.pinned (OpenSpec.ofChange partialretroQueueWrong)

/-- 'heartwoodlaw35.PartialretroLog': WHATEVER THE INPUT: true; the input reads as it did. -/
def partialretroLogSpec : ChangeSpec := { name := "partialretroLog", fn := fun _ => fun
  | [d1, d2] => { results := [.lit (.bool true)], args := [d1, d2] }
  | _ => none }
def partialretroLogRow : OpenClaim := { program := "ytdlkohenamlnaaagreat", sum := "8197eb0d7355bdfd3145dc7cab8f2323bddd17b2a667d6a1d78995c685907807", func := "heartwood/heartwoodlaw35.PartialretroLog", spec := "partialretroLog", inPlace := ["slices.overlaps[heartwood/partialretro.action]", "slices.overlaps[heartwood/partialretro.element]", "slices.overlaps[int]", "slices.overlaps[heartwood/api.Op]", "slices.overlaps[[]int]"], unfollowed := true, recurses := true, apart := false }
def PartialretroLogSaid : Prop := partialretroLogRow.holds Tryz.pinned (OpenSpec.ofChange partialretroLogSpec)

/-- ITS FALSE NEIGHBOUR: 'it returns false'. Refute it at one input. -/
def partialretroLogWrong : ChangeSpec := { name := "partialretroLog", fn := fun _ => fun
  | [d1, d2] => { results := [.lit (.bool false)], args := [d1, d2] }
  | _ => none }
def PartialretroLogWrongFalsely : Prop := partialretroLogRow.holds Tryz.pinned (OpenSpec.ofChange partialretroLogWrong)

/-- 'heartwoodlaw35.PartialretroNil': WHATEVER THE INPUT: true; the input reads as it did. -/
def partialretroNilSpec : ChangeSpec := { name := "partialretroNil", fn := fun _ => fun
  | [d1, d2, d3] => { results := [.lit (.bool true)], args := [d1, d2, d3] }
  | _ => none }
def partialretroNilRow : OpenClaim := { program := "ytdlkohenamlnaaagreat", sum := "8197eb0d7355bdfd3145dc7cab8f2323bddd17b2a667d6a1d78995c685907807", func := "heartwood/heartwoodlaw35.PartialretroNil", spec := "partialretroNil", inPlace := ["slices.overlaps[heartwood/partialretro.action]", "slices.overlaps[heartwood/partialretro.element]", "slices.overlaps[int]", "slices.overlaps[heartwood/api.Op]", "slices.overlaps[[]int]"], unfollowed := true, recurses := true, apart := false }
def PartialretroNilSaid : Prop := partialretroNilRow.holds Tryz.pinned (OpenSpec.ofChange partialretroNilSpec)

/-- ITS FALSE NEIGHBOUR: 'it returns false'. Refute it at one input. -/
def partialretroNilWrong : ChangeSpec := { name := "partialretroNil", fn := fun _ => fun
  | [d1, d2, d3] => { results := [.lit (.bool false)], args := [d1, d2, d3] }
  | _ => none }
def PartialretroNilWrongFalsely : Prop := partialretroNilRow.holds Tryz.pinned (OpenSpec.ofChange partialretroNilWrong)

/-- 'heartwoodlaw35.PartialretroOrder': WHATEVER THE INPUT: true; the input reads as it did. -/
def partialretroOrderSpec : ChangeSpec := { name := "partialretroOrder", fn := fun _ => fun
  | [d] => { results := [.lit (.bool true)], args := [d] }
  | _ => none }
def partialretroOrderRow : OpenClaim := { program := "ytdlkohenamlnaaagreat", sum := "8197eb0d7355bdfd3145dc7cab8f2323bddd17b2a667d6a1d78995c685907807", func := "heartwood/heartwoodlaw35.PartialretroOrder", spec := "partialretroOrder", inPlace := ["slices.overlaps[heartwood/partialretro.action]", "slices.overlaps[heartwood/partialretro.element]", "slices.overlaps[int]", "slices.overlaps[heartwood/api.Op]", "slices.overlaps[[]int]"], unfollowed := true, recurses := true, apart := false }
def PartialretroOrderSaid : Prop := partialretroOrderRow.holds Tryz.pinned (OpenSpec.ofChange partialretroOrderSpec)

/-- ITS FALSE NEIGHBOUR: 'it returns false'. Refute it at one input. -/
def partialretroOrderWrong : ChangeSpec := { name := "partialretroOrder", fn := fun _ => fun
  | [d] => { results := [.lit (.bool false)], args := [d] }
  | _ => none }
def PartialretroOrderWrongFalsely : Prop := partialretroOrderRow.holds Tryz.pinned (OpenSpec.ofChange partialretroOrderWrong)

/- THE SECOND FORM. 'bulk': how many values and letters a reading holds, each counted each time it is reached (what is shared counts as often as it is met; a slice's spare places count too). A statement '..UptoSaid' is the law's where the arguments, and the package variables that the reading takes, are together of bulk at most 1048576: NARROWER than '..Said'. Prove '..Said' where nothing that the law and all that it calls make is longer than what came in: it says more and counts as full. Else prove '..UptoSaid'. A law counts once. -/
mutual
def uptoBulk {H : Type} : DataW H → Nat
  | .lit (.string bytes) => bytes.length + 1
  | .lit _ => 1
  | .nil => 1
  | .ptr d => uptoBulk d + 1
  | .slice elems spare => uptoBulkAll elems + uptoBulkAll spare + 1
  | .agg parts => uptoBulkAll parts + 1
  | .iface _ d => uptoBulk d + 1
  | .map entries => uptoBulkEntries entries + 1
  | .held _ => 1
def uptoBulkAll {H : Type} : List (DataW H) → Nat
  | [] => 0
  | d :: r => uptoBulk d + uptoBulkAll r
def uptoBulkEntries {H : Type} : List (Lit × DataW H) → Nat
  | [] => 0
  | x :: r => uptoBulkEntry x + uptoBulkEntries r
def uptoBulkEntry {H : Type} : Lit × DataW H → Nat
  | (.string bytes, d) => bytes.length + uptoBulk d + 1
  | (_, d) => uptoBulk d + 1
 end
def uptoSmall : (H : Type) → List (DataW H) → Bool := fun _ ds => decide (uptoBulkAll ds ≤ 1048576)
def OpenSpec.upto (s : _root_.Go.ChangeSpec) : _root_.Go.OpenSpec := { _root_.Go.OpenSpec.ofChange s with cond := some uptoSmall }

/-- 'heartwoodlaw35.PartialretroBridge', WHERE WHAT IT READS IS OF BULK AT MOST 1048576: true; the input reads as it did. -/
def partialretroBridgeUptoRow : OpenClaim := { program := "ytdlkohenamlnaaagreat", sum := "8197eb0d7355bdfd3145dc7cab8f2323bddd17b2a667d6a1d78995c685907807", func := "heartwood/heartwoodlaw35.PartialretroBridge", spec := "partialretroBridge", inPlace := ["slices.overlaps[heartwood/partialretro.action]", "slices.overlaps[heartwood/partialretro.element]", "slices.overlaps[int]", "slices.overlaps[heartwood/api.Op]", "slices.overlaps[[]int]"], unfollowed := true, recurses := true, apart := false, narrowed := true }
def PartialretroBridgeUptoSaid : Prop := partialretroBridgeUptoRow.holds Tryz.pinned (OpenSpec.upto partialretroBridgeSpec)

/-- 'heartwoodlaw35.PartialretroBack', WHERE WHAT IT READS IS OF BULK AT MOST 1048576: true; the input reads as it did. -/
def partialretroBackUptoRow : OpenClaim := { program := "ytdlkohenamlnaaagreat", sum := "8197eb0d7355bdfd3145dc7cab8f2323bddd17b2a667d6a1d78995c685907807", func := "heartwood/heartwoodlaw35.PartialretroBack", spec := "partialretroBack", inPlace := ["slices.overlaps[heartwood/partialretro.action]", "slices.overlaps[heartwood/partialretro.element]", "slices.overlaps[int]", "slices.overlaps[heartwood/api.Op]", "slices.overlaps[[]int]"], unfollowed := true, recurses := true, apart := false, narrowed := true }
def PartialretroBackUptoSaid : Prop := partialretroBackUptoRow.holds Tryz.pinned (OpenSpec.upto partialretroBackSpec)

/-- 'heartwoodlaw35.PartialretroQueue', WHERE WHAT IT READS IS OF BULK AT MOST 1048576: true; the input reads as it did. -/
def partialretroQueueUptoRow : OpenClaim := { program := "ytdlkohenamlnaaagreat", sum := "8197eb0d7355bdfd3145dc7cab8f2323bddd17b2a667d6a1d78995c685907807", func := "heartwood/heartwoodlaw35.PartialretroQueue", spec := "partialretroQueue", inPlace := ["slices.overlaps[heartwood/partialretro.action]", "slices.overlaps[heartwood/partialretro.element]", "slices.overlaps[int]", "slices.overlaps[heartwood/api.Op]", "slices.overlaps[[]int]"], unfollowed := true, recurses := true, apart := false, narrowed := true }
def PartialretroQueueUptoSaid : Prop := partialretroQueueUptoRow.holds Tryz.pinned (OpenSpec.upto partialretroQueueSpec)

/-- 'heartwoodlaw35.PartialretroLog', WHERE WHAT IT READS IS OF BULK AT MOST 1048576: true; the input reads as it did. -/
def partialretroLogUptoRow : OpenClaim := { program := "ytdlkohenamlnaaagreat", sum := "8197eb0d7355bdfd3145dc7cab8f2323bddd17b2a667d6a1d78995c685907807", func := "heartwood/heartwoodlaw35.PartialretroLog", spec := "partialretroLog", inPlace := ["slices.overlaps[heartwood/partialretro.action]", "slices.overlaps[heartwood/partialretro.element]", "slices.overlaps[int]", "slices.overlaps[heartwood/api.Op]", "slices.overlaps[[]int]"], unfollowed := true, recurses := true, apart := false, narrowed := true }
def PartialretroLogUptoSaid : Prop := partialretroLogUptoRow.holds Tryz.pinned (OpenSpec.upto partialretroLogSpec)

/-- 'heartwoodlaw35.PartialretroNil', WHERE WHAT IT READS IS OF BULK AT MOST 1048576: true; the input reads as it did. -/
def partialretroNilUptoRow : OpenClaim := { program := "ytdlkohenamlnaaagreat", sum := "8197eb0d7355bdfd3145dc7cab8f2323bddd17b2a667d6a1d78995c685907807", func := "heartwood/heartwoodlaw35.PartialretroNil", spec := "partialretroNil", inPlace := ["slices.overlaps[heartwood/partialretro.action]", "slices.overlaps[heartwood/partialretro.element]", "slices.overlaps[int]", "slices.overlaps[heartwood/api.Op]", "slices.overlaps[[]int]"], unfollowed := true, recurses := true, apart := false, narrowed := true }
def PartialretroNilUptoSaid : Prop := partialretroNilUptoRow.holds Tryz.pinned (OpenSpec.upto partialretroNilSpec)

/-- 'heartwoodlaw35.PartialretroOrder', WHERE WHAT IT READS IS OF BULK AT MOST 1048576: true; the input reads as it did. -/
def partialretroOrderUptoRow : OpenClaim := { program := "ytdlkohenamlnaaagreat", sum := "8197eb0d7355bdfd3145dc7cab8f2323bddd17b2a667d6a1d78995c685907807", func := "heartwood/heartwoodlaw35.PartialretroOrder", spec := "partialretroOrder", inPlace := ["slices.overlaps[heartwood/partialretro.action]", "slices.overlaps[heartwood/partialretro.element]", "slices.overlaps[int]", "slices.overlaps[heartwood/api.Op]", "slices.overlaps[[]int]"], unfollowed := true, recurses := true, apart := false, narrowed := true }
def PartialretroOrderUptoSaid : Prop := partialretroOrderUptoRow.holds Tryz.pinned (OpenSpec.upto partialretroOrderSpec)

end Rows
end Go.Proofs.YtdlkohenamlnaaaGreat
