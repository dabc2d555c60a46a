/- How the law's arguments are read: motions, a small number; the library's table. -/
import Derived.Test.YtbhofnaipkkbeaaGreatDoorSxR1
import Derived.Test.YtbhofnaipkkbeaaGreatDoorSxOS
import Derived.Test.YtbhofnaipkkbeaaGreatDoorCards
import Derived.Test.YtbhofnaipkkbeaaGreatDoorTie
import Derived.WalkKit
import Derived.ProofKit
import Derived.OpenShut
import Derived.ShutString
import Derived.ChangeOld
import Derived.Below
import Derived.ChangeMaps5
import Derived.Deep.Grids
import Derived.LaidMore
import Derived.Stop.LaidErr
import Derived.Stop.Joined
import Derived.Lib.LaidTab
import Derived.MakeChecks
import Derived.SevenTiedAt
set_option maxRecDepth 10000
namespace Go.Proofs.YtbhofnaipkkbeaaGreatDoor
open Go Go.Sx Go.ChangeShapes Go.WideShapes Go.ChangeAt Go.RowKit Go.Deep

theorem own : ownKnob Tryz.prog.godebug = none := by kernel_rfl
theorem ybcz : laidOutB Tryz.prog = true := by kernel_rfl
abbrev laid3 : List (String × DataW Unit) := [("math/bits.deBruijn32tab", Rows.laid_math_bits_deBruijn32tab), ("math/bits.deBruijn64tab", Rows.laid_math_bits_deBruijn64tab), ("internal/strconv.uint64pow10", Rows.laid_internal_strconv_uint64pow10), ("strconv.ErrRange", Rows.laid_strconv_ErrRange), ("strconv.ErrSyntax", Rows.laid_strconv_ErrSyntax), ("unicode.White_Space", Rows.laid_unicode_White_Space), ("strings.asciiSpace", Rows.laid_strings_asciiSpace)]
theorem ybak (os : Os) (args : Array Value) : laidMetH Tryz.prog laid3 ((World.doorLaid Tryz.prog 86 os).forCall (fun _ _ => 0) ⟨#[], args, []⟩).memory := by
  rw [MakeChecks.laidMetH_plain _ _ _ (by kernel_rfl)]
  exact laidMet_of_run' 8 (by kernel_rfl) (by kernel_rfl)
noncomputable def blank : List Int := (List.range 256).map fun n => if n = 32 ∨ (9 ≤ n ∧ n ≤ 13) then 1 else 0
theorem ybhb {W : World} (hL : laidMetH Tryz.prog laid3 W) : T0 W.heap := by
  rw [MakeChecks.laidMetH_plain _ _ _ (by kernel_rfl)] at hL
  have hg : Tryz.prog.globalNamed "strings.asciiSpace" = some 2 := by kernel_rfl
  have h := Lib.tabIs_of_head (k := .u8) (zs := blank) hg (t := 405) (e := 5) (n := 256) (by kernel_rfl) (by kernel_rfl) (by kernel_rfl) (by kernel_rfl) (by kernel_rfl)
    (show laidMet Tryz.prog (("strings.asciiSpace", Lib.tabData .u8 blank) :: []) W from hL.tail.tail.tail.tail.tail.tail)
  unfold Lib.TabIs World.var? at h
  rw [hg, Option.bind_some] at h
  split at h
  · rename_i cs e fz hb
    cases h
    refine ⟨?_, fun i v hv => ?_⟩
    · rcases Nat.lt_or_ge 2 W.heap.size with h | h
      · exact h
      · rw [Array.getElem?_eq_none h] at hb; cases hb
    · have h1 : tbl[i]? = some v := yamb hv
      have e1 : tbl = blank.map fun z => Value.int .u8 z := by kernel_rfl
      have hp : (tbl.all fun v => plain v) = true := by kernel_rfl
      refine ⟨?_, List.all_eq_true.1 hp v (List.mem_of_getElem? h1)⟩
      rw [e1] at h1
      unfold cell
      rw [hb]
      simpa using h1
  · cases h
theorem yazs {P : Program} {f : FuncId} {args : Array Value} {w : World} (hc : yaak P f args w.heap (fun v h' => v = .bool true ∧ Ext w.heap h')) :
    Calls P f args w fun e w' => e = .returned (.bool true) ∧ Below w.heap.size w w' :=
  (hc w rfl).mono fun e w' ⟨v, he, hs, hv, hx⟩ => ⟨by rw [he, hv], ⟨hs.os, hs.tape, hs.output, hx.size, hx.same⟩⟩
section
variable {H : Type} {enc : TypeId × Value → H} {w : World} {base : Nat} {held : Bool} {a : OA} {len cap : Nat} {d : DataW H} {ps : List MemPlace}
theorem yaqr (h : DataW.Trod enc Tryz.prog w base (fun _ => true) held 22 (.slice a len cap) d ps) : ∃ l : List (Int × Int), RdT TM w.heap a len l ∧ len ≤ cap ∧ ∀ x ∈ l, InR x.1 ∧ InR x.2 :=
  ybbf (W := fun x : Int × Int => InR x.1 ∧ InR x.2) TM Tryz.underlying22 (by kernel_rfl) (fun n cs x h => by
    obtain ⟨xs, m, _, _, hl, hxl, hx⟩ := DataW.trod_struct Tryz.underlying49 h
    rw [show Tryz.prog.cellsOf 49 = 2 by kernel_rfl] at hl
    match cs, xs, hl, hxl with
    | [c0, c1], [y0, y1], _, _ =>
      obtain ⟨z0, e0, w0⟩ := yaxs (k := .i64) (by kernel_rfl) _ _ _ (hx 0 _ rfl)
      obtain ⟨z1, e1, w1⟩ := yaxs (k := .i64) (by kernel_rfl) _ _ _ (hx 1 _ rfl)
      have f0 : c0 = .int .i64 z0 := (List.cons.inj (show [c0] = [Value.int .i64 z0] from e0)).1
      have f1 : c1 = .int .i64 z1 := (List.cons.inj (show [c1] = [Value.int .i64 z1] from e1)).1
      exact ⟨(z0, z1), by rw [f0, f1], bounds_i64 w0, bounds_i64 w1⟩) h
end
end Go.Proofs.YtbhofnaipkkbeaaGreatDoor
