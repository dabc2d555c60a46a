/- TopMoving: closed facts of the card, one by one. -/
import Derived.Test.YtbhofnaipkkbeaaGreatDoorSxFBM
set_option maxRecDepth 100000
namespace Go.Proofs.YtbhofnaipkkbeaaGreatDoor
open Go Go.Sx
theorem yaiz : Rows.topMovingRow.wfByText (OpenSpec.ofChange Rows.topMovingSpec) = true := by kernel_rfl
theorem yagt : Tryz.pinned.checked.prog.mainIs = some (((true, "e20192f4908407724dfa1cd2808a98ee89571215388c0eff853c49c5d0b9b817") : Bool × String).1, ((true, "e20192f4908407724dfa1cd2808a98ee89571215388c0eff853c49c5d0b9b817") : Bool × String).2.toList) := by kernel_rfl
theorem yagb : true = Tryz.pinned.checked.prog.looks [] := by kernel_rfl
theorem yagu : false = Rows.topMovingRow.goesBy Tryz.pinned.checked.prog := by kernel_rfl
end Go.Proofs.YtbhofnaipkkbeaaGreatDoor
