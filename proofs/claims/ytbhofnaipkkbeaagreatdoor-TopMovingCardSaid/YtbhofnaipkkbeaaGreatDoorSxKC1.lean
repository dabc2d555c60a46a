/- The example: Timeline.check is asked for the first time. -/
import Derived.Test.YtbhofnaipkkbeaaGreatDoorSxKC0
set_option maxRecDepth 1000000
namespace Go.Proofs.YtbhofnaipkkbeaaGreatDoor
open Go Go.Sx
theorem ybgf : isOK (callK PP TB 200 56 args1 He1) 60000 1004 5 0 128 rowT1 1005 2 rowA1 = true := by kernel_rfl
end Go.Proofs.YtbhofnaipkkbeaaGreatDoor
