/- The example: Timeline.check is asked for the second time. -/
import Derived.Test.YtbhofnaipkkbeaaGreatDoorSxKC0
set_option maxRecDepth 1000000
namespace Go.Proofs.YtbhofnaipkkbeaaGreatDoor
open Go Go.Sx
theorem ybgi : isOK (callK PP TB 200 56 args2 He2) 120000 1004 5 0 128 rowT2 60030 1 rowA2 = true := by kernel_rfl
end Go.Proofs.YtbhofnaipkkbeaaGreatDoor
