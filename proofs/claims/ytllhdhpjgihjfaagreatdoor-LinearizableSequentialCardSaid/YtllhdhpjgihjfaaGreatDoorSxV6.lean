/- Plain statements of what each block of code of this seat asks; printed by a program, checked by Lean. -/
import Derived.Test.YtllhdhpjgihjfaaGreatDoorSxV0
set_option maxRecDepth 10000
namespace Go.Proofs.YtllhdhpjgihjfaaGreatDoor
open Go Go.Sx
end Go.Proofs.YtllhdhpjgihjfaaGreatDoor
