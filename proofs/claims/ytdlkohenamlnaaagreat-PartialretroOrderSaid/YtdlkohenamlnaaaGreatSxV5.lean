/- Plain statements of what each block of code of this seat asks; printed by a program, checked by Lean. -/
import Derived.Test.YtdlkohenamlnaaaGreatSxV0
set_option maxRecDepth 10000
namespace Go.Proofs.YtdlkohenamlnaaaGreat
open Go Go.Sx

/-! ### r03_heap -/
/-! ### r03_seq -/
/-! ### r03_sets -/
/-! ### r03_points -/
end Go.Proofs.YtdlkohenamlnaaaGreat
