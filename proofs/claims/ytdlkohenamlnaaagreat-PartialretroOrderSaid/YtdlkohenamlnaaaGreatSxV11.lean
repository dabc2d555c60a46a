/- Plain statements of what each block of code of this seat asks; printed by a program, checked by Lean. -/
import Derived.Test.YtdlkohenamlnaaaGreatSxV0
set_option maxRecDepth 10000
namespace Go.Proofs.YtdlkohenamlnaaaGreat
open Go Go.Sx

/-! ### slices_heapSortOrdered_int -/
/-! ### slices_breakPatternsOrdered_int -/
/-! ### slices_choosePivotOrdered_int -/
/-! ### slices_reverseRangeOrdered_int -/
/-! ### slices_partialInsertionSortOrdered_int -/
/-! ### slices_partitionEqualOrdered_int -/
/-! ### slices_partitionOrdered_int -/
/-! ### slices_rotateLeft_Sint -/
/-! ### slices_Reverse_Spartialretro_element_partialretro_element -/
/-! ### slices_siftDownOrdered_int -/
/-! ### slices_medianAdjacentOrdered_int -/
/-! ### slices_medianOrdered_int -/
/-! ### slices_order2Ordered_int -/
end Go.Proofs.YtdlkohenamlnaaaGreat
