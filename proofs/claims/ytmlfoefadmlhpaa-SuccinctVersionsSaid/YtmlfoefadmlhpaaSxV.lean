/- Plain statements of what each block of code of this seat asks; printed by a program, checked by Lean. -/
import Derived.Test.YtmlfoefadmlhpaaSxV0
import Derived.Test.YtmlfoefadmlhpaaSxV1
import Derived.Test.YtmlfoefadmlhpaaSxV2
import Derived.Test.YtmlfoefadmlhpaaSxV3
