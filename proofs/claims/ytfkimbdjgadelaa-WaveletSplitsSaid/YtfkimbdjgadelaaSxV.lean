/- Plain statements of what each block of code of this seat asks; printed by a program, checked by Lean. -/
import Derived.Test.YtfkimbdjgadelaaSxV0
import Derived.Test.YtfkimbdjgadelaaSxV1
import Derived.Test.YtfkimbdjgadelaaSxV2
import Derived.Test.YtfkimbdjgadelaaSxV3
import Derived.Test.YtfkimbdjgadelaaSxV4
