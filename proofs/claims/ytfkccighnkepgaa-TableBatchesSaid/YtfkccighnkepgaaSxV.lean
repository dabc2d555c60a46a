/- Plain statements of what each block of code of this seat asks; printed by a program, checked by Lean. -/
import Derived.Test.YtfkccighnkepgaaSxV0
import Derived.Test.YtfkccighnkepgaaSxV1
import Derived.Test.YtfkccighnkepgaaSxV2
import Derived.Test.YtfkccighnkepgaaSxV3
import Derived.Test.YtfkccighnkepgaaSxV4
import Derived.Test.YtfkccighnkepgaaSxV5
import Derived.Test.YtfkccighnkepgaaSxV6
