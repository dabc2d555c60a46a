/- Plain statements of what each block of code of this seat asks; printed by a program, checked by Lean. -/
import Derived.Test.YtfkccighnkepgaaGreatSxV0
import Derived.Test.YtfkccighnkepgaaGreatSxV1
import Derived.Test.YtfkccighnkepgaaGreatSxV2
import Derived.Test.YtfkccighnkepgaaGreatSxV3
import Derived.Test.YtfkccighnkepgaaGreatSxV4
import Derived.Test.YtfkccighnkepgaaGreatSxV5
import Derived.Test.YtfkccighnkepgaaGreatSxV6
