/- Plain statements of what each block of code of this seat asks; printed by a program, checked by Lean. -/
import Derived.Test.YtdlkohenamlnaaaGreatSxV0
import Derived.Test.YtdlkohenamlnaaaGreatSxV1
import Derived.Test.YtdlkohenamlnaaaGreatSxV2
import Derived.Test.YtdlkohenamlnaaaGreatSxV3
import Derived.Test.YtdlkohenamlnaaaGreatSxV4
import Derived.Test.YtdlkohenamlnaaaGreatSxV5
import Derived.Test.YtdlkohenamlnaaaGreatSxV6
import Derived.Test.YtdlkohenamlnaaaGreatSxV7
import Derived.Test.YtdlkohenamlnaaaGreatSxV8
import Derived.Test.YtdlkohenamlnaaaGreatSxV9
import Derived.Test.YtdlkohenamlnaaaGreatSxV10
import Derived.Test.YtdlkohenamlnaaaGreatSxV11
