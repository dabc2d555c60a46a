/- Plain statements of what each block of code of this seat asks; printed by a program, checked by Lean. -/
import Derived.Test.YtbfejfejahoblaaSxV0
import Derived.Test.YtbfejfejahoblaaSxV1
import Derived.Test.YtbfejfejahoblaaSxV2
import Derived.Test.YtbfejfejahoblaaSxV3
import Derived.Test.YtbfejfejahoblaaSxV4
import Derived.Test.YtbfejfejahoblaaSxV5
