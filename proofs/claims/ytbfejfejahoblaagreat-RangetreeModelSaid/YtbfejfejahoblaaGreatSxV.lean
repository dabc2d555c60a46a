/- Plain statements of what each block of code of this seat asks; printed by a program, checked by Lean. -/
import Derived.Test.YtbfejfejahoblaaGreatSxV0
import Derived.Test.YtbfejfejahoblaaGreatSxV1
import Derived.Test.YtbfejfejahoblaaGreatSxV2
import Derived.Test.YtbfejfejahoblaaGreatSxV3
import Derived.Test.YtbfejfejahoblaaGreatSxV4
import Derived.Test.YtbfejfejahoblaaGreatSxV5
import Derived.Test.YtbfejfejahoblaaGreatSxV6
