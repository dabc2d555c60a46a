/- Plain statements of what each block of code of this seat asks; printed by a program, checked by Lean. -/
import Derived.Test.YtipmcfpjdebpdaaSxV0
import Derived.Test.YtipmcfpjdebpdaaSxV1
import Derived.Test.YtipmcfpjdebpdaaSxV2
import Derived.Test.YtipmcfpjdebpdaaSxV3
import Derived.Test.YtipmcfpjdebpdaaSxV4
import Derived.Test.YtipmcfpjdebpdaaSxV5
import Derived.Test.YtipmcfpjdebpdaaSxV6
