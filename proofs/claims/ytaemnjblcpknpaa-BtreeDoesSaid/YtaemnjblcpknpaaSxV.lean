/- Plain statements of what each block of code of this seat asks; printed by a program, checked by Lean. -/
import Derived.Test.YtaemnjblcpknpaaSxV0
import Derived.Test.YtaemnjblcpknpaaSxV1
import Derived.Test.YtaemnjblcpknpaaSxV2
import Derived.Test.YtaemnjblcpknpaaSxV3
import Derived.Test.YtaemnjblcpknpaaSxV4
import Derived.Test.YtaemnjblcpknpaaSxV5
import Derived.Test.YtaemnjblcpknpaaSxV6
