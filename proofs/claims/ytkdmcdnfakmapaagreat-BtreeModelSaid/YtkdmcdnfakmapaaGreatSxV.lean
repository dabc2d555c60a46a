/- Plain statements of what each block of code of this seat asks; printed by a program, checked by Lean. -/
import Derived.Test.YtkdmcdnfakmapaaGreatSxV0
import Derived.Test.YtkdmcdnfakmapaaGreatSxV1
import Derived.Test.YtkdmcdnfakmapaaGreatSxV2
import Derived.Test.YtkdmcdnfakmapaaGreatSxV3
import Derived.Test.YtkdmcdnfakmapaaGreatSxV4
import Derived.Test.YtkdmcdnfakmapaaGreatSxV5
import Derived.Test.YtkdmcdnfakmapaaGreatSxV6
