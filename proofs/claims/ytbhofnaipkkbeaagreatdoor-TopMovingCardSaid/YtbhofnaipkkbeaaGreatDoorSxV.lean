/- Plain statements of what each block of code of this seat asks; printed by a program, checked by Lean. -/
import Derived.Test.YtbhofnaipkkbeaaGreatDoorSxV0
import Derived.Test.YtbhofnaipkkbeaaGreatDoorSxV1
import Derived.Test.YtbhofnaipkkbeaaGreatDoorSxV2
import Derived.Test.YtbhofnaipkkbeaaGreatDoorSxV3
import Derived.Test.YtbhofnaipkkbeaaGreatDoorSxV4
