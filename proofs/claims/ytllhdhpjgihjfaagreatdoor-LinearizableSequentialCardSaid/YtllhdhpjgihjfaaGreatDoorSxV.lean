/- Plain statements of what each block of code of this seat asks; printed by a program, checked by Lean. -/
import Derived.Test.YtllhdhpjgihjfaaGreatDoorSxV0
import Derived.Test.YtllhdhpjgihjfaaGreatDoorSxV1
import Derived.Test.YtllhdhpjgihjfaaGreatDoorSxV2
import Derived.Test.YtllhdhpjgihjfaaGreatDoorSxV3
import Derived.Test.YtllhdhpjgihjfaaGreatDoorSxV4
import Derived.Test.YtllhdhpjgihjfaaGreatDoorSxV5
import Derived.Test.YtllhdhpjgihjfaaGreatDoorSxV6
import Derived.Test.YtllhdhpjgihjfaaGreatDoorSxV7
import Derived.Test.YtllhdhpjgihjfaaGreatDoorSxV8
import Derived.Test.YtllhdhpjgihjfaaGreatDoorSxV9
import Derived.Test.YtllhdhpjgihjfaaGreatDoorSxV10
import Derived.Test.YtllhdhpjgihjfaaGreatDoorSxV11
import Derived.Test.YtllhdhpjgihjfaaGreatDoorSxV12
