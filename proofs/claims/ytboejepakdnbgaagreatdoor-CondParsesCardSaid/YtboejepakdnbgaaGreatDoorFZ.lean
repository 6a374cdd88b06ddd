/- The walk, whole. -/
import Derived.Test.YtboejepakdnbgaaGreatDoorFB
import Derived.Test.YtboejepakdnbgaaGreatDoorF1
import Derived.Test.YtboejepakdnbgaaGreatDoorF2
import Derived.Test.YtboejepakdnbgaaGreatDoorF3
import Derived.Test.YtboejepakdnbgaaGreatDoorF4
