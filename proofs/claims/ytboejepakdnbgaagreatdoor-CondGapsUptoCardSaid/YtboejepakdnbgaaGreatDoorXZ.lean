/- The walk, whole. -/
import Derived.Test.YtboejepakdnbgaaGreatDoorX1
import Derived.Test.YtboejepakdnbgaaGreatDoorX2
import Derived.Test.YtboejepakdnbgaaGreatDoorX3
