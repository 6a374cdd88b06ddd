/- The walk, whole. -/
import Derived.Test.YtboejepakdnbgaaGreatDoorB1
import Derived.Test.YtboejepakdnbgaaGreatDoorB2
import Derived.Test.YtboejepakdnbgaaGreatDoorB3
