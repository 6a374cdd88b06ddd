/- The walk, whole. -/
import Derived.Test.YtdcdpigneonedaaGreatDoorF1
import Derived.Test.YtdcdpigneonedaaGreatDoorF2
import Derived.Test.YtdcdpigneonedaaGreatDoorF3
