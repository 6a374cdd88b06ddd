/- The walk, whole. -/
import Derived.Test.YtmaldbnnighojaaDoorF1
import Derived.Test.YtmaldbnnighojaaDoorF2
import Derived.Test.YtmaldbnnighojaaDoorF3
