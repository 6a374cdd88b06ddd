/- The walk, whole. -/
import Derived.Test.YtmgjnplkpmcleaaDoorF1
import Derived.Test.YtmgjnplkpmcleaaDoorF2
import Derived.Test.YtmgjnplkpmcleaaDoorF3
