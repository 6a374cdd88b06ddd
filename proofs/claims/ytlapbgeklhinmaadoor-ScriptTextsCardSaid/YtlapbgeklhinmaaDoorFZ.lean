/- The walk, whole. -/
import Derived.Test.YtlapbgeklhinmaaDoorF1
import Derived.Test.YtlapbgeklhinmaaDoorF2
