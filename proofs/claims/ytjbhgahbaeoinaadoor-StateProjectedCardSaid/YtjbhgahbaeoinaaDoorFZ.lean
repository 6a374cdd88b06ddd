/- The walk, whole. -/
import Derived.Test.YtjbhgahbaeoinaaDoorF1
import Derived.Test.YtjbhgahbaeoinaaDoorF2
