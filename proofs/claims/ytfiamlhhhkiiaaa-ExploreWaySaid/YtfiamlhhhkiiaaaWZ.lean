/- The walk, whole. -/
import Derived.Test.YtfiamlhhhkiiaaaWB
import Derived.Test.YtfiamlhhhkiiaaaW1
import Derived.Test.YtfiamlhhhkiiaaaW2
import Derived.Test.YtfiamlhhhkiiaaaW3
