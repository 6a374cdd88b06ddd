/- The walk, whole. -/
import Derived.Test.YtfiamlhhhkiiaaaRB
import Derived.Test.YtfiamlhhhkiiaaaR1
import Derived.Test.YtfiamlhhhkiiaaaR2
import Derived.Test.YtfiamlhhhkiiaaaR3
