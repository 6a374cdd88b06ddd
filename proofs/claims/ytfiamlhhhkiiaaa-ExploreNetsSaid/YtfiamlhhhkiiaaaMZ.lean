/- The walk, whole. -/
import Derived.Test.YtfiamlhhhkiiaaaMB
import Derived.Test.YtfiamlhhhkiiaaaM1
import Derived.Test.YtfiamlhhhkiiaaaM2
import Derived.Test.YtfiamlhhhkiiaaaM3
