/- The walk, whole. -/
import Derived.Test.YtfiamlhhhkiiaaaAB
import Derived.Test.YtfiamlhhhkiiaaaA1
import Derived.Test.YtfiamlhhhkiiaaaA2
import Derived.Test.YtfiamlhhhkiiaaaA3
import Derived.Test.YtfiamlhhhkiiaaaA4
