/- The walk, whole. -/
import Derived.Test.YtpmemdhgcelkoaaF1
import Derived.Test.YtpmemdhgcelkoaaF2
import Derived.Test.YtpmemdhgcelkoaaF3
