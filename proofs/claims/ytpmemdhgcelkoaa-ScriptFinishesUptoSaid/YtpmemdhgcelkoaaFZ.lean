/- The walk, whole. -/
import Derived.Test.YtpmemdhgcelkoaaF1
