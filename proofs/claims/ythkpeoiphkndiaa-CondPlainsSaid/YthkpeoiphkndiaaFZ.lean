/- The walk, whole. -/
import Derived.Test.YthkpeoiphkndiaaF1
import Derived.Test.YthkpeoiphkndiaaF2
import Derived.Test.YthkpeoiphkndiaaF3
