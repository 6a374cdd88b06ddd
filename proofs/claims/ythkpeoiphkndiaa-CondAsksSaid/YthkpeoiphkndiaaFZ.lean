/- The walk, whole. -/
import Derived.Test.YthkpeoiphkndiaaF1
import Derived.Test.YthkpeoiphkndiaaF2
import Derived.Test.YthkpeoiphkndiaaF3
import Derived.Test.YthkpeoiphkndiaaF4
import Derived.Test.YthkpeoiphkndiaaF5
import Derived.Test.YthkpeoiphkndiaaF6
