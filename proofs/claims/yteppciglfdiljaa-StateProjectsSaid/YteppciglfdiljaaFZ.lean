/- The walk, whole. -/
import Derived.Test.YteppciglfdiljaaF1
import Derived.Test.YteppciglfdiljaaF2
import Derived.Test.YteppciglfdiljaaF3
