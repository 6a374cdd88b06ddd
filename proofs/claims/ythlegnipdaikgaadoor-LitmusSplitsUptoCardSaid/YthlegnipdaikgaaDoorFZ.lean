/- The walk, whole. -/
import Derived.Test.YthlegnipdaikgaaDoorF1
