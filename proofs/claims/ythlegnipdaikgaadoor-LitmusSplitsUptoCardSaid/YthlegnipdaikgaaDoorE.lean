import Derived.Test.YthlegnipdaikgaaDoorS
import Derived.Test.YthlegnipdaikgaaDoorProg
set_option linter.unusedVariables false
set_option linter.unusedSimpArgs false
set_option maxRecDepth 100000
namespace Go.Proofs.YthlegnipdaikgaaDoor.K
open Go Go.RowKit

end Go.Proofs.YthlegnipdaikgaaDoor.K
