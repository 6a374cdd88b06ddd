import Derived.Test.YthlegnipdaikgaaDoorNL
import Derived.Test.YthlegnipdaikgaaDoorE
set_option linter.unusedVariables false
set_option linter.unusedSimpArgs false
namespace Go.Proofs.YthlegnipdaikgaaDoor.K
open Go Go.RowKit Go.ChangeShapes Go.WideShapes Go.ChangeAt

end Go.Proofs.YthlegnipdaikgaaDoor.K
