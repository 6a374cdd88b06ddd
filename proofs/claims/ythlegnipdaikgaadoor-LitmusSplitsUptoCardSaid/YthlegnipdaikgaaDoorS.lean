import Derived.Test.YthlegnipdaikgaaDoorN9
set_option linter.unusedVariables false
set_option linter.unusedSimpArgs false
namespace Go.Proofs.YthlegnipdaikgaaDoor.K
open Go Go.RowKit

end Go.Proofs.YthlegnipdaikgaaDoor.K
