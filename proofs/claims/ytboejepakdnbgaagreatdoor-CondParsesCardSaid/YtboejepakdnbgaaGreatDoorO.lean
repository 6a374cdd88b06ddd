import Derived.Test.YtboejepakdnbgaaGreatDoorNL
import Derived.Test.YtboejepakdnbgaaGreatDoorE
set_option linter.unusedVariables false
set_option linter.unusedSimpArgs false
namespace Go.Proofs.YtboejepakdnbgaaGreatDoor.K
open Go Go.RowKit Go.ChangeShapes Go.WideShapes Go.ChangeAt
end Go.Proofs.YtboejepakdnbgaaGreatDoor.K
