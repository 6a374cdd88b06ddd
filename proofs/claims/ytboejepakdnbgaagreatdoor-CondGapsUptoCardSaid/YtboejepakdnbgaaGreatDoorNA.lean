/- errors.As at two concrete targets: where the error's own type is the target's, and where it is not. No condition. -/
import Derived.Test.YtboejepakdnbgaaGreatDoorNX
import Derived.Test.YtboejepakdnbgaaGreatDoorNV
import Derived.Test.YtboejepakdnbgaaGreatDoorProg
import Derived.LaidEql
import Derived.Stop.Asserts
import Derived.Lib.Builder
import Derived.RowKitTokens
set_option linter.unusedVariables false
set_option linter.unusedSimpArgs false
namespace Go.Proofs.YtboejepakdnbgaaGreatDoor.K
open Go Go.RowKit Go.Extern.Stop Go.Stop Go.Extern
set_option maxHeartbeats 4000000 in
set_option maxHeartbeats 4000000 in
set_option maxHeartbeats 4000000 in
section
variable {w0 w : World} {Z : Zm} {xs : List XObj} {b : Nat} {T : TypeId} {x v : Value}
end
end Go.Proofs.YtboejepakdnbgaaGreatDoor.K
