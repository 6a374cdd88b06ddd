/- The plain functions of the document that the plain laws of the lexer name: definitions alone. -/
import Derived.Test.YtboejepakdnbgaaGreatDoorV4
set_option linter.unusedVariables false
namespace Go.Proofs.YtboejepakdnbgaaGreatDoor.K
open Go Go.RowKit
noncomputable section
def weirref04_digit.f (a0 a1 : Int) : Option Int :=
  (((if (decide (a0 ≥ 48)) = true then (if (decide (a0 ≤ 57)) = true then some ((IntKind.i64.wrap (IntKind.u8.wrap (a0 - 48)))) else (if (decide (a0 ≥ 97)) = true then (if (decide (a0 ≤ 102)) = true then some ((IntKind.i64.wrap ((IntKind.i64.wrap (IntKind.u8.wrap (a0 - 97))) + 10))) else (if (decide (a0 ≥ 65)) = true then (if (decide (a0 ≤ 70)) = true then some ((IntKind.i64.wrap ((IntKind.i64.wrap (IntKind.u8.wrap (a0 - 65))) + 10))) else some ((-1))) else some ((-1)))) else (if (decide (a0 ≥ 65)) = true then (if (decide (a0 ≤ 70)) = true then some ((IntKind.i64.wrap ((IntKind.i64.wrap (IntKind.u8.wrap (a0 - 65))) + 10))) else some ((-1))) else some ((-1))))) else (if (decide (a0 ≥ 97)) = true then (if (decide (a0 ≤ 102)) = true then some ((IntKind.i64.wrap ((IntKind.i64.wrap (IntKind.u8.wrap (a0 - 97))) + 10))) else (if (decide (a0 ≥ 65)) = true then (if (decide (a0 ≤ 70)) = true then some ((IntKind.i64.wrap ((IntKind.i64.wrap (IntKind.u8.wrap (a0 - 65))) + 10))) else some ((-1))) else some ((-1)))) else (if (decide (a0 ≥ 65)) = true then (if (decide (a0 ≤ 70)) = true then some ((IntKind.i64.wrap ((IntKind.i64.wrap (IntKind.u8.wrap (a0 - 65))) + 10))) else some ((-1))) else some ((-1))))) : Option Int) >>= (fun t4 => (if (decide (t4 ≥ a1)) = true then some ((-1)) else some (t4))))
end
end Go.Proofs.YtboejepakdnbgaaGreatDoor.K
