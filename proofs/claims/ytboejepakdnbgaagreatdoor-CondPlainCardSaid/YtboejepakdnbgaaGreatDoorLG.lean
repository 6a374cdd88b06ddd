/- All tokens of a text, as the document has them. -/
import Derived.Test.YtboejepakdnbgaaGreatDoorLF
import Derived.Test.YtboejepakdnbgaaGreatDoorWD
set_option linter.unusedVariables false
set_option linter.unusedSimpArgs false
namespace Go.Proofs.YtboejepakdnbgaaGreatDoor.K
open Go

def tks (s : ByteArray) : Nat → Nat → List api_Token × Option (Int × Nat)
  | 0, _ => ([], none)
  | n + 1, a => match nxE s a with
    | .inl (c, p) => ([], some (c, p))
    | .inr (t, e) => if t.Kind = 0 then ([], none) else (t :: (tks s n e).1, (tks s n e).2)
theorem tks_s (s : ByteArray) (n a : Nat) : tks s (n + 1) a = match nxE s a with
    | .inl (c, p) => ([], some (c, p))
    | .inr (t, e) => if t.Kind = 0 then ([], none) else (t :: (tks s n e).1, (tks s n e).2) := rfl
end Go.Proofs.YtboejepakdnbgaaGreatDoor.K
