/- Maps: an object of memory, told as a list of keys and values in the order in which they came. -/
import Derived.Test.YtboejepakdnbgaaGreatDoorNP
import Derived.MapKept
set_option linter.unusedVariables false
set_option linter.unusedSimpArgs false
namespace Go.Proofs.YtboejepakdnbgaaGreatDoor.K
open Go Go.RowKit Go.MapKept

/-! ### Plain maps -/
section
variable {κ ν : Type} [DecidableEq κ]
end
section
variable {κ ν : Type} [DecidableEq κ] {eK : κ → Value} {eV : ν → Value} {dk : TypeDesc}
variable {P : Program} {f : Fx} {k : List Item} {l : List Value} {w w0 : World} {R : Ending → World → Prop} {c : Code} {i : Nat} {rest : List Nat} {d : Option Tmp} {ty : TypeId} {Z : Zm} {xs : List XObj}
end
end Go.Proofs.YtboejepakdnbgaaGreatDoor.K
