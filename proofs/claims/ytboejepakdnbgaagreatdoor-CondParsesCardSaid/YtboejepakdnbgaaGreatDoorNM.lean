/- Maps: an object of memory, told as a list of keys and values in the order in which they came. -/
import Derived.Test.YtboejepakdnbgaaGreatDoorNP
import Derived.MapKept
set_option linter.unusedVariables false
set_option linter.unusedSimpArgs false
namespace Go.Proofs.YtboejepakdnbgaaGreatDoor.K
open Go Go.RowKit Go.MapKept

/-! ### Plain maps -/
section
variable {κ ν : Type} [DecidableEq κ]
end
section
variable {κ ν : Type} [DecidableEq κ] {eK : κ → Value} {eV : ν → Value} {dk : TypeDesc}
variable {P : Program} {f : Fx} {k : List Item} {l : List Value} {w w0 : World} {R : Ending → World → Prop} {c : Code} {i : Nat} {rest : List Nat} {d : Option Tmp} {ty : TypeId} {Z : Zm} {xs : List XObj}
end
theorem x_div {P : Program} {l : List Value} {w : World} {o : Oper} {t ty : TypeId} {x y : Operand} {k : IntKind} {a j : Int} (hx : evL l x = .int k a) (hy : evL l y = .int k j) (h0 : j ≠ 0) :
    (o.op = .binOp .quo t x y ty → (execOp (evL l) o).run P w = .ok (.value (.int k (k.wrap (a.tdiv j)))) w) ∧ (o.op = .binOp .rem t x y ty → (execOp (evL l) o).run P w = .ok (.value (.int k (a.tmod j))) w) := by
  constructor <;> intro ho <;> unfold execOp <;> simp [ho, hx, hy, binOp, eqGuard, Op.intDiv, h0]
end Go.Proofs.YtboejepakdnbgaaGreatDoor.K
