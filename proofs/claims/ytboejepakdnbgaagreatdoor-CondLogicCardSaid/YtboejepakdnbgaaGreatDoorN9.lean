/- The engine's views: parts of a row of the call's own, beside it. -/
import Derived.Test.YtboejepakdnbgaaGreatDoorN8
set_option linter.unusedVariables false
set_option linter.unusedSimpArgs false
namespace Go.Proofs.YtboejepakdnbgaaGreatDoor.K
open Go Go.RowKit

theorem fuel_ex : ∃ n : Nat, 18446744073709551616 ≤ n := ⟨_, Nat.le_refl _⟩
noncomputable def fuelN : Nat := Classical.choose fuel_ex
theorem fuelN_ge : 18446744073709551616 ≤ fuelN := Classical.choose_spec fuel_ex
def vA (A : Option Addr) (c L sz : Nat) : Option Addr := if c = L then A else A.map (·.add (L * sz))
theorem vA_at {A : Option Addr} {c L sz b o : Nat} (hA : A = some ⟨b, o, none⟩) (h : L < c) : vA A c L sz = some ⟨b, o + L * sz, none⟩ := by
  unfold vA; rw [if_neg (by omega), hA]; simp [add_lit]
theorem lenPart {α : Type} {xs : List α} {L n : Nat} (h : L + n ≤ xs.length) : ((xs.drop L).take n).length = n := by rw [List.length_take, List.length_drop, Nat.min_eq_left (by omega)]

section
variable {P : Program} {l : List Value} {w : World} {o : Oper} {t e : TypeId} {x lo hi : Operand} {A : Option Addr} {n c sz : Nat} {i j : Int} {k k' : IntKind} {v : Value}
end

section
variable {α : Type} {rep : Zm → α → List Value → Prop} {enc : α → List Value} {e : TypeId} {sz : Nat} {w0 w w' : World} {Z Z' : Zm} {A : Option Addr} {c : Nat} {cs : List Value} {xs : List α} {os : List XObj} {b : Nat}
theorem SlZ.part (h : SlZ rep sz Z A c xs) (L n : Nat) (hb : L + n ≤ xs.length) : SlZ rep sz Z (vA A c L sz) (c - L) ((xs.drop L).take n) := by
  have hc := h.cap
  refine ⟨by have := h.small; rw [lenPart hb]; omega, by rw [lenPart hb]; omega, fun i x hx => ?_⟩
  have hx' : xs[L + i]? = some x := by
    rw [List.getElem?_take] at hx
    split at hx
    · rwa [List.getElem?_drop] at hx
    · cases hx
  have hi := (List.getElem?_eq_some_iff.1 hx').1
  obtain ⟨b, o, cs, hA, h3, h4, h5⟩ := h.cells _ x hx'
  refine ⟨b, o + L * sz, cs, vA_at hA (by omega), h3, h4, h5.eq (by rw [Nat.add_mul]; omega)⟩
end

section
variable {α : Type} {enc : α → List Value} {P : Program} {e t t2 ty : TypeId} {sz cp L n : Nat} {A : Option Addr} {xs ys : List α} {w w0 : World} {xv : Value} {ycs : List Value} {Z : Zm} {os : List XObj}
end
section
variable {P : Program} {f : Fx} {k : List Item} {l : List Value} {w w0 : World} {Z : Zm} {os : List XObj} {R : Ending → World → Prop} {c : Code} {i : Nat} {rest : List Nat} {d : Option Tmp} {ty : TypeId}
end
section
variable {P : Program} {f : Fx} {k : List Item} {l : List Value} {w : World} {R : Ending → World → Prop} {C : World → Prop} {F : Nat → List Value → Prop} {c : Code} {i : Nat} {rest : List Nat} {d : Option Tmp} {ty : TypeId}
end
def repL {α : Type} (rep : Zm → α → List Value → Prop) (sz : Nat) (Z : Zm) (xs : List α) (cs : List Value) : Prop := ∃ A c, cs = [.slice A xs.length c] ∧ SlZ rep sz Z A c xs
end Go.Proofs.YtboejepakdnbgaaGreatDoor.K
