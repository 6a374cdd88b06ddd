/- Errors as values that stay; panics; deferred calls that recover. -/
import Derived.Test.YtcjaknnihjcajaaGreatNI
set_option linter.unusedVariables false
set_option linter.unusedSimpArgs false
namespace Go.Proofs.YtcjaknnihjcajaaGreat.K
open Go Go.RowKit
inductive PErr
 | nil
 | num (c : Int)
 | pos (line col code : Int)
 deriving DecidableEq, Inhabited
section
variable {α : Type} {a r : α} {b : Int → α} {c : Int → Int → Int → α}
end
def RepE (tn tp : TypeId) (Z : Zm) (v : Value) : PErr → Prop
 | .nil => v = .nilIface
 | .num c => v = .iface tn (.int .i64 c)
 | .pos l k m => ∃ b, v = .iface tp (.pointer (some ⟨b, 0, none⟩)) ∧ ZC Z b 0 [.int .i64 l, .int .i64 k, .iface tn (.int .i64 m)]
section
variable {tn tp : TypeId} {Z Z' : Zm} {v : Value} {e : PErr}
theorem RepE.mono (h : RepE tn tp Z v e) (hz : Zm.Le Z Z') : RepE tn tp Z' v e := by
 cases e with
 | nil => exact h
 | num c => exact h
 | pos l k m => obtain ⟨b, h1, h2⟩ := h; exact ⟨b, h1, h2.mono hz⟩
theorem RepE.cells (h : RepE tn tp Z v e) : v.cells = #[v] := by
 cases e with
 | nil => cases h; rfl
 | num c => cases h; rfl
 | pos l k m => obtain ⟨b, rfl, -⟩ := h; rfl
theorem RepE.one (h : RepE tn tp Z v e) : [v].all Value.oneCell' = true := by
 cases e with
 | nil => cases h; rfl
 | num c => cases h; rfl
 | pos l k m => obtain ⟨b, rfl, -⟩ := h; rfl
end
section
variable {P : Program} {f : Fx} {k : List Item} {l : List Value} {w w' : World} {R : Ending → World → Prop} {c : Code} {i : Nat} {rest : List Nat} {d : Option Tmp} {ty : TypeId}
end
theorem r_isret {P : Program} {f : Fx} {k : List Item} {l : List Value} {w : World} {R : Ending → World → Prop} {c : Code} (hc : c = .ret) (h : Runs P f (.code .ret :: k) l w R) : Runs P f (.code c :: k) l w R := by rw [hc]; exact h
end Go.Proofs.YtcjaknnihjcajaaGreat.K
