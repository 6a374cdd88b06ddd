/- A condition's reader: the single steps, the program's against the document's. -/
import Derived.Test.YtboejepakdnbgaaGreatDoorYA
import Derived.Test.YtboejepakdnbgaaGreatDoorO
set_option linter.unusedVariables false
set_option linter.unusedSimpArgs false
set_option maxRecDepth 100000
namespace Go.Proofs.YtboejepakdnbgaaGreatDoor.K.C
open Go

abbrev T0 : api_Token := ⟨0, ⟨#[]⟩, 0, 0, 0, 0, 0⟩
abbrev Toks := List api_Token
abbrev Nods := List api_Node
def sg (l : Toks) (a : Nat) (k : Int) (s : ByteArray) : Bool := decide (a < l.length) && ((gt l (a : Int)).Kind == k && decide ((gt l (a : Int)).Text = s))
theorem wadd {a b : Nat} (h : a + b < 9223372036854775807) : IntKind.i64.wrap ((a : Int) + (b : Int)) = ((a + b : Nat) : Int) := by rw [wi64_id (by omega) (by omega)]; omega
section
variable {l : Toks} {a : Nat} {la : api_Token} {d : Int} {c : Nods} {F : weirref05_Fault}
theorem sees_p (b : Nat) (k : Int) (s : ByteArray) (hl : l.length ≤ 2199023255552) (ha : a ≤ l.length) (hb : b ≤ 10) : cond_reader__sees.f ⟨l, (a : Int), la, d, c⟩ (b : Int) k s = some (sg l (a + b) k s) := by
  unfold cond_reader__sees.f sg
  dsimp only
  rw [wadd (by omega)]
  by_cases h : a + b < l.length
  · have g : (0 : Int) ≤ ((a + b : Nat) : Int) ∧ ((a + b : Nat) : Int) < (l.length : Int) := by omega
    rw [if_pos (decide_eq_true g.2), if_pos g, decide_eq_true h, if_pos g, seq_p]
    cases (gt l ((a + b : Nat) : Int)).Kind == k <;> cases decide ((gt l ((a + b : Nat) : Int)).Text = s) <;> rfl
  · rw [if_neg (nt (decide_eq_false (by omega))), decide_eq_false h]; rfl
theorem take_p (hl : l.length ≤ 2199023255552) (ha : a < l.length) : cond_reader__take.f ⟨l, (a : Int), la, d, c⟩ = some (gt l (a : Int), ((a + 1 : Nat) : Int), gt l (a : Int)) := by
  unfold cond_reader__take.f
  dsimp only
  rw [if_pos (by omega), w1 (by omega)]
theorem next_p : cond_reader__next.f ⟨l, (a : Int), la, d, c⟩ = some (if a < l.length then (gt l (a : Int), true) else (T0, false)) := by
  unfold cond_reader__next.f
  dsimp only
  by_cases h : a < l.length
  · rw [if_pos (decide_eq_true (by omega)), if_pos (by omega), if_pos h]
  · rw [if_neg (nt (decide_eq_false (by omega))), if_neg h]
theorem fail_p (t : api_Token) (e : Int) : cond_reader__fail.f ⟨l, (a : Int), la, d, c⟩ t e = some (.inl (.pos t.Line t.Col e)) := rfl
end
end Go.Proofs.YtboejepakdnbgaaGreatDoor.K.C
