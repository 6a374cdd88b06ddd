/- A condition's reader: the single steps, the program's against the document's. -/
import Derived.Test.YtboejepakdnbgaaGreatDoorYA
import Derived.Test.YtboejepakdnbgaaGreatDoorO
set_option linter.unusedVariables false
set_option linter.unusedSimpArgs false
set_option maxRecDepth 100000
namespace Go.Proofs.YtboejepakdnbgaaGreatDoor.K.C
open Go

abbrev F0 : weirref05_Fault := ⟨0, 0, 0⟩
abbrev T0 : api_Token := ⟨0, ⟨#[]⟩, 0, 0, 0, 0, 0⟩
abbrev Toks := List api_Token
abbrev Nods := List api_Node
def sg (l : Toks) (a : Nat) (k : Int) (s : ByteArray) : Bool := decide (a < l.length) && ((gt l (a : Int)).Kind == k && decide ((gt l (a : Int)).Text = s))
def synT (l : Toks) (a : Nat) : api_Token := if a < l.length then gt l (a : Int) else if 0 < l.length then gt l ((l.length - 1 : Nat) : Int) else T0
theorem wadd {a b : Nat} (h : a + b < 9223372036854775807) : IntKind.i64.wrap ((a : Int) + (b : Int)) = ((a + b : Nat) : Int) := by rw [wi64_id (by omega) (by omega)]; omega
section
variable {l : Toks} {a : Nat} {la : api_Token} {d : Int} {c : Nods} {F : weirref05_Fault}
theorem sees_p (b : Nat) (k : Int) (s : ByteArray) (hl : l.length ≤ 2199023255552) (ha : a ≤ l.length) (hb : b ≤ 10) : cond_reader__sees.f ⟨l, (a : Int), la, d, c⟩ (b : Int) k s = some (sg l (a + b) k s) := by
  unfold cond_reader__sees.f sg
  dsimp only
  rw [wadd (by omega)]
  by_cases h : a + b < l.length
  · have g : (0 : Int) ≤ ((a + b : Nat) : Int) ∧ ((a + b : Nat) : Int) < (l.length : Int) := by omega
    rw [if_pos (decide_eq_true g.2), if_pos g, decide_eq_true h, if_pos g, seq_p]
    cases (gt l ((a + b : Nat) : Int)).Kind == k <;> cases decide ((gt l ((a + b : Nat) : Int)).Text = s) <;> rfl
  · rw [if_neg (nt (decide_eq_false (by omega))), decide_eq_false h]; rfl
theorem bad_d : weirref06_reader__bad.f ⟨l, (a : Int), la, d, c, F⟩ = some (F.Code != 0) := by
  unfold weirref06_reader__bad.f
  cases h : F.Code != 0 <;> simp [h]
theorem take_p (hl : l.length ≤ 2199023255552) (ha : a < l.length) : cond_reader__take.f ⟨l, (a : Int), la, d, c⟩ = some (gt l (a : Int), ((a + 1 : Nat) : Int), gt l (a : Int)) := by
  unfold cond_reader__take.f
  dsimp only
  rw [if_pos (by omega), w1 (by omega)]
theorem take_d (hl : l.length ≤ 2199023255552) (ha : a < l.length) : weirref06_reader__take.f ⟨l, (a : Int), la, d, c, F0⟩ = some (gt l (a : Int), ((a + 1 : Nat) : Int), gt l (a : Int)) := by
  unfold weirref06_reader__take.f
  dsimp only
  rw [bad_d]
  simp only [Option.bind_eq_bind, Option.bind_some, bne_self_eq_false, Bool.false_eq_true, if_false]
  rw [if_neg (nt (decide_eq_false (by omega))), if_pos (by omega), w1 (by omega)]
theorem next_p : cond_reader__next.f ⟨l, (a : Int), la, d, c⟩ = some (if a < l.length then (gt l (a : Int), true) else (T0, false)) := by
  unfold cond_reader__next.f
  dsimp only
  by_cases h : a < l.length
  · rw [if_pos (decide_eq_true (by omega)), if_pos (by omega), if_pos h]
  · rw [if_neg (nt (decide_eq_false (by omega))), if_neg h]
theorem fail_p (t : api_Token) (e : Int) : cond_reader__fail.f ⟨l, (a : Int), la, d, c⟩ t e = some (.inl (.pos t.Line t.Col e)) := rfl
theorem syntax_p (hl : l.length ≤ 2199023255552) : cond_reader__syntax.f ⟨l, (a : Int), la, d, c⟩ = some (.inl (.pos (synT l a).Line (synT l a).Col 70)) := by
  unfold cond_reader__syntax.f synT
  dsimp only
  rw [next_p]
  by_cases h : a < l.length
  · rw [if_pos h, if_pos h]; rfl
  · rw [if_neg h, if_neg h]
    by_cases h2 : 0 < l.length
    · simp only [Option.bind_eq_bind, Option.bind_some, Bool.not_false, if_true]
      rw [if_pos (decide_eq_true (by omega)), wsub1 h2 (by omega), if_pos (by omega), if_pos h2]; rfl
    · simp only [Option.bind_eq_bind, Option.bind_some, Bool.not_false, if_true]
      rw [if_neg (nt (decide_eq_false (by omega))), if_neg h2]; rfl
theorem fail_d (t : api_Token) (e : Int) : weirref06_reader__fail.f ⟨l, (a : Int), la, d, c, F0⟩ t e = some ⟨t.Line, t.Col, e⟩ := by
  unfold weirref06_reader__fail.f
  dsimp only
  rw [bad_d]; rfl
theorem opens_sim (hl : l.length ≤ 2199023255552) (ha : a < l.length) (h0 : 0 ≤ d ∧ d ≤ 64) :
    (d < 64 ∧ cond_reader__opens.f ⟨l, (a : Int), la, d, c⟩ = some (.inr (((a + 1 : Nat) : Int), gt l (a : Int), d + 1)) ∧ weirref06_reader__opens.f ⟨l, (a : Int), la, d, c, F0⟩ = some (((a + 1 : Nat) : Int), gt l (a : Int), d + 1, F0)) ∨
    (∃ x y, cond_reader__opens.f ⟨l, (a : Int), la, d, c⟩ = some (.inl (.pos x y 2)) ∧ weirref06_reader__opens.f ⟨l, (a : Int), la, d, c, F0⟩ = some ((a : Int), la, d, ⟨x, y, 2⟩)) := by
  unfold cond_reader__opens.f weirref06_reader__opens.f
  dsimp only
  have g : (0 : Int) ≤ (a : Int) ∧ (a : Int) < (l.length : Int) := by omega
  have hw : IntKind.i64.wrap (d + 1) = d + 1 := wi64_id (by omega) (by omega)
  rw [if_pos g, if_pos g, fail_p, fail_d, hw, take_p hl ha, take_d hl ha]
  simp only [Option.bind_eq_bind, Option.bind_some]
  by_cases h : d = 64
  · right
    rw [if_pos (by rw [h]; rfl), if_pos (by rw [h]; rfl)]
    exact ⟨_, _, rfl, rfl⟩
  · left
    rw [if_neg (by simpa using h), if_neg (nt (decide_eq_false (by omega)))]
    exact ⟨by omega, rfl, rfl⟩
end
end Go.Proofs.YtboejepakdnbgaaGreatDoor.K.C
