/- A condition's reader: the single steps, the program's against the document's. -/
import Derived.Test.YtboejepakdnbgaaGreatDoorYA
import Derived.Test.YtboejepakdnbgaaGreatDoorO
set_option linter.unusedVariables false
set_option linter.unusedSimpArgs false
set_option maxRecDepth 100000
namespace Go.Proofs.YtboejepakdnbgaaGreatDoor.K.C
open Go

abbrev F0 : weirref05_Fault := ⟨0, 0, 0⟩
abbrev T0 : api_Token := ⟨0, ⟨#[]⟩, 0, 0, 0, 0, 0⟩
abbrev Toks := List api_Token
abbrev Nods := List api_Node
def sg (l : Toks) (a : Nat) (k : Int) (s : ByteArray) : Bool := decide (a < l.length) && ((gt l (a : Int)).Kind == k && decide ((gt l (a : Int)).Text = s))
def synT (l : Toks) (a : Nat) : api_Token := if a < l.length then gt l (a : Int) else if 0 < l.length then gt l ((l.length - 1 : Nat) : Int) else T0
theorem wadd {a b : Nat} (h : a + b < 9223372036854775807) : IntKind.i64.wrap ((a : Int) + (b : Int)) = ((a + b : Nat) : Int) := by rw [wi64_id (by omega) (by omega)]; omega
section
variable {l : Toks} {a : Nat} {la : api_Token} {d : Int} {c : Nods} {F : weirref05_Fault}
theorem sees_p (b : Nat) (k : Int) (s : ByteArray) (hl : l.length ≤ 2199023255552) (ha : a ≤ l.length) (hb : b ≤ 10) : cond_reader__sees.f ⟨l, (a : Int), la, d, c⟩ (b : Int) k s = some (sg l (a + b) k s) := by
  unfold cond_reader__sees.f sg
  dsimp only
  rw [wadd (by omega)]
  by_cases h : a + b < l.length
  · have g : (0 : Int) ≤ ((a + b : Nat) : Int) ∧ ((a + b : Nat) : Int) < (l.length : Int) := by omega
    rw [if_pos (decide_eq_true g.2), if_pos g, decide_eq_true h, if_pos g, seq_p]
    cases (gt l ((a + b : Nat) : Int)).Kind == k <;> cases decide ((gt l ((a + b : Nat) : Int)).Text = s) <;> rfl
  · rw [if_neg (nt (decide_eq_false (by omega))), decide_eq_false h]; rfl
theorem bad_d : weirref06_reader__bad.f ⟨l, (a : Int), la, d, c, F⟩ = some (F.Code != 0) := by
  unfold weirref06_reader__bad.f
  cases h : F.Code != 0 <;> simp [h]
theorem is_d (b : Nat) (k : Int) (s : ByteArray) (hl : l.length ≤ 2199023255552) (ha : a ≤ l.length) (hb : b ≤ 10) : weirref06_reader__is.f ⟨l, (a : Int), la, d, c, F0⟩ (b : Int) k s = some (sg l (a + b) k s) := by
  unfold weirref06_reader__is.f sg
  dsimp only
  rw [bad_d, wadd (by omega)]
  simp only [Option.bind_eq_bind, Option.bind_some, bne_self_eq_false, Bool.not_false, if_true]
  by_cases h : a + b < l.length
  · have g : (0 : Int) ≤ ((a + b : Nat) : Int) ∧ ((a + b : Nat) : Int) < (l.length : Int) := by omega
    rw [if_pos (decide_eq_true g.2), if_pos g, decide_eq_true h, if_pos g, seq_p]
    cases (gt l ((a + b : Nat) : Int)).Kind == k <;> cases decide ((gt l ((a + b : Nat) : Int)).Text = s) <;> rfl
  · rw [if_neg (nt (decide_eq_false (by omega))), decide_eq_false h]; rfl
theorem is_bad (hF : F.Code ≠ 0) (b : Int) (k : Int) (s : ByteArray) : weirref06_reader__is.f ⟨l, (a : Int), la, d, c, F⟩ b k s = some false := by
  unfold weirref06_reader__is.f
  dsimp only
  rw [bad_d, (bne_iff_ne.2 hF : (F.Code != 0) = true)]; rfl
theorem take_p (hl : l.length ≤ 2199023255552) (ha : a < l.length) : cond_reader__take.f ⟨l, (a : Int), la, d, c⟩ = some (gt l (a : Int), ((a + 1 : Nat) : Int), gt l (a : Int)) := by
  unfold cond_reader__take.f
  dsimp only
  rw [if_pos (by omega), w1 (by omega)]
theorem take_d (hl : l.length ≤ 2199023255552) (ha : a < l.length) : weirref06_reader__take.f ⟨l, (a : Int), la, d, c, F0⟩ = some (gt l (a : Int), ((a + 1 : Nat) : Int), gt l (a : Int)) := by
  unfold weirref06_reader__take.f
  dsimp only
  rw [bad_d]
  simp only [Option.bind_eq_bind, Option.bind_some, bne_self_eq_false, Bool.false_eq_true, if_false]
  rw [if_neg (nt (decide_eq_false (by omega))), if_pos (by omega), w1 (by omega)]
theorem next_p : cond_reader__next.f ⟨l, (a : Int), la, d, c⟩ = some (if a < l.length then (gt l (a : Int), true) else (T0, false)) := by
  unfold cond_reader__next.f
  dsimp only
  by_cases h : a < l.length
  · rw [if_pos (decide_eq_true (by omega)), if_pos (by omega), if_pos h]
  · rw [if_neg (nt (decide_eq_false (by omega))), if_neg h]
theorem fail_p (t : api_Token) (e : Int) : cond_reader__fail.f ⟨l, (a : Int), la, d, c⟩ t e = some (.inl (.pos t.Line t.Col e)) := rfl
theorem syntax_p (hl : l.length ≤ 2199023255552) : cond_reader__syntax.f ⟨l, (a : Int), la, d, c⟩ = some (.inl (.pos (synT l a).Line (synT l a).Col 70)) := by
  unfold cond_reader__syntax.f synT
  dsimp only
  rw [next_p]
  by_cases h : a < l.length
  · rw [if_pos h, if_pos h]; rfl
  · rw [if_neg h, if_neg h]
    by_cases h2 : 0 < l.length
    · simp only [Option.bind_eq_bind, Option.bind_some, Bool.not_false, if_true]
      rw [if_pos (decide_eq_true (by omega)), wsub1 h2 (by omega), if_pos (by omega), if_pos h2]; rfl
    · simp only [Option.bind_eq_bind, Option.bind_some, Bool.not_false, if_true]
      rw [if_neg (nt (decide_eq_false (by omega))), if_neg h2]; rfl
theorem fail_d (t : api_Token) (e : Int) : weirref06_reader__fail.f ⟨l, (a : Int), la, d, c, F0⟩ t e = some ⟨t.Line, t.Col, e⟩ := by
  unfold weirref06_reader__fail.f
  dsimp only
  rw [bad_d]; rfl
theorem fail_bad (hF : F.Code ≠ 0) (t : api_Token) (e : Int) : weirref06_reader__fail.f ⟨l, (a : Int), la, d, c, F⟩ t e = some F := by
  unfold weirref06_reader__fail.f
  dsimp only
  rw [bad_d, (bne_iff_ne.2 hF : (F.Code != 0) = true)]; rfl
theorem syntax_g (hl : l.length ≤ 2199023255552) : weirref06_reader__syntax.f ⟨l, (a : Int), la, d, c, F⟩ = weirref06_reader__fail.f ⟨l, (a : Int), la, d, c, F⟩ (synT l a) 70 := by
  unfold weirref06_reader__syntax.f synT
  dsimp only
  have hb : ∀ x : Option weirref05_Fault, (x >>= fun t => some t) = x := fun x => by cases x <;> rfl
  by_cases h2 : 0 < l.length
  · rw [if_pos (decide_eq_true (by omega)), wsub1 h2 (by omega), if_pos (by omega)]
    simp only [Option.bind_eq_bind, Option.bind_some]
    by_cases h : a < l.length
    · rw [if_pos (decide_eq_true (by omega)), if_pos (by omega), if_pos h]; exact hb _
    · rw [if_neg (nt (decide_eq_false (by omega))), if_neg h, if_pos h2]; exact hb _
  · rw [if_neg (nt (decide_eq_false (by omega)))]
    simp only [Option.bind_eq_bind, Option.bind_some]
    rw [if_neg (nt (decide_eq_false (by omega))), if_neg (by omega), if_neg h2]; exact hb _
theorem syntax_d (hl : l.length ≤ 2199023255552) : weirref06_reader__syntax.f ⟨l, (a : Int), la, d, c, F0⟩ = some ⟨(synT l a).Line, (synT l a).Col, 70⟩ := by rw [syntax_g hl, fail_d]
theorem syntax_bad (hl : l.length ≤ 2199023255552) (hF : F.Code ≠ 0) : weirref06_reader__syntax.f ⟨l, (a : Int), la, d, c, F⟩ = some F := by rw [syntax_g hl, fail_bad hF]
def M (l : Toks) : Nat := if 0 < l.length ∧ (gt l ((l.length - 1 : Nat) : Int)).Kind = 0 then l.length - 1 else l.length
theorem M_le (l : Toks) : M l ≤ l.length := by unfold M; split <;> omega
theorem lt_M {l : Toks} {a : Nat} (h : a < l.length) (hk : (gt l (a : Int)).Kind ≠ 0) : a < M l := by
  unfold M
  split
  · rename_i h2
    by_cases e : a = l.length - 1
    · subst e; exact absurd h2.2 hk
    · omega
  · exact h
theorem sg_M {l : Toks} {a : Nat} {k : Int} {s : ByteArray} (h : sg l a k s = true) (hk : k ≠ 0) : a < M l := by
  unfold sg at h
  simp only [Bool.and_eq_true, decide_eq_true_eq, beq_iff_eq] at h
  exact lt_M h.1 (by rw [h.2.1]; exact hk)
/-! ### Signs, names, numbers, nodes -/
theorem sign_sim (s : ByteArray) (hl : l.length ≤ 2199023255552) (ha : a ≤ l.length) :
    (a < M l ∧ cond_reader__sign.f ⟨l, (a : Int), la, d, c⟩ s = some (.inr (((a + 1 : Nat) : Int), gt l (a : Int))) ∧ weirref06_reader__sign.f ⟨l, (a : Int), la, d, c, F0⟩ s = some (((a + 1 : Nat) : Int), gt l (a : Int), F0)) ∨
    (∃ x y, cond_reader__sign.f ⟨l, (a : Int), la, d, c⟩ s = some (.inl (.pos x y 70)) ∧ weirref06_reader__sign.f ⟨l, (a : Int), la, d, c, F0⟩ s = some ((a : Int), la, ⟨x, y, 70⟩)) := by
  unfold cond_reader__sign.f weirref06_reader__sign.f
  dsimp only
  rw [show ((0 : Int)) = ((0 : Nat) : Int) from rfl, sees_p 0 4 s hl ha (by decide), is_d 0 4 s hl ha (by decide), Nat.add_zero]
  simp only [Option.bind_eq_bind, Option.bind_some]
  cases hs : sg l a 4 s
  · right
    simp only [Bool.not_false, if_true, syntax_p hl, syntax_d hl, Option.bind_some]
    exact ⟨_, _, rfl, rfl⟩
  · left
    have h1 : a < l.length := by
      unfold sg at hs
      simp only [Bool.and_eq_true, decide_eq_true_eq] at hs
      exact hs.1
    refine ⟨sg_M hs (by decide), ?_, ?_⟩
    · simp only [Bool.not_true, Bool.false_eq_true, if_false, take_p hl h1, Option.bind_some]
    · simp only [Bool.not_true, Bool.false_eq_true, if_false, take_d hl h1, Option.bind_some]
theorem sign_bad (s : ByteArray) (hl : l.length ≤ 2199023255552) (hF : F.Code ≠ 0) : weirref06_reader__sign.f ⟨l, (a : Int), la, d, c, F⟩ s = some ((a : Int), la, F) := by
  unfold weirref06_reader__sign.f
  dsimp only
  rw [is_bad hF]
  simp only [Option.bind_eq_bind, Option.bind_some, Bool.not_false, if_true, syntax_bad hl hF]
theorem name_sim (hl : l.length ≤ 2199023255552) (ha : a ≤ l.length) :
    (a < M l ∧ cond_reader__name.f ⟨l, (a : Int), la, d, c⟩ = some (.inr ((gt l (a : Int)).Text, ((a + 1 : Nat) : Int), gt l (a : Int))) ∧ weirref06_reader__name.f ⟨l, (a : Int), la, d, c, F0⟩ = some ((gt l (a : Int)).Text, ((a + 1 : Nat) : Int), gt l (a : Int), F0)) ∨
    (∃ x y, cond_reader__name.f ⟨l, (a : Int), la, d, c⟩ = some (.inl (.pos x y 70)) ∧ weirref06_reader__name.f ⟨l, (a : Int), la, d, c, F0⟩ = some (⟨#[]⟩, (a : Int), la, ⟨x, y, 70⟩)) := by
  unfold cond_reader__name.f weirref06_reader__name.f
  dsimp only
  rw [next_p, bad_d]
  simp only [Option.bind_eq_bind, Option.bind_some, bne_self_eq_false, Bool.false_eq_true, if_false]
  by_cases h : a < l.length
  · have g : (0 : Int) ≤ (a : Int) ∧ (a : Int) < (l.length : Int) := by omega
    rw [if_pos h, if_neg (nt (decide_eq_false (show ¬ (a : Int) ≥ (l.length : Int) by omega))), if_pos g]
    simp only [Bool.not_true, Bool.false_eq_true, if_false, name_p, name_d, if_pos g, Option.bind_some, syntax_p hl, syntax_d hl, take_p hl h, take_d hl h]
    by_cases hk : ((gt l (a : Int)).Kind != 1) = true
    · right
      rw [if_pos hk, if_pos hk]
      exact ⟨_, _, rfl, rfl⟩
    · rw [if_neg hk, if_neg hk]
      cases isName (gt l (a : Int)).Text
      · right
        exact ⟨_, _, rfl, rfl⟩
      · left
        exact ⟨lt_M h (by have : (gt l (a : Int)).Kind = 1 := by simpa using hk
                          rw [this]; decide), rfl, rfl⟩
  · right
    rw [if_neg h, if_pos (decide_eq_true (show (a : Int) ≥ (l.length : Int) by omega))]
    simp only [Bool.not_false, if_true, syntax_p hl, syntax_d hl, Option.bind_some]
    exact ⟨_, _, rfl, rfl⟩
theorem name_bad (hl : l.length ≤ 2199023255552) (hF : F.Code ≠ 0) : weirref06_reader__name.f ⟨l, (a : Int), la, d, c, F⟩ = some (⟨#[]⟩, (a : Int), la, F) := by
  unfold weirref06_reader__name.f
  dsimp only
  rw [bad_d, (bne_iff_ne.2 hF : (F.Code != 0) = true)]
  simp only [Option.bind_eq_bind, Option.bind_some, if_true, syntax_bad hl hF]
theorem number_bad (hl : l.length ≤ 2199023255552) (hF : F.Code ≠ 0) : weirref06_reader__number.f ⟨l, (a : Int), la, d, c, F⟩ = some (0, (a : Int), la, F) := by
  unfold weirref06_reader__number.f
  dsimp only
  rw [bad_d, (bne_iff_ne.2 hF : (F.Code != 0) = true)]
  simp only [Option.bind_eq_bind, Option.bind_some, if_true, syntax_bad hl hF]
theorem node_bad (n : api_Node) (hF : F.Code ≠ 0) : weirref06_reader__node.f ⟨l, (a : Int), la, d, c, F⟩ n = some (0, c, F) := by
  unfold weirref06_reader__node.f
  dsimp only
  rw [bad_d, (bne_iff_ne.2 hF : (F.Code != 0) = true)]
  simp only [Option.bind_eq_bind, Option.bind_some, if_true]
theorem node_sim (n : api_Node) (hc : c.length ≤ 1024) :
    (∃ i c', c'.length ≤ 1024 ∧ cond_reader__node.f ⟨l, (a : Int), la, d, c⟩ n = some (.inr (i, c')) ∧ weirref06_reader__node.f ⟨l, (a : Int), la, d, c, F0⟩ n = some (i, c', F0)) ∨
    (∃ x y, cond_reader__node.f ⟨l, (a : Int), la, d, c⟩ n = some (.inl (.pos x y 1)) ∧ weirref06_reader__node.f ⟨l, (a : Int), la, d, c, F0⟩ n = some (0, c, ⟨x, y, 1⟩)) := by
  unfold cond_reader__node.f weirref06_reader__node.f
  dsimp only
  rw [bad_d, fail_p, fail_d]
  simp only [Option.bind_eq_bind, Option.bind_some, bne_self_eq_false, Bool.false_eq_true, if_false]
  by_cases h : c.length = 1024
  · right
    rw [if_pos (by rw [h]; rfl), if_pos (by rw [h]; rfl)]
    exact ⟨_, _, rfl, rfl⟩
  · left
    have e : ¬ (((c.length : Nat) : Int) == 1024) = true := by simp; omega
    have g : (c.length + ([n] : Nods).length) * 56 ≤ 140737488355328 := by simp only [List.length_cons, List.length_nil]; omega
    rw [if_neg e, if_neg e, if_pos g, if_pos g]
    exact ⟨_, _, by simp only [List.length_append, List.length_cons, List.length_nil]; omega, rfl, rfl⟩
theorem opens_sim (hl : l.length ≤ 2199023255552) (ha : a < l.length) (h0 : 0 ≤ d ∧ d ≤ 64) :
    (d < 64 ∧ cond_reader__opens.f ⟨l, (a : Int), la, d, c⟩ = some (.inr (((a + 1 : Nat) : Int), gt l (a : Int), d + 1)) ∧ weirref06_reader__opens.f ⟨l, (a : Int), la, d, c, F0⟩ = some (((a + 1 : Nat) : Int), gt l (a : Int), d + 1, F0)) ∨
    (∃ x y, cond_reader__opens.f ⟨l, (a : Int), la, d, c⟩ = some (.inl (.pos x y 2)) ∧ weirref06_reader__opens.f ⟨l, (a : Int), la, d, c, F0⟩ = some ((a : Int), la, d, ⟨x, y, 2⟩)) := by
  unfold cond_reader__opens.f weirref06_reader__opens.f
  dsimp only
  have g : (0 : Int) ≤ (a : Int) ∧ (a : Int) < (l.length : Int) := by omega
  have hw : IntKind.i64.wrap (d + 1) = d + 1 := wi64_id (by omega) (by omega)
  rw [if_pos g, if_pos g, fail_p, fail_d, hw, take_p hl ha, take_d hl ha]
  simp only [Option.bind_eq_bind, Option.bind_some]
  by_cases h : d = 64
  · right
    rw [if_pos (by rw [h]; rfl), if_pos (by rw [h]; rfl)]
    exact ⟨_, _, rfl, rfl⟩
  · left
    rw [if_neg (by simpa using h), if_neg (nt (decide_eq_false (by omega)))]
    exact ⟨by omega, rfl, rfl⟩
end
end Go.Proofs.YtboejepakdnbgaaGreatDoor.K.C
