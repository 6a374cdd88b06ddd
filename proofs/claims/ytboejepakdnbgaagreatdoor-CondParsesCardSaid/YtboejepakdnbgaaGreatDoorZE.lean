/- CondTakes: whatever the tokens and the place, Take and the document agree. -/
import Derived.Test.YtboejepakdnbgaaGreatDoorZD
set_option linter.unusedVariables false
set_option linter.unusedSimpArgs false
set_option maxRecDepth 100000
namespace Go.Proofs.YtboejepakdnbgaaGreatDoor.K.C
open Go

theorem same_l0 (a b : List api_Node) (hl : a.length = b.length) (hs : a.length ≤ 4611686018427387904) : ∀ (n t : Nat), t + n = a.length → weirlaw06_sameCond.l0 a b (t : Int) = some (if a.drop t = b.drop t then .inl () else .inr false) := by
  intro n
  induction n with
  | zero =>
    intro t ht
    have e1 : decide ((t : Int) < (a.length : Int)) = false := decide_eq_false (by omega)
    rw [weirlaw06_sameCond.l0, if_neg (nt e1), List.drop_of_length_le (by omega), List.drop_of_length_le (by omega), if_pos rfl]
  | succ n ih =>
    intro t ht
    have h1 : t < a.length := by omega
    have h2 : t < b.length := by omega
    have e1 : decide ((t : Int) < (a.length : Int)) = true := decide_eq_true (by omega)
    have g1 : (0 : Int) ≤ (t : Int) ∧ (t : Int) < (a.length : Int) := by omega
    have g2 : (0 : Int) ≤ (t : Int) ∧ (t : Int) < (b.length : Int) := by omega
    rw [weirlaw06_sameCond.l0, if_pos e1, if_pos g1, if_pos g2, gt_nat h1, gt_nat h2, List.drop_eq_getElem_cons h1, List.drop_eq_getElem_cons h2]
    by_cases he : a[t] = b[t]
    · rw [if_neg (by simp [he]), w1 (by omega), ih (t + 1) (by omega)]
      simp only [List.cons.injEq, he, true_and]
    · rw [if_pos (by simpa using he), if_neg (fun h => he (List.cons.inj h).1)]
theorem same (a b : List api_Node) (hs : a.length ≤ 4611686018427387904) : weirlaw06_sameCond.f a b = some (decide (a = b)) := by
  unfold weirlaw06_sameCond.f
  by_cases hl : a.length = b.length
  · have := same_l0 a b hl hs a.length 0 (by omega)
    rw [if_neg (by simp [hl]), show ((0 : Int)) = ((0 : Nat) : Int) from rfl, this, List.drop_zero, List.drop_zero]
    by_cases h : a = b <;> simp [h]
  · rw [if_pos (by simp only [bne_iff_ne, ne_eq]; omega)]
    have : a ≠ b := fun h => hl (by rw [h])
    simp [this]
theorem spoil_l1 : ∀ (n t : Nat) (l : List api_Node), t + n = 20 → l.length + n ≤ 1000000 → weirlaw06_spoil.l1 l (t : Int) = some () := by
  intro n
  induction n with
  | zero =>
    intro t l ht _
    rw [weirlaw06_spoil.l1, if_neg (nt (decide_eq_false (by omega)))]
  | succ n ih =>
    intro t l ht hl
    have q1 : (l.length + ([(⟨98, 0, 0, (⟨0, (⟨#[]⟩ : ByteArray)⟩ : api_Ref), 0⟩ : api_Node)] : List api_Node).length) * 56 ≤ 140737488355328 := by simp only [List.length_cons, List.length_nil]; omega
    rw [weirlaw06_spoil.l1, if_pos (decide_eq_true (by omega)), if_pos q1, w1 (by omega)]
    exact ih (t + 1) _ (by omega) (by simp only [List.length_append, List.length_cons, List.length_nil]; omega)
theorem spoil_l0 : ∀ (n t : Nat) (l : List api_Node), t + n = l.length → l.length ≤ 1000 * 1000 → ∃ l', weirlaw06_spoil.l0 (t : Int) l = some l' ∧ l'.length = l.length := by
  intro n
  induction n with
  | zero =>
    intro t l ht _
    exact ⟨l, by rw [weirlaw06_spoil.l0, if_neg (nt (decide_eq_false (by omega)))], rfl⟩
  | succ n ih =>
    intro t l ht hl
    have g1 : (0 : Int) ≤ (t : Int) ∧ (t : Int) < (l.length : Int) := by omega
    rw [weirlaw06_spoil.l0, if_pos (decide_eq_true (by omega)), if_pos g1, w1 (by omega)]
    obtain ⟨l', h1, h2⟩ := ih (t + 1) (setl l (t : Int) (⟨99, 0, 0, (⟨0, (⟨#[]⟩ : ByteArray)⟩ : api_Ref), 0⟩ : api_Node)) (by rw [setl_len]; omega) (by rw [setl_len]; omega)
    exact ⟨l', h1, by rw [h2, setl_len]⟩
theorem spoil (l : List api_Node) (hl : l.length ≤ 100000) : weirlaw06_spoil.f l = some () := by
  unfold weirlaw06_spoil.f
  obtain ⟨l', h1, h2⟩ := spoil_l0 l.length 0 l (by omega) (by omega)
  rw [show ((0 : Int)) = ((0 : Nat) : Int) from rfl, h1]
  simp only [Option.bind_eq_bind, Option.bind_some]
  rw [show (((0 : Nat) : Int)) = ((0 : Nat) : Int) from rfl, spoil_l1 20 0 l' (by omega) (by omega)]; rfl
theorem take_both (l : Toks) (hl : l.length ≤ 2199023255552) :
    (∃ c, ∃ k : Nat, cond_Take.f l 0 = some (c, (k : Int), .nil) ∧ weirref06_Take.f l 0 = some (c, (k : Int), F0) ∧ c.length ≤ 1024 ∧ k ≤ M l) ∨
    (∃ e F, cond_Take.f l 0 = some ([], 0, e) ∧ weirref06_Take.f l 0 = some ([], 0, F) ∧ weirlaw06_fault.f e = some F ∧ F.Code ≠ 0 ∧ (!(PErr.isNil e)) = true) := by
  unfold cond_Take.f weirref06_Take.f
  have h2 : decide ((0 : Int) > (l.length : Int)) = false := decide_eq_false (by omega)
  rw [if_neg (by decide), if_neg (nt h2), if_neg (by decide), if_neg (nt h2)]
  rcases cond_sim hl 0 T0 0 [] (by omega) (by omega) (by omega) (by omega) (by simp) with ⟨i, la2, c2, a2, p1, q1, g1, g2, g3⟩ | ⟨x, y, z, hz, p1, i, la2, d2, c2, a2, g2, q1⟩
  · left
    rw [show (((0 : Nat)) : Int) = 0 from rfl] at p1 q1
    rw [p1, q1]
    simp only [Option.bind_eq_bind, Option.bind_some, bad_d]
    exact ⟨c2, a2, rfl, rfl, g3, g2⟩
  · right
    rw [show (((0 : Nat)) : Int) = 0 from rfl] at p1 q1
    rw [p1, q1]
    simp only [Option.bind_eq_bind, Option.bind_some, bad_d]
    rw [if_pos (bne_iff_ne.2 hz)]
    exact ⟨_, _, rfl, rfl, rfl, hz, rfl⟩
end Go.Proofs.YtboejepakdnbgaaGreatDoor.K.C
