/- CondBack: a text of a condition is read back as the condition. -/
import Derived.Test.YtboejepakdnbgaaGreatDoorTF
set_option linter.unusedVariables false
set_option linter.unusedSectionVars false
set_option linter.unusedSimpArgs false
set_option maxRecDepth 100000
namespace Go.Proofs.YtboejepakdnbgaaGreatDoor.K.C
open Go

theorem same_l0 (a b : List api_Node) (hl : a.length = b.length) (hs : a.length ≤ 4611686018427387904) : ∀ (n t : Nat), t + n = a.length → weirlaw06_sameCond.l0 a b (t : Int) = some (if a.drop t = b.drop t then .inl () else .inr false) := by
  intro n
  induction n with
  | zero =>
    intro t ht
    have e1 : decide ((t : Int) < (a.length : Int)) = false := decide_eq_false (by omega)
    rw [weirlaw06_sameCond.l0, if_neg (nt e1), List.drop_of_length_le (by omega), List.drop_of_length_le (by omega), if_pos rfl]
  | succ n ih =>
    intro t ht
    have h1 : t < a.length := by omega
    have h2 : t < b.length := by omega
    have e1 : decide ((t : Int) < (a.length : Int)) = true := decide_eq_true (by omega)
    have g1 : (0 : Int) ≤ (t : Int) ∧ (t : Int) < (a.length : Int) := by omega
    have g2 : (0 : Int) ≤ (t : Int) ∧ (t : Int) < (b.length : Int) := by omega
    rw [weirlaw06_sameCond.l0, if_pos e1, if_pos g1, if_pos g2, gt_nat h1, gt_nat h2, List.drop_eq_getElem_cons h1, List.drop_eq_getElem_cons h2]
    by_cases he : a[t] = b[t]
    · rw [if_neg (by simp [he]), w1 (by omega), ih (t + 1) (by omega)]
      simp only [List.cons.injEq, he, true_and]
    · rw [if_pos (by simpa using he), if_neg (fun h => he (List.cons.inj h).1)]
theorem same (a b : List api_Node) (hs : a.length ≤ 4611686018427387904) : weirlaw06_sameCond.f a b = some (decide (a = b)) := by
  unfold weirlaw06_sameCond.f
  by_cases hl : a.length = b.length
  · have := same_l0 a b hl hs a.length 0 (by omega)
    rw [if_neg (by simp [hl]), show ((0 : Int)) = ((0 : Nat) : Int) from rfl, this, List.drop_zero, List.drop_zero]
    by_cases h : a = b <;> simp [h]
  · rw [if_pos (by simp only [bne_iff_ne, ne_eq]; omega)]
    have : a ≠ b := fun h => hl (by rw [h])
    simp [this]
theorem num_p (x : Int) : weirlaw06_num.f x = some x := rfl
theorem same_T {t : Cd} (h : t.n ≤ 1024) : weirlaw06_sameCond.f (t.nodes 0) (t.nodes 0) = some true := by
  rw [same _ _ (by rw [t.len]; omega), decide_eq_true rfl]
end Go.Proofs.YtboejepakdnbgaaGreatDoor.K.C
