/- One order: StateTotal. -/
import Derived.Test.YtjbhgahbaeoinaaDoorRW
set_option linter.unusedVariables false
set_option linter.unusedSimpArgs false
namespace Go.Proofs.YtjbhgahbaeoinaaDoor.K
open Go

theorem total_law (a b c : api_Final) (ha : ok_api_Final a) (hb : ok_api_Final b) (hc : ok_api_Final c) : weirlaw10_StateTotal.f a b c = some true := by
  unfold weirlaw10_StateTotal.f
  rw [works_true]
  simp only [Option.bind_eq_bind, Option.bind_some, Bool.not_true, Bool.false_eq_true, if_false, compare_s]
  have r1 := cmpF_range a b
  have r2 := cmpF_range b c
  have r3 := cmpF_range a c
  have s1 := cmpF_swap a b
  have s2 := cmpF_swap b c
  have s3 := cmpF_swap a c
  have z1 : (decide (a = b)) = decide (cmpF a b = 0) := by
    by_cases h : a = b
    · rw [decide_eq_true h, decide_eq_true (cmpF_zero.2 h)]
    · rw [decide_eq_false h, decide_eq_false (fun e => h (cmpF_zero.1 e))]
  have t1 : cmpF a b ≤ 0 → cmpF b c ≤ 0 → cmpF a c ≤ 0 := cmpF_le_trans
  have t2 : cmpF c b ≤ 0 → cmpF b a ≤ 0 → cmpF c a ≤ 0 := cmpF_le_trans
  rw [wi64_id (by omega) (by omega), z1]
  generalize cmpF a b = x at *
  generalize cmpF b c = y at *
  generalize cmpF a c = z at *
  generalize cmpF b a = x' at *
  generalize cmpF c b = y' at *
  generalize cmpF c a = z' at *
  subst s1; subst s2; subst s3
  rcases r1 with rfl | rfl | rfl <;> rcases r2 with rfl | rfl | rfl <;> rcases r3 with rfl | rfl | rfl <;> first | rfl | (exfalso; omega)
end Go.Proofs.YtjbhgahbaeoinaaDoor.K
