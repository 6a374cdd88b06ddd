/- CondBack: a text of a condition is read back as the condition. -/
import Derived.Test.YtboejepakdnbgaaGreatDoorTH
set_option linter.unusedVariables false
set_option linter.unusedSectionVars false
set_option linter.unusedSimpArgs false
set_option maxRecDepth 100000
namespace Go.Proofs.YtboejepakdnbgaaGreatDoor.K.C
open Go

theorem wf64 {v : Int} (h : (Lit.int .i64 v).wf = true) : -9223372036854775808 ≤ v ∧ v ≤ 9223372036854775807 := by
  simp only [Lit.wf, Bool.and_eq_true, decide_eq_true_eq] at h
  exact ⟨h.1, h.2⟩
theorem vals_of : ∀ (t : Cd) (k : Nat), (∀ x ∈ t.nodes k, -9223372036854775808 ≤ x.Value ∧ x.Value ≤ 9223372036854775807) → t.vals
  | .tru, k, h => trivial
  | .eq r v, k, h => h _ (List.mem_singleton.2 rfl)
  | .not a, k, h => vals_of a k (fun x hx => h x (List.mem_append_left _ hx))
  | .and a b, k, h => ⟨vals_of a k (fun x hx => h x (List.mem_append_left _ hx)), vals_of b (k + a.n) (fun x hx => h x (List.mem_append_right _ (List.mem_append_left _ hx)))⟩
  | .or a b, k, h => ⟨vals_of a k (fun x hx => h x (List.mem_append_left _ hx)), vals_of b (k + a.n) (fun x hx => h x (List.mem_append_right _ (List.mem_append_left _ hx)))⟩
theorem num_p (x : Int) : weirlaw06_num.f x = some x := rfl
end Go.Proofs.YtboejepakdnbgaaGreatDoor.K.C
