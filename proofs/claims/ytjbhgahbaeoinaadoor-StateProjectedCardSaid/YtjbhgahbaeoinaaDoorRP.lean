/- What the program's Project answers. -/
import Derived.Test.YtjbhgahbaeoinaaDoorRG
set_option linter.unusedVariables false
set_option linter.unusedSimpArgs false
namespace Go.Proofs.YtjbhgahbaeoinaaDoor.K
open Go

theorem project_ok (l : List api_Final) (keep : List Int) (hl : l.length ≤ 10000) (hr : rises l = true) (hk : keep.length ≤ 48) :
    (∃ r s, pjs keep l [] = .inl r ∧ r.length = l.length ∧ state_Project.f l keep = some (s, 0) ∧ Strict s ∧ (∀ z, z ∈ s ↔ z ∈ r ∧ okV z = true) ∧ s.length ≤ l.length) ∨ (pjs keep l [] = .inr ([], 4) ∧ state_Project.f l keep = some ([], 4)) := by
  unfold state_Project.f
  rw [rises_s l (by omega), hr]
  simp only [Option.bind_eq_bind, Option.bind_some, Bool.not_true, Bool.false_eq_true, if_false]
  rw [if_neg (nt (decide_eq_false (by omega)))]
  have hN : ∀ f ∈ l, f.N ≤ 48 := fun f hf => okV_N ((rises_iff.1 hr).1 f hf)
  have h1 := s_l0 l keep hN (by omega) (by omega) l.length 0 [] (by omega) (by simp only [List.length_nil]; omega)
  rw [List.drop_zero, show (((0 : Nat)) : Int) = (0 : Int) from rfl] at h1
  rw [h1]
  have h3 := pjs_len keep l []
  revert h3
  cases pjs keep l [] with
  | inl r =>
    intro h3
    simp only [List.length_nil, Nat.zero_add] at h3
    obtain ⟨s, s1, s2, s3, s4⟩ := sort_s r (by omega)
    exact .inl ⟨r, s, rfl, h3, by simp [s1], s2, s3, by omega⟩
  | inr e =>
    intro h3
    simp only at h3
    subst h3
    exact .inr ⟨rfl, rfl⟩
theorem project_long (l : List api_Final) (keep : List Int) (hl : l.length ≤ 10000) (hr : rises l = true) (hk : 48 < keep.length) : state_Project.f l keep = some ([], 1) := by
  unfold state_Project.f
  rw [rises_s l (by omega), hr]
  simp only [Option.bind_eq_bind, Option.bind_some, Bool.not_true, Bool.false_eq_true, if_false]
  rw [if_pos (decide_eq_true (by omega))]
end Go.Proofs.YtjbhgahbaeoinaaDoor.K
