/- Project; StateProjects. -/
import Derived.Test.YtjbhgahbaeoinaaDoorRD
set_option linter.unusedVariables false
set_option linter.unusedSimpArgs false
namespace Go.Proofs.YtjbhgahbaeoinaaDoor.K
open Go

abbrev PjR := Sum (List api_Final) (List api_Final × Int)
/-- One state, projected. -/
def pj (f : api_Final) : List Int → Nat → api_Final → Sum api_Final PjR
  | [], _, g => .inl g
  | k :: ks, i, g => if k < 0 then .inr (.inr ([], 4)) else if k ≥ f.N then .inr (.inr ([], 4)) else pj f ks (i + 1) ⟨g.N, vset g.V (i : Int) (vget f.V k)⟩
def pjs (keep : List Int) : List api_Final → List api_Final → PjR
  | [], acc => .inl acc
  | f :: l, acc => match pj f keep 0 ⟨(keep.length : Int), Vector.replicate 48 0⟩ with
    | .inl g => pjs keep l (acc ++ [g])
    | .inr e => e
theorem pj_inr (f : api_Final) : ∀ (ks : List Int) (i : Nat) (g : api_Final) (e : PjR), pj f ks i g = .inr e → e = .inr ([], 4)
  | [], i, g, e, h => by cases h
  | k :: ks, i, g, e, h => by
    simp only [pj] at h
    split at h
    · cases h; rfl
    · split at h
      · cases h; rfl
      · exact pj_inr f ks _ _ e h
theorem pjs_len (keep : List Int) : ∀ (l acc : List api_Final), match pjs keep l acc with | .inl r => r.length = acc.length + l.length | .inr e => e = ([], 4)
  | [], acc => by simp [pjs]
  | f :: l, acc => by
    simp only [pjs]
    cases h : pj f keep 0 ⟨(keep.length : Int), Vector.replicate 48 0⟩ with
    | inl g =>
      have := pjs_len keep l (acc ++ [g])
      simp only
      revert this
      cases pjs keep l (acc ++ [g]) with
      | inl r => simp only [List.length_append, List.length_cons, List.length_nil]; omega
      | inr e => exact id
    | inr e =>
      have := pj_inr f keep 0 _ e h
      subst this
      rfl
theorem s_l1 (l : List api_Final) (keep : List Int) (i : Nat) (hi : i < l.length) (hN : l[i].N ≤ 48) (hk : keep.length ≤ 48) : ∀ (n t : Nat) (g : api_Final), t + n = keep.length → state_Project.l1 l keep (i : Int) (t : Int) g = some (pj l[i] (keep.drop t) t g) := by
  intro n
  induction n with
  | zero =>
    intro t g ht
    rw [state_Project.l1, if_neg (nt (decide_eq_false (by omega))), List.drop_of_length_le (by omega)]; rfl
  | succ n ih =>
    intro t g ht
    have h1 : t < keep.length := by omega
    have q : (0 : Int) ≤ (t : Int) ∧ (t : Int) < (keep.length : Int) := by omega
    rw [state_Project.l1, if_pos (decide_eq_true (by omega)), if_pos q, gt_nat h1, gt_nat hi, List.drop_eq_getElem_cons h1, w1 (by omega)]
    simp only [pj]
    by_cases c1 : keep[t] < 0
    · rw [if_pos (decide_eq_true c1), if_pos c1]
    · rw [if_neg (nt (decide_eq_false c1)), if_neg c1]
      by_cases c2 : keep[t] ≥ l[i].N
      · rw [if_pos (decide_eq_true c2), if_pos c2]
      · rw [if_neg (nt (decide_eq_false c2)), if_neg c2, if_pos (by omega), if_pos (by omega)]
        exact ih (t + 1) _ (by omega)
theorem s_l0 (l : List api_Final) (keep : List Int) (hN : ∀ f ∈ l, f.N ≤ 48) (hk : keep.length ≤ 48) (hl : l.length ≤ 100000) : ∀ (n t : Nat) (acc : List api_Final), t + n = l.length → acc.length + n ≤ 100000 → state_Project.l0 l keep acc (t : Int) = some (pjs keep (l.drop t) acc) := by
  intro n
  induction n with
  | zero =>
    intro t acc ht _
    rw [state_Project.l0, if_neg (nt (decide_eq_false (by omega))), List.drop_of_length_le (by omega)]; rfl
  | succ n ih =>
    intro t acc ht ha
    have h1 : t < l.length := by omega
    have q : (0 : Int) ≤ (t : Int) ∧ (t : Int) < (l.length : Int) := by omega
    have hp := s_l1 l keep t h1 (hN _ (List.getElem_mem h1)) hk keep.length 0 ⟨(keep.length : Int), Vector.replicate 48 0⟩ (by omega)
    rw [List.drop_zero, show (((0 : Nat)) : Int) = (0 : Int) from rfl] at hp
    rw [state_Project.l0, if_pos (decide_eq_true (by omega)), if_pos q, hp, List.drop_eq_getElem_cons h1, w1 (by omega)]
    simp only [pjs, Option.bind_eq_bind, Option.bind_some]
    cases pj l[t] keep 0 ⟨(keep.length : Int), Vector.replicate 48 0⟩ with
    | inl g =>
      have q1 : (acc.length + ([g] : List api_Final).length) * 392 ≤ 140737488355328 := by simp only [List.length_cons, List.length_nil]; omega
      simp only
      rw [if_pos q1]
      exact ih (t + 1) _ (by omega) (by simp only [List.length_append, List.length_cons, List.length_nil]; omega)
    | inr e => rfl
theorem okV_N {f : api_Final} (h : okV f = true) : f.N ≤ 48 := by
  unfold okV at h
  simp only [Bool.and_eq_true, decide_eq_true_eq] at h
  exact h.1.2
end Go.Proofs.YtjbhgahbaeoinaaDoor.K
