/- What the program's Sort answers, as the document's does. -/
import Derived.Test.YtfiamlhhhkiiaaaFD
set_option linter.unusedVariables false
set_option linter.unusedSimpArgs false
namespace Go.Proofs.Ytfiamlhhhkiiaaa.K
open Go Go.Sort
theorem cmpOkA (l : List api_Final) : CmpOk (fun x y : {x // x ∈ l} => state_Compare.f x.1 y.1) (fun x y => cmpF x.1 y.1) := by
  refine ⟨⟨fun x => ?_, fun x y z h1 h2 => ?_, fun x y z h1 h2 => ?_⟩, fun x y h1 h2 => ?_, fun x y => compare_s _ _⟩
  · simp only [Go.Proofs.ltOf, cmpF_self]; decide
  · simp only [Go.Proofs.ltOf, decide_eq_true_eq] at *; exact cmpF_lt_trans h1 h2
  · simp only [Go.Proofs.ltOf, decide_eq_false_iff_not] at *
    intro h
    have := cmpF_swap x.1 y.1
    have := cmpF_swap y.1 z.1
    have h3 := cmpF_le_trans (a := z.1) (b := y.1) (c := x.1) (by omega) (by omega)
    have := cmpF_swap x.1 z.1
    omega
  · simp only [Go.Proofs.ltOf, decide_eq_false_iff_not] at *
    have := cmpF_swap x.1 y.1
    exact Subtype.ext (cmpF_zero.1 (by omega))
theorem sort_r (l : List api_Final) : ∃ ys, sortR state_Compare.f l = some ys ∧ Weak ys ∧ (∀ z, z ∈ ys ↔ z ∈ l) ∧ ys.length = l.length := by
  unfold sortR
  rw [sortO_eq (cmpOkA l)]
  have hperm := List.mergeSort_perm l.attach (fun x y => !(Go.Proofs.ltOf (fun x y : {x // x ∈ l} => cmpF x.1 y.1) y x))
  have hlt : ∀ x y : {x // x ∈ l}, (!(Go.Proofs.ltOf (fun x y : {x // x ∈ l} => cmpF x.1 y.1) y x)) = true ↔ cmpF x.1 y.1 ≤ 0 := by
    intro x y
    simp only [Go.Proofs.ltOf, Bool.not_eq_true', decide_eq_false_iff_not]
    have := cmpF_swap x.1 y.1
    constructor <;> intro h <;> omega
  have hpw := List.pairwise_mergeSort (le := fun x y => !(Go.Proofs.ltOf (fun x y : {x // x ∈ l} => cmpF x.1 y.1) y x)) (fun a b c h1 h2 => by
    rw [hlt] at *
    exact cmpF_le_trans h1 h2) (fun a b => by
    rw [Bool.or_eq_true, hlt, hlt]
    have := cmpF_swap a.1 b.1
    omega) l.attach
  refine ⟨_, rfl, ?_, fun z => ?_, by rw [List.length_map, List.length_mergeSort, List.length_attach]⟩
  · refine List.pairwise_map.2 (hpw.imp (fun {a b} h => ?_))
    exact (hlt a b).1 h
  · rw [List.mem_map]
    constructor
    · rintro ⟨x, hx, rfl⟩; exact x.2
    · intro hz; exact ⟨⟨z, hz⟩, (hperm.mem_iff).2 (List.mem_attach _ _), rfl⟩
theorem sort_l0 (l : List api_Final) (hl : l.length ≤ 60000) : ∀ (n t : Nat) (out : List api_Final), t + n = l.length → out.length + n ≤ 100000 → state_Sort.l0 l out (t : Int) = some (out ++ (l.drop t).filter okV) := by
  intro n
  induction n with
  | zero =>
    intro t out ht ho
    rw [state_Sort.l0, if_neg (nt (decide_eq_false (by omega))), List.drop_eq_nil_of_le (by omega)]; simp
  | succ n ih =>
    intro t out ht ho
    have h1 : t < l.length := by omega
    have g : (0 : Int) ≤ (t : Int) ∧ (t : Int) < (l.length : Int) := by omega
    rw [state_Sort.l0, if_pos (decide_eq_true (by omega)), if_pos g, gt_nat h1, check_s, w1 (by omega)]
    simp only [Option.bind_eq_bind, Option.bind_some]
    have q1 : (out.length + ([l[t]] : List api_Final).length) * 392 ≤ 140737488355328 := by simp only [List.length_cons, List.length_nil]; omega
    rw [List.drop_eq_getElem_cons h1]
    by_cases hk : okV l[t] = true
    · rw [if_pos (by unfold chk; rw [if_pos hk]; rfl), if_pos q1, ih (t + 1) _ (by omega) (by simp only [List.length_append, List.length_cons, List.length_nil]; omega), List.filter_cons_of_pos hk, List.append_assoc]; rfl
    · rw [if_neg (by unfold chk; rw [if_neg hk]; decide), List.filter_cons_of_neg hk]
      exact ih (t + 1) out (by omega) (by omega)
theorem sort_s (l : List api_Final) (hl : l.length ≤ 60000) : ∃ s, state_Sort.f l = some s ∧ Strict s ∧ (∀ z, z ∈ s ↔ z ∈ l ∧ okV z = true) ∧ s.length ≤ l.length := by
  unfold state_Sort.f
  have h0 := sort_l0 l hl l.length 0 [] (by omega) (by simp only [List.length_nil]; omega)
  rw [List.drop_zero, List.nil_append] at h0
  have hfl : (l.filter okV).length ≤ l.length := List.length_filter_le _ _
  rw [show ((0 : Int)) = ((0 : Nat) : Int) from rfl, h0]
  simp only [Option.bind_eq_bind, Option.bind_some]
  have g1 : (l.filter okV).length < 4611686018427387904 := by omega
  obtain ⟨ys, y1, y2, y3, y4⟩ := sort_r (l.filter okV)
  rw [if_pos g1, y1]
  simp only [Option.bind_some]
  obtain ⟨s, h1, h2, h3, h4⟩ := compact ys y2 (by omega)
  rw [h1]
  refine ⟨s, rfl, h2, fun z => ?_, by omega⟩
  rw [h3, y3, List.mem_filter]
theorem sorts (l : List api_Final) (hl : l.length ≤ 60000) : ∃ s, state_Sort.f l = some s ∧ weirref10_Sort.f l = some s ∧ s.length ≤ l.length := by
  obtain ⟨s, a1, a2, a3, a4⟩ := sort_s l hl
  obtain ⟨t, b1, b2, b3, b4⟩ := refsort l hl
  have e : s = t := strict_unique a2 b2 (fun z => (a3 z).trans (b3 z).symm)
  subst e
  exact ⟨s, a1, b1, a4⟩
end Go.Proofs.Ytfiamlhhhkiiaaa.K
