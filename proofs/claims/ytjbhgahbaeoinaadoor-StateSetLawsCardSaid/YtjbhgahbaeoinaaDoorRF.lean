/- Find in a set; the document's Two; StateSets. -/
import Derived.Test.YtjbhgahbaeoinaaDoorRE
set_option linter.unusedVariables false
set_option linter.unusedSimpArgs false
namespace Go.Proofs.YtjbhgahbaeoinaaDoor.K
open Go

/-! ### Find -/
structure FindAt (s : List api_Final) (f : api_Final) (n : Nat) : Prop where
  le : n ≤ s.length
  lo : ∀ j (h : j < s.length), j < n → cmpF s[j] f < 0
  hi : ∀ h : n < s.length, 0 ≤ cmpF s[n] f
theorem FindAt.unique {s : List api_Final} {f : api_Final} {n m : Nat} (h : FindAt s f n) (k : FindAt s f m) : n = m := by
  rcases Nat.lt_trichotomy n m with c | c | c
  · have := k.lo n (by have := k.le; omega) c
    have := h.hi (by have := k.le; omega); omega
  · exact c
  · have := h.lo m (by have := h.le; omega) c
    have := k.hi (by have := h.le; omega); omega
theorem FindAt.mem {s : List api_Final} {f : api_Final} {n : Nat} (h : FindAt s f n) (hs : Strict s) : f ∈ s ↔ ∃ hn : n < s.length, s[n] = f := by
  constructor
  · intro hf
    obtain ⟨m, hm, rfl⟩ := List.mem_iff_getElem.1 hf
    have h1 : n ≤ m := by
      rcases Nat.lt_or_ge m n with c | c
      · have := h.lo m hm c; rw [cmpF_self] at this; omega
      · exact c
    have hn : n < s.length := by omega
    refine ⟨hn, ?_⟩
    by_cases e : n = m
    · subst e; rfl
    · have h2 := pw_get hs (show n < m by omega) hm
      have h3 := h.hi hn
      omega
  · rintro ⟨hn, rfl⟩
    exact List.getElem_mem _
theorem mid_eq (lo hi : Nat) (h : lo + hi ≤ 1000000) : IntKind.i64.wrap (shrI .u64 (IntKind.u64.wrap (IntKind.i64.wrap ((lo : Int) + (hi : Int)))) 1) = (((lo + hi) / 2 : Nat) : Int) := by
  rw [wi64_id (n := (lo : Int) + (hi : Int)) (by omega) (by omega), wu64_id (by omega) (by omega), shr1, Int.fdiv_eq_ediv_of_nonneg _ (by omega), wi64_id (by omega) (by omega)]
  omega
theorem sfind_l0 (s : List api_Final) (f : api_Final) (hs : Strict s) (hl : s.length ≤ 100000) : ∀ (n lo hi : Nat), hi - lo ≤ n → lo ≤ hi → hi ≤ s.length → (∀ j (h : j < s.length), j < lo → cmpF s[j] f < 0) → (∀ j (h : j < s.length), hi ≤ j → 0 ≤ cmpF s[j] f) →
    ∃ m : Nat, sort_Search.l0 s f (lo : Int) (hi : Int) = some (m : Int) ∧ FindAt s f m := by
  intro n
  induction n with
  | zero =>
    intro lo hi h1 h2 h3 h4 h5
    have : hi = lo := by omega
    subst this
    exact ⟨hi, by rw [sort_Search.l0, if_neg (nt (decide_eq_false (by omega)))], h3, h4, fun h => h5 _ h (Nat.le_refl _)⟩
  | succ n ih =>
    intro lo hi h1 h2 h3 h4 h5
    by_cases c : lo < hi
    · have hm : (lo + hi) / 2 < s.length := by omega
      have g : (0 : Int) ≤ (((lo + hi) / 2 : Nat) : Int) ∧ (((lo + hi) / 2 : Nat) : Int) < (s.length : Int) := by omega
      rw [sort_Search.l0, if_pos (decide_eq_true (by omega)), mid_eq lo hi (by omega), w1 (by omega)]
      unfold state_Find_1.f
      rw [if_pos g, gt_nat hm, compare_s]
      simp only [Option.bind_eq_bind, Option.bind_some]
      by_cases d : cmpF (s[(lo + hi) / 2]'hm) f ≥ 0
      · rw [if_pos (decide_eq_true d)]
        simp only [Option.bind_some, Bool.not_true, Bool.false_eq_true, if_false]
        refine ih lo ((lo + hi) / 2) (by omega) (by omega) (by omega) h4 (fun j h hj => ?_)
        by_cases e : j = (lo + hi) / 2
        · subst e; exact d
        · have h6 := pw_get hs (show (lo + hi) / 2 < j by omega) h
          by_cases h7 : cmpF s[j] f < 0
          · have := cmpF_lt_trans h6 h7; omega
          · omega
      · rw [if_neg (nt (decide_eq_false d))]
        simp only [Option.bind_some, Bool.not_false, if_true]
        refine ih ((lo + hi) / 2 + 1) hi (by omega) (by omega) h3 (fun j h hj => ?_) h5
        by_cases e : j = (lo + hi) / 2
        · subst e; omega
        · exact cmpF_lt_trans (pw_get hs (show j < (lo + hi) / 2 by omega) hm) (by omega)
    · have : hi = lo := by omega
      subst this
      exact ⟨hi, by rw [sort_Search.l0, if_neg (nt (decide_eq_false (by omega)))], h3, h4, fun h => h5 _ h (Nat.le_refl _)⟩
theorem sfind (s : List api_Final) (f : api_Final) (hs : Strict s) (hl : s.length ≤ 100000) : ∃ n, FindAt s f n ∧ state_Find.f s f = some ((n : Int), decide (f ∈ s)) := by
  obtain ⟨n, h1, h2⟩ := sfind_l0 s f hs hl s.length 0 s.length (by omega) (by omega) (by omega) (fun j h hj => by omega) (fun j h hj => by omega)
  refine ⟨n, h2, ?_⟩
  have hm := h2.mem hs
  have hle := h2.le
  unfold state_Find.f sort_Search.f
  rw [show ((0 : Int)) = ((0 : Nat) : Int) from rfl, h1]
  simp only [Option.bind_eq_bind, Option.bind_some]
  by_cases hn : n < s.length
  · have g : (((0 : Nat) : Int)) ≤ (n : Int) ∧ (n : Int) < (s.length : Int) := by omega
    rw [if_pos (decide_eq_true (by omega)), if_pos g, gt_nat hn]
    by_cases e : s[n] = f
    · rw [if_pos (decide_eq_true e), decide_eq_true (hm.2 ⟨hn, e⟩)]
    · rw [if_neg (nt (decide_eq_false e)), decide_eq_false (fun h => e (hm.1 h).2)]
  · rw [if_neg (nt (decide_eq_false (by omega))), decide_eq_false (fun h => hn (hm.1 h).1)]
/-! ### Two -/
set_option maxRecDepth 100000 in
set_option maxRecDepth 100000 in
theorem mrg_len (p q r : Bool) : ∀ a b : List api_Final, (mrg p q r a b).length ≤ a.length + b.length
  | [], [] => by rw [mrg]; simp
  | [], y :: b => by
    have := mrg_len p q r [] b
    rw [mrg]; split <;> simp only [List.length_cons, List.length_nil] at * <;> omega
  | x :: a, [] => by
    have := mrg_len p q r a []
    rw [mrg]; split <;> simp only [List.length_cons, List.length_nil] at * <;> omega
  | x :: a, y :: b => by
    have h1 := mrg_len p q r a (y :: b)
    have h2 := mrg_len p q r a b
    have h3 := mrg_len p q r (x :: a) b
    rw [mrg]
    split
    · split <;> simp only [List.length_cons] at * <;> omega
    · split
      · split <;> simp only [List.length_cons] at * <;> omega
      · split <;> simp only [List.length_cons] at * <;> omega
termination_by a b => a.length + b.length
end Go.Proofs.YtjbhgahbaeoinaaDoor.K
