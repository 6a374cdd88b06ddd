/- Find in a set; the document's Two; StateSets. -/
import Derived.Test.YteppciglfdiljaaPE
set_option linter.unusedVariables false
set_option linter.unusedSimpArgs false
namespace Go.Proofs.Yteppciglfdiljaa.K
open Go

/-! ### Find -/
structure FindAt (s : List api_Final) (f : api_Final) (n : Nat) : Prop where
  le : n ≤ s.length
  lo : ∀ j (h : j < s.length), j < n → cmpF s[j] f < 0
  hi : ∀ h : n < s.length, 0 ≤ cmpF s[n] f
theorem FindAt.unique {s : List api_Final} {f : api_Final} {n m : Nat} (h : FindAt s f n) (k : FindAt s f m) : n = m := by
  rcases Nat.lt_trichotomy n m with c | c | c
  · have := k.lo n (by have := k.le; omega) c
    have := h.hi (by have := k.le; omega); omega
  · exact c
  · have := h.lo m (by have := h.le; omega) c
    have := k.hi (by have := h.le; omega); omega
theorem FindAt.mem {s : List api_Final} {f : api_Final} {n : Nat} (h : FindAt s f n) (hs : Strict s) : f ∈ s ↔ ∃ hn : n < s.length, s[n] = f := by
  constructor
  · intro hf
    obtain ⟨m, hm, rfl⟩ := List.mem_iff_getElem.1 hf
    have h1 : n ≤ m := by
      rcases Nat.lt_or_ge m n with c | c
      · have := h.lo m hm c; rw [cmpF_self] at this; omega
      · exact c
    have hn : n < s.length := by omega
    refine ⟨hn, ?_⟩
    by_cases e : n = m
    · subst e; rfl
    · have h2 := pw_get hs (show n < m by omega) hm
      have h3 := h.hi hn
      omega
  · rintro ⟨hn, rfl⟩
    exact List.getElem_mem _
theorem rfind_l0 (s : List api_Final) (f : api_Final) (hl : s.length ≤ 100000) : ∀ (n t : Nat), t + n = s.length → (∀ j (h : j < s.length), j < t → cmpF s[j] f < 0) → ∃ m : Nat, weirref10_Find.l0 s f (t : Int) = some (m : Int) ∧ FindAt s f m := by
  intro n
  induction n with
  | zero =>
    intro t ht hlo
    exact ⟨t, by rw [weirref10_Find.l0, if_neg (nt (decide_eq_false (by omega)))], by omega, fun j h hj => hlo j h hj, fun h => by omega⟩
  | succ n ih =>
    intro t ht hlo
    have h1 : t < s.length := by omega
    have g : (0 : Int) ≤ (t : Int) ∧ (t : Int) < (s.length : Int) := by omega
    rw [weirref10_Find.l0, if_pos (decide_eq_true (by omega)), if_pos g, gt_nat h1, compare_r, w1 (by omega)]
    simp only [Option.bind_eq_bind, Option.bind_some]
    by_cases c : cmpF s[t] f < 0
    · rw [if_pos (decide_eq_true c)]
      refine ih (t + 1) (by omega) (fun j h hj => ?_)
      by_cases e : j = t
      · subst e; exact c
      · exact hlo j h (by omega)
    · rw [if_neg (nt (decide_eq_false c))]
      exact ⟨t, rfl, by omega, hlo, fun _ => by omega⟩
theorem rfind (s : List api_Final) (f : api_Final) (hs : Strict s) (hl : s.length ≤ 100000) : ∃ n, FindAt s f n ∧ weirref10_Find.f s f = some ((n : Int), decide (f ∈ s)) := by
  obtain ⟨n, h1, h2⟩ := rfind_l0 s f hl s.length 0 (by omega) (fun j h hj => by omega)
  refine ⟨n, h2, ?_⟩
  have hm := h2.mem hs
  have hle := h2.le
  unfold weirref10_Find.f
  rw [show ((0 : Int)) = ((0 : Nat) : Int) from rfl, h1]
  simp only [Option.bind_eq_bind, Option.bind_some]
  by_cases hn : n < s.length
  · have g : (((0 : Nat) : Int)) ≤ (n : Int) ∧ (n : Int) < (s.length : Int) := by omega
    rw [if_pos (decide_eq_true (by omega)), if_pos g, gt_nat hn]
    by_cases e : s[n] = f
    · rw [if_pos (decide_eq_true e), decide_eq_true (hm.2 ⟨hn, e⟩)]
    · rw [if_neg (nt (decide_eq_false e)), decide_eq_false (fun h => e (hm.1 h).2)]
  · rw [if_neg (nt (decide_eq_false (by omega))), decide_eq_false (fun h => hn (hm.1 h).1)]
theorem mid_eq (lo hi : Nat) (h : lo + hi ≤ 1000000) : IntKind.i64.wrap (shrI .u64 (IntKind.u64.wrap (IntKind.i64.wrap ((lo : Int) + (hi : Int)))) 1) = (((lo + hi) / 2 : Nat) : Int) := by
  rw [wi64_id (n := (lo : Int) + (hi : Int)) (by omega) (by omega), wu64_id (by omega) (by omega), shr1, Int.fdiv_eq_ediv_of_nonneg _ (by omega), wi64_id (by omega) (by omega)]
  omega
theorem sfind_l0 (s : List api_Final) (f : api_Final) (hs : Strict s) (hl : s.length ≤ 100000) : ∀ (n lo hi : Nat), hi - lo ≤ n → lo ≤ hi → hi ≤ s.length → (∀ j (h : j < s.length), j < lo → cmpF s[j] f < 0) → (∀ j (h : j < s.length), hi ≤ j → 0 ≤ cmpF s[j] f) →
    ∃ m : Nat, sort_Search.l0 s f (lo : Int) (hi : Int) = some (m : Int) ∧ FindAt s f m := by
  intro n
  induction n with
  | zero =>
    intro lo hi h1 h2 h3 h4 h5
    have : hi = lo := by omega
    subst this
    exact ⟨hi, by rw [sort_Search.l0, if_neg (nt (decide_eq_false (by omega)))], h3, h4, fun h => h5 _ h (Nat.le_refl _)⟩
  | succ n ih =>
    intro lo hi h1 h2 h3 h4 h5
    by_cases c : lo < hi
    · have hm : (lo + hi) / 2 < s.length := by omega
      have g : (0 : Int) ≤ (((lo + hi) / 2 : Nat) : Int) ∧ (((lo + hi) / 2 : Nat) : Int) < (s.length : Int) := by omega
      rw [sort_Search.l0, if_pos (decide_eq_true (by omega)), mid_eq lo hi (by omega), w1 (by omega)]
      unfold state_Find_1.f
      rw [if_pos g, gt_nat hm, compare_s]
      simp only [Option.bind_eq_bind, Option.bind_some]
      by_cases d : cmpF (s[(lo + hi) / 2]'hm) f ≥ 0
      · rw [if_pos (decide_eq_true d)]
        simp only [Option.bind_some, Bool.not_true, Bool.false_eq_true, if_false]
        refine ih lo ((lo + hi) / 2) (by omega) (by omega) (by omega) h4 (fun j h hj => ?_)
        by_cases e : j = (lo + hi) / 2
        · subst e; exact d
        · have h6 := pw_get hs (show (lo + hi) / 2 < j by omega) h
          by_cases h7 : cmpF s[j] f < 0
          · have := cmpF_lt_trans h6 h7; omega
          · omega
      · rw [if_neg (nt (decide_eq_false d))]
        simp only [Option.bind_some, Bool.not_false, if_true]
        refine ih ((lo + hi) / 2 + 1) hi (by omega) (by omega) h3 (fun j h hj => ?_) h5
        by_cases e : j = (lo + hi) / 2
        · subst e; omega
        · exact cmpF_lt_trans (pw_get hs (show j < (lo + hi) / 2 by omega) hm) (by omega)
    · have : hi = lo := by omega
      subst this
      exact ⟨hi, by rw [sort_Search.l0, if_neg (nt (decide_eq_false (by omega)))], h3, h4, fun h => h5 _ h (Nat.le_refl _)⟩
theorem sfind (s : List api_Final) (f : api_Final) (hs : Strict s) (hl : s.length ≤ 100000) : ∃ n, FindAt s f n ∧ state_Find.f s f = some ((n : Int), decide (f ∈ s)) := by
  obtain ⟨n, h1, h2⟩ := sfind_l0 s f hs hl s.length 0 s.length (by omega) (by omega) (by omega) (fun j h hj => by omega) (fun j h hj => by omega)
  refine ⟨n, h2, ?_⟩
  have hm := h2.mem hs
  have hle := h2.le
  unfold state_Find.f sort_Search.f
  rw [show ((0 : Int)) = ((0 : Nat) : Int) from rfl, h1]
  simp only [Option.bind_eq_bind, Option.bind_some]
  by_cases hn : n < s.length
  · have g : (((0 : Nat) : Int)) ≤ (n : Int) ∧ (n : Int) < (s.length : Int) := by omega
    rw [if_pos (decide_eq_true (by omega)), if_pos g, gt_nat hn]
    by_cases e : s[n] = f
    · rw [if_pos (decide_eq_true e), decide_eq_true (hm.2 ⟨hn, e⟩)]
    · rw [if_neg (nt (decide_eq_false e)), decide_eq_false (fun h => e (hm.1 h).2)]
  · rw [if_neg (nt (decide_eq_false (by omega))), decide_eq_false (fun h => hn (hm.1 h).1)]
theorem find_eq (s : List api_Final) (f : api_Final) (hs : Strict s) (hl : s.length ≤ 100000) : ∃ n : Nat, state_Find.f s f = some ((n : Int), decide (f ∈ s)) ∧ weirref10_Find.f s f = some ((n : Int), decide (f ∈ s)) := by
  obtain ⟨n, h1, h2⟩ := sfind s f hs hl
  obtain ⟨m, k1, k2⟩ := rfind s f hs hl
  obtain rfl := h1.unique k1
  exact ⟨n, h2, k2⟩

/-! ### Two -/
theorem two_l0 (op : Int) (a b : List api_Final) (ho : op = 1 ∨ op = 2) (hb : Strict b) (hla : a.length ≤ 100000) (hlb : b.length ≤ 100000) : ∀ (n t : Nat) (acc : List api_Final), t + n = a.length → acc.length + n ≤ 100000 →
    weirref10_Two.l0 op a b acc (t : Int) = some (acc ++ (a.drop t).filter (fun z => decide (z ∈ b) == (op == 1))) := by
  intro n
  induction n with
  | zero =>
    intro t acc ht _
    rw [weirref10_Two.l0, if_neg (nt (decide_eq_false (by omega))), List.drop_of_length_le (by omega)]; simp
  | succ n ih =>
    intro t acc ht hac
    have h1 : t < a.length := by omega
    have g : (0 : Int) ≤ (t : Int) ∧ (t : Int) < (a.length : Int) := by omega
    obtain ⟨m, -, hf⟩ := find_eq b a[t] hb hlb
    have q1 : (acc.length + ([a[t]] : List api_Final).length) * 392 ≤ 140737488355328 := by simp only [List.length_cons, List.length_nil]; omega
    have i1 := ih (t + 1) acc (by omega) (by omega)
    have i2 := ih (t + 1) (acc ++ [a[t]]) (by omega) (by simp only [List.length_append, List.length_cons, List.length_nil]; omega)
    rw [weirref10_Two.l0, if_pos (decide_eq_true (by omega))]
    simp only [if_pos g]
    rw [gt_nat h1, hf, w1 (by omega), List.drop_eq_getElem_cons h1]
    simp only [Option.bind_eq_bind, Option.bind_some]
    rw [if_pos q1, i1, i2]
    generalize a.drop (t + 1) = D
    generalize a[t] = x
    rcases ho with rfl | rfl
    · by_cases hm : x ∈ b
      · simp [hm]
      · simp [hm]
    · by_cases hm : x ∈ b
      · simp [hm]
      · simp [hm]
set_option maxRecDepth 100000 in
theorem two_s (op : Int) (a b : List api_Final) (ho : op = 1 ∨ op = 2) (hla : a.length ≤ 20000) (hlb : b.length ≤ 20000) : weirref10_Two.f op a b = some (if rises a = true ∧ rises b = true then (a.filter (fun z => decide (z ∈ b) == (op == 1)), 0) else ([], 100)) := by
  unfold weirref10_Two.f
  rw [rises_r a (by omega), rises_r b (by omega)]
  have ho' : ¬ ((op == 0) = true) := by rcases ho with rfl | rfl <;> decide
  cases ha : rises a
  · simp
  · cases hb : rises b
    · simp
    · have h1 := two_l0 op a b ho (rises_iff.1 hb).2 (by omega) (by omega) a.length 0 [] (by omega) (by simp only [List.length_nil]; omega)
      rw [List.drop_zero, List.nil_append] at h1
      simp only [Option.bind_eq_bind, Option.bind_some, Bool.not_true, Bool.false_eq_true, if_false]
      rw [if_neg ho', show ((0 : Int)) = ((0 : Nat) : Int) from rfl, h1]
      simp
set_option maxRecDepth 100000 in
theorem two_u (a b : List api_Final) (hla : a.length ≤ 20000) (hlb : b.length ≤ 20000) : weirref10_Two.f 0 a b = some (if rises a = true ∧ rises b = true then (mrg true true true a b, 0) else ([], 100)) := by
  unfold weirref10_Two.f
  rw [rises_r a (by omega), rises_r b (by omega)]
  cases ha : rises a
  · simp
  · cases hb : rises b
    · simp
    · obtain ⟨ka, sa⟩ := rises_iff.1 ha
      obtain ⟨kb, sb⟩ := rises_iff.1 hb
      obtain ⟨r, r1, r2, r3, r4⟩ := refsort (([] ++ a) ++ b) (by simp only [List.length_append, List.length_nil]; omega)
      have he : r = mrg true true true a b := strict_unique r2 (mrg_strict _ _ _ a b sa sb) (fun z => by
        rw [r3, mrg_mem _ _ _ a b sa sb]
        simp only [List.nil_append, List.mem_append, Pick, true_and]
        by_cases h1 : z ∈ a
        · by_cases h2 : z ∈ b <;> simp [h1, h2, ka z h1]
        · by_cases h2 : z ∈ b
          · simp [h1, h2, kb z h2]
          · simp [h1, h2])
      have q1 : (([] : List api_Final).length + a.length) * 392 ≤ 140737488355328 := by simp only [List.length_nil]; omega
      have q2 : ((([] : List api_Final) ++ a).length + b.length) * 392 ≤ 140737488355328 := by simp only [List.length_append, List.length_nil]; omega
      simp only [Option.bind_eq_bind, Option.bind_some, Bool.not_true, Bool.false_eq_true, if_false, beq_self_eq_true, if_true]
      rw [if_pos q1, if_pos q2, r1, he]
      simp
theorem meet_filter (a b : List api_Final) (sa : Strict a) (sb : Strict b) : mrg false false true a b = a.filter (fun z => decide (z ∈ b) == ((1 : Int) == 1)) := by
  refine strict_unique (mrg_strict _ _ _ a b sa sb) (List.Pairwise.sublist List.filter_sublist sa) (fun z => ?_)
  rw [mrg_mem _ _ _ a b sa sb, List.mem_filter]
  simp [Pick]
theorem minus_filter (a b : List api_Final) (sa : Strict a) (sb : Strict b) : mrg true false false a b = a.filter (fun z => decide (z ∈ b) == ((2 : Int) == 1)) := by
  refine strict_unique (mrg_strict _ _ _ a b sa sb) (List.Pairwise.sublist List.filter_sublist sa) (fun z => ?_)
  rw [mrg_mem _ _ _ a b sa sb, List.mem_filter]
  simp [Pick]
theorem mrg_len (p q r : Bool) : ∀ a b : List api_Final, (mrg p q r a b).length ≤ a.length + b.length
  | [], [] => by rw [mrg]; simp
  | [], y :: b => by
    have := mrg_len p q r [] b
    rw [mrg]; split <;> simp only [List.length_cons, List.length_nil] at * <;> omega
  | x :: a, [] => by
    have := mrg_len p q r a []
    rw [mrg]; split <;> simp only [List.length_cons, List.length_nil] at * <;> omega
  | x :: a, y :: b => by
    have h1 := mrg_len p q r a (y :: b)
    have h2 := mrg_len p q r a b
    have h3 := mrg_len p q r (x :: a) b
    rw [mrg]
    split
    · split <;> simp only [List.length_cons] at * <;> omega
    · split
      · split <;> simp only [List.length_cons] at * <;> omega
      · split <;> simp only [List.length_cons] at * <;> omega
termination_by a b => a.length + b.length
set_option maxRecDepth 100000 in
theorem three_true (a b : List api_Final) (hla : a.length ≤ 10000) (hlb : b.length ≤ 10000) : weirlaw10_three.f a b = some true := by
  unfold weirlaw10_three.f
  have l1 : (a ++ [spF]).length = a.length + 1 := by simp
  have l2 : (b ++ [spF]).length = b.length + 1 := by simp
  have g1 : a.length ≤ (a ++ [spF]).length := by omega
  have g2 : b.length ≤ (b ++ [spF]).length := by omega
  have t1 := two_u a b (by omega) (by omega)
  have t2 := two_s 1 a b (.inl rfl) (by omega) (by omega)
  have t3 := two_s 2 a b (.inr rfl) (by omega) (by omega)
  have u1 := union_s a b (by omega)
  have u2 := meet_s a b (by omega)
  have u3 := minus_s a b (by omega)
  have ba := back a (by omega)
  have bb := back b (by omega)
  have s0 := same ([] : List api_Final) [] (by simp)
  have p0 := spoil ([] : List api_Final) (by simp)
  simp only [decide_true] at s0
  by_cases hr : rises a = true ∧ rises b = true
  · obtain ⟨ka, sa⟩ := rises_iff.1 hr.1
    obtain ⟨kb, sb⟩ := rises_iff.1 hr.2
    rw [if_pos hr] at t1 t2 t3 u1 u2 u3
    rw [← meet_filter a b sa sb] at t2
    rw [← minus_filter a b sa sb] at t3
    have n1 := mrg_len true true true a b
    have n2 := mrg_len false false true a b
    have n3 := mrg_len true false false a b
    have s1 := same (mrg true true true a b) (mrg true true true a b) (by omega)
    have s2 := same (mrg false false true a b) (mrg false false true a b) (by omega)
    have s3 := same (mrg true false false a b) (mrg true false false a b) (by omega)
    have p1 := spoil (mrg true true true a b) (by omega)
    have p2 := spoil (mrg false false true a b) (by omega)
    have p3 := spoil (mrg true false false a b) (by omega)
    simp only [decide_true] at s1 s2 s3
    simp only [lent a (by omega), lent b (by omega), Option.bind_eq_bind, Option.bind_some, if_pos g1, if_pos g2, List.take_left' rfl, u1, u2, u3, t1, t2, t3, weirlaw10_num.f, s1, s2, s3, p1, p2, p3, ba, bb, bne_self_eq_false, Bool.false_eq_true, if_false, if_true, Bool.not_true]
  · rw [if_neg hr] at t1 t2 t3 u1 u2 u3
    simp only [lent a (by omega), lent b (by omega), Option.bind_eq_bind, Option.bind_some, if_pos g1, if_pos g2, List.take_left' rfl, u1, u2, u3, t1, t2, t3, weirlaw10_num.f, s0, p0, ba, bb, bne_self_eq_false, Bool.false_eq_true, if_false, if_true, Bool.not_true]
theorem sets_l0 (s t : List api_Final) (hs : Strict s) (hl : s.length ≤ 100000) (hlt : t.length ≤ 100000) : ∀ (n i : Nat), i + n = t.length → weirlaw10_StateSets.l0 s t (i : Int) = some (.inl ()) := by
  intro n
  induction n with
  | zero =>
    intro i hi
    rw [weirlaw10_StateSets.l0, if_neg (nt (decide_eq_false (by omega)))]
  | succ n ih =>
    intro i hi
    have g : (0 : Int) ≤ (i : Int) ∧ (i : Int) < (t.length : Int) := by omega
    obtain ⟨m, h1, h2⟩ := find_eq s (gt t (i : Int)) hs hl
    rw [weirlaw10_StateSets.l0, if_pos (decide_eq_true (by omega))]
    split
    · simp only [if_pos g, h1, h2, Option.bind_eq_bind, Option.bind_some, bne_self_eq_false, beq_self_eq_true, Bool.not_true, Bool.false_eq_true, if_false]
      rw [w1 (by omega)]
      exact ih (i + 1) (by omega)
    · rfl
set_option maxRecDepth 100000 in
theorem sets_true (a b : List api_Final) (f : api_Final) (ha : a.length * 392 ≤ 140737488355328) (hb : b.length * 392 ≤ 140737488355328) : weirlaw10_StateSets.f a b f = some true := by
  unfold weirlaw10_StateSets.f
  rw [few_s a b ha hb]
  simp only [Option.bind_eq_bind, Option.bind_some]
  by_cases hf : a.length + b.length ≤ 4000
  · rw [if_neg (by rw [decide_eq_true hf]; decide), three_true a b (by omega) (by omega)]
    obtain ⟨s, s1, s2, s3, s4⟩ := refsort a (by omega)
    obtain ⟨t, t1, t2, t3, t4⟩ := refsort b (by omega)
    obtain ⟨m, f1, f2⟩ := find_eq s f s2 (by omega)
    have g1 : s.length ≤ (s ++ [spF]).length := by simp
    have h0 := sets_l0 s t s2 (by omega) (by omega) t.length 0 (by omega)
    rw [show (((0 : Nat)) : Int) = (0 : Int) from rfl] at h0
    simp only [Option.bind_some, Bool.not_true, Bool.false_eq_true, if_false, s1, t1, lent s (by omega), if_pos g1, List.take_left' rfl, f1, f2, h0, beq_self_eq_true, if_true, three_true s t (by omega) (by omega)]
  · rw [if_pos (by rw [decide_eq_false hf]; rfl)]
theorem sets_law (a b : List api_Final) (f : api_Final) (ha : a.length * 392 ≤ reachBytes ∧ ∀ x ∈ a, ok_api_Final x) (hb : b.length * 392 ≤ reachBytes ∧ ∀ x ∈ b, ok_api_Final x) (hf : ok_api_Final f) : weirlaw10_StateSets.f a b f = some true :=
  sets_true a b f (Nat.le_trans ha.1 (by decide)) (Nat.le_trans hb.1 (by decide))
end Go.Proofs.Yteppciglfdiljaa.K
