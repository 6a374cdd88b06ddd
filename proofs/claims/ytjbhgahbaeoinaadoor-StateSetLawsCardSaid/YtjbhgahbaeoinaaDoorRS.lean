/- The laws of sets: StateSetLaws. -/
import Derived.Test.YtjbhgahbaeoinaaDoorRF
import Derived.Test.YtjbhgahbaeoinaaDoorRW
set_option linter.unusedVariables false
set_option linter.unusedSimpArgs false
set_option maxRecDepth 100000
namespace Go.Proofs.YtjbhgahbaeoinaaDoor.K
open Go

theorem same_l0 (a b : List api_Final) (hl : a.length = b.length) (hs : a.length ≤ 100000) : ∀ (n t : Nat), t + n = a.length → weirlaw10_Same.l0 a b (t : Int) = some (if a.drop t = b.drop t then .inl () else .inr false) := by
  intro n
  induction n with
  | zero =>
    intro t ht
    have e1 : decide ((t : Int) < (a.length : Int)) = false := decide_eq_false (by omega)
    rw [weirlaw10_Same.l0, if_neg (nt e1), List.drop_of_length_le (by omega), List.drop_of_length_le (by omega), if_pos rfl]
  | succ n ih =>
    intro t ht
    have h1 : t < a.length := by omega
    have h2 : t < b.length := by omega
    have e1 : decide ((t : Int) < (a.length : Int)) = true := decide_eq_true (by omega)
    have g1 : (0 : Int) ≤ (t : Int) ∧ (t : Int) < (a.length : Int) := by omega
    have g2 : (0 : Int) ≤ (t : Int) ∧ (t : Int) < (b.length : Int) := by omega
    rw [weirlaw10_Same.l0, if_pos e1, if_pos g1, if_pos g2, gt_nat h1, gt_nat h2, List.drop_eq_getElem_cons h1, List.drop_eq_getElem_cons h2]
    by_cases he : a[t] = b[t]
    · rw [if_neg (by simp [he]), w1 (by omega), ih (t + 1) (by omega)]
      simp only [List.cons.injEq, he, true_and]
    · rw [if_pos (by simpa using he), if_neg (fun h => he (List.cons.inj h).1)]
theorem same (a b : List api_Final) (hs : a.length ≤ 100000) : weirlaw10_Same.f a b = some (decide (a = b)) := by
  unfold weirlaw10_Same.f
  by_cases hl : a.length = b.length
  · have := same_l0 a b hl hs a.length 0 (by omega)
    rw [if_neg (by simp [hl]), show ((0 : Int)) = ((0 : Nat) : Int) from rfl, this, List.drop_zero, List.drop_zero]
    by_cases h : a = b <;> simp [h]
  · rw [if_pos (by simp only [bne_iff_ne, ne_eq]; omega)]
    have : a ≠ b := fun h => hl (by rw [h])
    simp [this]
theorem in_l (l : List api_Final) (x : api_Final) (hs : l.length ≤ 100000) : ∀ (n t : Nat), t + n = l.length → weirlaw10_in.l0 l x (t : Int) = some (if x ∈ l.drop t then .inr true else .inl ()) := by
  intro n
  induction n with
  | zero =>
    intro t ht
    rw [weirlaw10_in.l0, if_neg (nt (decide_eq_false (by omega))), List.drop_of_length_le (by omega), if_neg (by simp)]
  | succ n ih =>
    intro t ht
    have h1 : t < l.length := by omega
    have g : (0 : Int) ≤ (t : Int) ∧ (t : Int) < (l.length : Int) := by omega
    rw [weirlaw10_in.l0, if_pos (decide_eq_true g.2), if_pos g, gt_nat h1, w1 (by omega), ih (t + 1) (by omega), List.drop_eq_getElem_cons h1]
    by_cases he : l[t] = x
    · rw [if_pos (by simpa using he), if_pos (by rw [he]; exact List.mem_cons_self ..)]
    · rw [if_neg (by simpa using he)]
      have : x ∈ l[t] :: l.drop (t + 1) ↔ x ∈ l.drop (t + 1) := by rw [List.mem_cons]; exact ⟨fun h => h.resolve_left (fun e => he e.symm), .inr⟩
      by_cases hm : x ∈ l.drop (t + 1)
      · rw [if_pos hm, if_pos (this.2 hm)]
      · rw [if_neg hm, if_neg (fun h => hm (this.1 h))]
theorem in_s (l : List api_Final) (x : api_Final) (hs : l.length ≤ 100000) : weirlaw10_in.f l x = some (decide (x ∈ l)) := by
  unfold weirlaw10_in.f
  have := in_l l x hs l.length 0 (by omega)
  rw [show ((0 : Int)) = ((0 : Nat) : Int) from rfl, this, List.drop_zero]
  by_cases h : x ∈ l <;> simp [h]
theorem len_um : ∀ a b : List api_Final, (mrg true true true a b).length + (mrg false false true a b).length = a.length + b.length ∧ (mrg true false false a b).length + (mrg false false true a b).length = a.length
  | [], [] => by rw [mrg, mrg, mrg]; simp
  | [], y :: b => by
    have h := len_um [] b
    rw [mrg, mrg, mrg]; simp only [if_true, Bool.false_eq_true, if_false, List.length_cons, List.length_nil] at *; omega
  | x :: a, [] => by
    have h := len_um a []
    rw [mrg, mrg, mrg]; simp only [if_true, Bool.false_eq_true, if_false, List.length_cons, List.length_nil] at *; omega
  | x :: a, y :: b => by
    have h1 := len_um a (y :: b)
    have h2 := len_um a b
    have h3 := len_um (x :: a) b
    rw [mrg, mrg, mrg]
    simp only [if_true, Bool.false_eq_true, if_false]
    by_cases c1 : cmpF x y < 0
    · simp only [if_pos c1, List.length_cons] at *; omega
    · by_cases c2 : cmpF x y = 0
      · simp only [if_neg c1, if_pos c2, List.length_cons] at *; omega
      · simp only [if_neg c1, if_neg c2, List.length_cons] at *; omega
termination_by a b => a.length + b.length
def tw (l : List api_Final) : List api_Final := l.reverse.flatMap fun x => [x, x]
theorem mem_tw {l : List api_Final} {z : api_Final} : z ∈ tw l ↔ z ∈ l := by
  unfold tw
  rw [List.mem_flatMap]
  constructor
  · rintro ⟨x, h1, h2⟩
    have : z = x := by simpa using h2
    rw [this]; exact List.mem_reverse.1 h1
  · intro h
    exact ⟨z, List.mem_reverse.2 h, by simp⟩
theorem len_tw (l : List api_Final) : (tw l).length = 2 * l.length := by
  unfold tw
  rw [List.length_flatMap]
  simp [List.map_const', List.sum_replicate_nat]
  omega
theorem twice_l (a : List api_Final) : ∀ (n : Nat) (acc : List api_Final), n ≤ a.length → acc.length + 2 * n ≤ 10000 → weirlaw10_StateSetLaws.l0 a acc ((n : Int) - 1) = some (acc ++ tw (a.take n)) := by
  intro n
  induction n with
  | zero =>
    intro acc hn ha
    rw [weirlaw10_StateSetLaws.l0, if_neg (nt (decide_eq_false (by omega)))]
    simp [tw]
  | succ n ih =>
    intro acc hn ha
    have h1 : n < a.length := by omega
    have g : (0 : Int) ≤ (n : Int) ∧ (n : Int) < (a.length : Int) := by omega
    have e : (((n + 1 : Nat)) : Int) - 1 = (n : Int) := by omega
    have q : (acc.length + ([a[n], a[n]] : List api_Final).length) * 392 ≤ 140737488355328 := by simp only [List.length_cons, List.length_nil]; omega
    rw [e, weirlaw10_StateSetLaws.l0, if_pos (decide_eq_true g.1), if_pos g, if_pos g, gt_nat h1, if_pos q, wi64_id (by omega) (by omega), ih _ (by omega) (by simp only [List.length_append, List.length_cons, List.length_nil]; omega), List.take_succ_eq_append_getElem h1]
    unfold tw
    rw [List.reverse_append, List.flatMap_append]
    simp [List.append_assoc]
theorem setl_l (a b s t : List api_Final) (hs : Strict s) (ht : Strict t) (ms : ∀ z, z ∈ s ↔ z ∈ a ∧ okV z = true) (mt : ∀ z, z ∈ t ↔ z ∈ b ∧ okV z = true) (ls : s.length ≤ 10000) (lt' : t.length ≤ 10000) (hl : a.length + b.length ≤ 10000) :
    ∀ (n i : Nat), i + n = (([] ++ a) ++ b).length → weirlaw10_StateSetLaws.l1 a b s t (mrg true true true s t) (mrg false false true s t) (mrg true false false s t) (i : Int) = some (.inl ()) := by
  have l1 := mrg_len true true true s t
  have l2 := mrg_len false false true s t
  have l3 := mrg_len true false false s t
  intro n
  induction n with
  | zero =>
    intro i hi
    rw [weirlaw10_StateSetLaws.l1, if_neg (nt (decide_eq_false (by omega)))]
  | succ n ih =>
    intro i hi
    have h1 : i < (([] ++ a) ++ b).length := by omega
    have h1' : i < 9223372036854775807 := by simp at h1; omega
    have g : (0 : Int) ≤ (i : Int) ∧ (i : Int) < ((([] ++ a) ++ b).length : Int) := by omega
    have hx : (([] ++ a) ++ b)[i] ∈ a ∨ (([] ++ a) ++ b)[i] ∈ b := by
      rcases List.mem_append.1 (List.getElem_mem h1) with h | h
      · exact .inl (by rcases List.mem_append.1 h with h | h; cases h; exact h)
      · exact .inr h
    have hih := ih (i + 1) (by omega)
    rw [weirlaw10_StateSetLaws.l1, if_pos (decide_eq_true g.2)]
    simp only [if_pos g, gt_nat h1, in_s s _ (show s.length ≤ 100000 by omega), in_s t _ (show t.length ≤ 100000 by omega), in_s (mrg true true true s t) _ (show (mrg true true true s t).length ≤ 100000 by omega), in_s (mrg false false true s t) _ (show (mrg false false true s t).length ≤ 100000 by omega), in_s (mrg true false false s t) _ (show (mrg true false false s t).length ≤ 100000 by omega), Option.bind_eq_bind, Option.bind_some, check_s, weirlaw10_num.f, w1 h1', hih]
    generalize (([] ++ a) ++ b)[i] = x at *
    obtain ⟨k, f1, f2⟩ := sfind s x hs (by omega)
    have fm := f1.mem hs
    rw [f2]
    simp only [Option.bind_some]
    have mu := mrg_mem true true true s t hs ht x
    have mm := mrg_mem false false true s t hs ht x
    have mn := mrg_mem true false false s t hs ht x
    simp only [Pick, Bool.false_eq_true, false_and, true_and, false_or, or_false] at mu mm mn
    have cs := ms x
    have ct := mt x
    have fin : x ∈ s → (0 : Int) ≤ (k : Int) ∧ (k : Int) < (s.length : Int) ∧ gt s (k : Int) = x := by
      intro h
      obtain ⟨hk, e⟩ := fm.1 h
      exact ⟨by omega, by omega, by rw [gt_nat hk, e]⟩
    by_cases hv : okV x = true
    · have hc : chk x = 0 := by unfold chk; rw [if_pos hv]
      rw [hc]
      by_cases p : x ∈ s
      · obtain ⟨q1, q2, q3⟩ := fin p
        by_cases q : x ∈ t
        · have u1 : x ∈ mrg true true true s t := mu.2 (.inr (.inr ⟨p, q⟩))
          have u2 : x ∈ mrg false false true s t := mm.2 ⟨p, q⟩
          have u3 : ¬ x ∈ mrg true false false s t := fun h => (mn.1 h).2 q
          simp [p, q, u1, u2, u3, q1, q2, q3]
        · have u1 : x ∈ mrg true true true s t := mu.2 (.inl ⟨p, q⟩)
          have u2 : ¬ x ∈ mrg false false true s t := fun h => q (mm.1 h).2
          have u3 : x ∈ mrg true false false s t := mn.2 ⟨p, q⟩
          simp [p, q, u1, u2, u3, q1, q2, q3]
      · by_cases q : x ∈ t
        · have u1 : x ∈ mrg true true true s t := mu.2 (.inr (.inl ⟨q, p⟩))
          have u2 : ¬ x ∈ mrg false false true s t := fun h => p (mm.1 h).1
          have u3 : ¬ x ∈ mrg true false false s t := fun h => p (mn.1 h).1
          simp [p, q, u1, u2, u3]
        · exfalso
          rcases hx with h | h
          · exact p (cs.2 ⟨h, hv⟩)
          · exact q (ct.2 ⟨h, hv⟩)
    · have hc : chk x = 4 := by unfold chk; rw [if_neg hv]
      have p : ¬ x ∈ s := fun h => hv (cs.1 h).2
      have q : ¬ x ∈ t := fun h => hv (ct.1 h).2
      have u1 : ¬ x ∈ mrg true true true s t := fun h => by rcases mu.1 h with ⟨h, _⟩ | ⟨h, _⟩ | ⟨h, _⟩ <;> first | exact p h | exact q h
      have u2 : ¬ x ∈ mrg false false true s t := fun h => p (mm.1 h).1
      have u3 : ¬ x ∈ mrg true false false s t := fun h => p (mn.1 h).1
      rw [hc]
      simp [p, q, u1, u2, u3]
theorem sets_true (a b : List api_Final) (ha : a.length * 392 ≤ 140737488355328) (hb : b.length * 392 ≤ 140737488355328) : weirlaw10_StateSetLaws.f a b = some true := by
  unfold weirlaw10_StateSetLaws.f
  rw [works_true]
  simp only [Option.bind_eq_bind, Option.bind_some, Bool.not_true, Bool.false_eq_true, if_false]
  rw [wi64_id (by omega) (by omega)]
  by_cases hf : (a.length : Int) + (b.length : Int) > 300
  · rw [if_pos (decide_eq_true hf)]
  · rw [if_neg (nt (decide_eq_false hf))]
    obtain ⟨s, s1, s2, s3, s4⟩ := sort_s a (by omega)
    obtain ⟨t, t1, t2, t3, t4⟩ := sort_s b (by omega)
    have htw := twice_l a a.length [] (Nat.le_refl _) (by simp; omega)
    rw [List.take_of_length_le (Nat.le_refl _), List.nil_append] at htw
    obtain ⟨w, w1', w2, w3, w4⟩ := sort_s (tw a) (by rw [len_tw]; omega)
    obtain ⟨v, v1, v2, v3, v4⟩ := sort_s s (by omega)
    have hws : w = s := strict_unique w2 s2 (fun z => by rw [w3, s3, mem_tw])
    have hvs : v = s := strict_unique v2 s2 (fun z => by rw [v3]; exact ⟨fun h => h.1, fun h => ⟨h, ((s3 z).1 h).2⟩⟩)
    subst hws
    subst hvs
    have rs : rises v = true := rises_iff.2 ⟨fun f hf => ((s3 f).1 hf).2, s2⟩
    have rt : rises t = true := rises_iff.2 ⟨fun f hf => ((t3 f).1 hf).2, t2⟩
    have hu := union_s v t (by omega)
    have hm := meet_s v t (by omega)
    have hn := minus_s v t (by omega)
    rw [if_pos ⟨rs, rt⟩] at hu hm hn
    have lu := mrg_len true true true v t
    have lm := mrg_len false false true v t
    have ln := mrg_len true false false v t
    obtain ⟨e1, e2⟩ := len_um v t
    have su := mrg_strict true true true v t s2 t2
    have ru : rises (mrg true true true v t) = true := rises_iff.2 ⟨fun f hf => by
      rcases (mrg_mem true true true v t s2 t2 f).1 hf with ⟨_, h, _⟩ | ⟨_, h, _⟩ | ⟨_, h, _⟩
      · exact ((s3 f).1 h).2
      · exact ((t3 f).1 h).2
      · exact ((s3 f).1 h).2, su⟩
    have hss := same v v (by omega)
    simp only [decide_true] at hss
    have hl1 := setl_l a b v t s2 t2 s3 t3 (by omega) (by omega) (by omega) (([] ++ a) ++ b).length 0 (by omega)
    rw [show (((0 : Nat)) : Int) = (0 : Int) from rfl] at hl1
    have hw0 : IntKind.i64.wrap ((a.length : Int) - 1) = (a.length : Int) - 1 := wi64_id (by omega) (by omega)
    rw [hw0]
    simp only [s1, t1, htw, hu, hm, hn, w1', v1, hss, Option.bind_some, rises_s v (by omega), rs, rises_s (mrg true true true v t) (by omega), ru, weirlaw10_num.f, bne_self_eq_false, Bool.false_eq_true, if_false, Bool.not_true]
    rw [wi64_id (by omega) (by omega), wi64_id (by omega) (by omega), wi64_id (by omega) (by omega), if_neg (by simp; omega), if_neg (by simp; omega), if_pos (by simp; omega), if_pos (by simp; omega), hl1]
    rfl
theorem sets_law (a b : List api_Final) (ha : a.length * 392 ≤ reachBytes ∧ ∀ x ∈ a, ok_api_Final x) (hb : b.length * 392 ≤ reachBytes ∧ ∀ x ∈ b, ok_api_Final x) : weirlaw10_StateSetLaws.f a b = some true :=
  sets_true a b (Nat.le_trans ha.1 (by decide)) (Nat.le_trans hb.1 (by decide))
end Go.Proofs.YtjbhgahbaeoinaaDoor.K
