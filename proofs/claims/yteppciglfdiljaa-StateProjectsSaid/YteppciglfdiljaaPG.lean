/- Project; StateProjects. -/
import Derived.Test.YteppciglfdiljaaPD
set_option linter.unusedVariables false
set_option linter.unusedSimpArgs false
namespace Go.Proofs.Yteppciglfdiljaa.K
open Go

abbrev PjR := Sum (List api_Final) (List api_Final × Int)
/-- One state, projected. -/
def pj (f : api_Final) : List Int → Nat → api_Final → Sum api_Final PjR
  | [], _, g => .inl g
  | k :: ks, i, g => if k < 0 then .inr (.inr ([], 4)) else if k ≥ f.N then .inr (.inr ([], 4)) else pj f ks (i + 1) ⟨g.N, vset g.V (i : Int) (vget f.V k)⟩
def pjs (keep : List Int) : List api_Final → List api_Final → PjR
  | [], acc => .inl acc
  | f :: l, acc => match pj f keep 0 ⟨(keep.length : Int), Vector.replicate 48 0⟩ with
    | .inl g => pjs keep l (acc ++ [g])
    | .inr e => e
theorem pj_inr (f : api_Final) : ∀ (ks : List Int) (i : Nat) (g : api_Final) (e : PjR), pj f ks i g = .inr e → e = .inr ([], 4)
  | [], i, g, e, h => by cases h
  | k :: ks, i, g, e, h => by
    simp only [pj] at h
    split at h
    · cases h; rfl
    · split at h
      · cases h; rfl
      · exact pj_inr f ks _ _ e h
theorem pjs_len (keep : List Int) : ∀ (l acc : List api_Final), match pjs keep l acc with | .inl r => r.length = acc.length + l.length | .inr e => e = ([], 4)
  | [], acc => by simp [pjs]
  | f :: l, acc => by
    simp only [pjs]
    cases h : pj f keep 0 ⟨(keep.length : Int), Vector.replicate 48 0⟩ with
    | inl g =>
      have := pjs_len keep l (acc ++ [g])
      simp only
      revert this
      cases pjs keep l (acc ++ [g]) with
      | inl r => simp only [List.length_append, List.length_cons, List.length_nil]; omega
      | inr e => exact id
    | inr e =>
      have := pj_inr f keep 0 _ e h
      subst this
      rfl
theorem s_l1 (l : List api_Final) (keep : List Int) (i : Nat) (hi : i < l.length) (hN : l[i].N ≤ 48) (hk : keep.length ≤ 48) : ∀ (n t : Nat) (g : api_Final), t + n = keep.length → state_Project.l1 l keep (i : Int) (t : Int) g = some (pj l[i] (keep.drop t) t g) := by
  intro n
  induction n with
  | zero =>
    intro t g ht
    rw [state_Project.l1, if_neg (nt (decide_eq_false (by omega))), List.drop_of_length_le (by omega)]; rfl
  | succ n ih =>
    intro t g ht
    have h1 : t < keep.length := by omega
    have q : (0 : Int) ≤ (t : Int) ∧ (t : Int) < (keep.length : Int) := by omega
    rw [state_Project.l1, if_pos (decide_eq_true (by omega)), if_pos q, gt_nat h1, gt_nat hi, List.drop_eq_getElem_cons h1, w1 (by omega)]
    simp only [pj]
    by_cases c1 : keep[t] < 0
    · rw [if_pos (decide_eq_true c1), if_pos c1]
    · rw [if_neg (nt (decide_eq_false c1)), if_neg c1]
      by_cases c2 : keep[t] ≥ l[i].N
      · rw [if_pos (decide_eq_true c2), if_pos c2]
      · rw [if_neg (nt (decide_eq_false c2)), if_neg c2, if_pos (by omega), if_pos (by omega)]
        exact ih (t + 1) _ (by omega)
theorem r_l1 (l : List api_Final) (keep : List Int) (i : Nat) (hi : i < l.length) (hN : l[i].N ≤ 48) (hk : keep.length ≤ 48) : ∀ (n t : Nat) (g : api_Final), t + n = keep.length → weirref10_Project.l1 l keep (i : Int) (t : Int) g = some (pj l[i] (keep.drop t) t g) := by
  intro n
  induction n with
  | zero =>
    intro t g ht
    rw [weirref10_Project.l1, if_neg (nt (decide_eq_false (by omega))), List.drop_of_length_le (by omega)]; rfl
  | succ n ih =>
    intro t g ht
    have h1 : t < keep.length := by omega
    have q : (0 : Int) ≤ (t : Int) ∧ (t : Int) < (keep.length : Int) := by omega
    have q2 : (0 : Int) ≤ (i : Int) ∧ (i : Int) < (l.length : Int) := by omega
    rw [weirref10_Project.l1, if_pos (decide_eq_true (by omega))]
    simp only [if_pos q, if_pos q2]
    rw [gt_nat h1, gt_nat hi, List.drop_eq_getElem_cons h1, w1 (by omega)]
    simp only [pj]
    by_cases c1 : keep[t] < 0
    · rw [if_pos (decide_eq_true c1), if_pos c1]
    · rw [if_neg (nt (decide_eq_false c1)), if_neg c1]
      by_cases c2 : keep[t] ≥ l[i].N
      · rw [if_pos (decide_eq_true c2), if_pos c2]
      · rw [if_neg (nt (decide_eq_false c2)), if_neg c2, if_pos (by omega), if_pos (by omega)]
        exact ih (t + 1) _ (by omega)
theorem s_l0 (l : List api_Final) (keep : List Int) (hN : ∀ f ∈ l, f.N ≤ 48) (hk : keep.length ≤ 48) (hl : l.length ≤ 100000) : ∀ (n t : Nat) (acc : List api_Final), t + n = l.length → acc.length + n ≤ 100000 → state_Project.l0 l keep acc (t : Int) = some (pjs keep (l.drop t) acc) := by
  intro n
  induction n with
  | zero =>
    intro t acc ht _
    rw [state_Project.l0, if_neg (nt (decide_eq_false (by omega))), List.drop_of_length_le (by omega)]; rfl
  | succ n ih =>
    intro t acc ht ha
    have h1 : t < l.length := by omega
    have q : (0 : Int) ≤ (t : Int) ∧ (t : Int) < (l.length : Int) := by omega
    have hp := s_l1 l keep t h1 (hN _ (List.getElem_mem h1)) hk keep.length 0 ⟨(keep.length : Int), Vector.replicate 48 0⟩ (by omega)
    rw [List.drop_zero, show (((0 : Nat)) : Int) = (0 : Int) from rfl] at hp
    rw [state_Project.l0, if_pos (decide_eq_true (by omega)), if_pos q, hp, List.drop_eq_getElem_cons h1, w1 (by omega)]
    simp only [pjs, Option.bind_eq_bind, Option.bind_some]
    cases pj l[t] keep 0 ⟨(keep.length : Int), Vector.replicate 48 0⟩ with
    | inl g =>
      have q1 : (acc.length + ([g] : List api_Final).length) * 392 ≤ 140737488355328 := by simp only [List.length_cons, List.length_nil]; omega
      simp only
      rw [if_pos q1]
      exact ih (t + 1) _ (by omega) (by simp only [List.length_append, List.length_cons, List.length_nil]; omega)
    | inr e => rfl
theorem r_l0 (l : List api_Final) (keep : List Int) (hN : ∀ f ∈ l, f.N ≤ 48) (hk : keep.length ≤ 48) (hl : l.length ≤ 100000) : ∀ (n t : Nat) (acc : List api_Final), t + n = l.length → acc.length + n ≤ 100000 → weirref10_Project.l0 l keep acc (t : Int) = some (pjs keep (l.drop t) acc) := by
  intro n
  induction n with
  | zero =>
    intro t acc ht _
    rw [weirref10_Project.l0, if_neg (nt (decide_eq_false (by omega))), List.drop_of_length_le (by omega)]; rfl
  | succ n ih =>
    intro t acc ht ha
    have h1 : t < l.length := by omega
    have hp := r_l1 l keep t h1 (hN _ (List.getElem_mem h1)) hk keep.length 0 ⟨(keep.length : Int), Vector.replicate 48 0⟩ (by omega)
    rw [List.drop_zero, show (((0 : Nat)) : Int) = (0 : Int) from rfl] at hp
    rw [weirref10_Project.l0, if_pos (decide_eq_true (by omega)), hp, List.drop_eq_getElem_cons h1, w1 (by omega)]
    simp only [pjs, Option.bind_eq_bind, Option.bind_some]
    cases pj l[t] keep 0 ⟨(keep.length : Int), Vector.replicate 48 0⟩ with
    | inl g =>
      have q1 : (acc.length + ([g] : List api_Final).length) * 392 ≤ 140737488355328 := by simp only [List.length_cons, List.length_nil]; omega
      simp only
      rw [if_pos q1]
      exact ih (t + 1) _ (by omega) (by simp only [List.length_append, List.length_cons, List.length_nil]; omega)
    | inr e => rfl
theorem okV_N {f : api_Final} (h : okV f = true) : f.N ≤ 48 := by
  unfold okV at h
  simp only [Bool.and_eq_true, decide_eq_true_eq] at h
  exact h.1.2
set_option maxRecDepth 100000 in
theorem project_eq (l : List api_Final) (keep : List Int) (hl : l.length ≤ 10000) (hk : keep.length ≤ 9223372036854775807) : ∃ (r : List api_Final) (e : Int), state_Project.f l keep = some (r, e) ∧ weirref10_Project.f l keep = some (r, e) ∧ r.length ≤ 10000 := by
  unfold state_Project.f weirref10_Project.f
  rw [rises_s l (by omega), rises_r l (by omega)]
  cases hr : rises l
  · exact ⟨[], 100, rfl, rfl, by simp⟩
  · simp only [Option.bind_eq_bind, Option.bind_some, Bool.not_true, Bool.false_eq_true, if_false]
    by_cases c : (keep.length : Int) > 48
    · rw [if_pos (decide_eq_true c)]
      exact ⟨[], 1, rfl, by rw [if_pos (decide_eq_true c)], by simp⟩
    · rw [if_neg (nt (decide_eq_false c)), if_neg (nt (decide_eq_false c))]
      have hN : ∀ f ∈ l, f.N ≤ 48 := fun f hf => okV_N ((rises_iff.1 hr).1 f hf)
      have h1 := s_l0 l keep hN (by omega) (by omega) l.length 0 [] (by omega) (by simp only [List.length_nil]; omega)
      have h2 := r_l0 l keep hN (by omega) (by omega) l.length 0 [] (by omega) (by simp only [List.length_nil]; omega)
      rw [List.drop_zero, show (((0 : Nat)) : Int) = (0 : Int) from rfl] at h1 h2
      rw [h1, h2]
      have h3 := pjs_len keep l []
      revert h3
      cases pjs keep l [] with
      | inl r =>
        intro h3
        simp only [List.length_nil, Nat.zero_add] at h3
        obtain ⟨s, s1, s2, s3, s4⟩ := sort_s r (by omega)
        obtain ⟨s', r1, r2, r3, r4⟩ := refsort r (by omega)
        have : s = s' := strict_unique s2 r2 (fun z => by rw [s3, r3])
        subst this
        exact ⟨s, 0, by simp [s1], by simp [r1], by omega⟩
      | inr e =>
        intro h3
        simp only at h3
        subst h3
        exact ⟨[], 4, rfl, rfl, by simp⟩

theorem loop1_l (keep : List Int) (hk : keep.length ≤ 9000000000000000000) : ∀ (n t : Nat), t + n = keep.length → weirlaw10_StateProjects.l1 keep (t : Int) = some (.inl ()) := by
  intro n
  induction n with
  | zero =>
    intro t ht
    rw [weirlaw10_StateProjects.l1, if_neg (nt (decide_eq_false (by omega)))]
  | succ n ih =>
    intro t ht
    have q1 : (0 : Int) ≤ (t : Int) ∧ (t : Int) < (((([] : List Int) ++ keep) ++ ([(-7)] : List Int)).length : Int) := by simp only [List.nil_append, List.length_append, List.length_cons, List.length_nil]; omega
    have q2 : (0 : Int) ≤ (t : Int) ∧ (t : Int) < (keep.length : Int) := by omega
    have q3 : gt ((([] : List Int) ++ keep) ++ ([(-7)] : List Int)) (t : Int) = gt keep (t : Int) := by
      rw [gt_nat (by omega), gt_nat (by omega)]
      simp [List.getElem_append_left (show t < keep.length by omega)]
    rw [weirlaw10_StateProjects.l1, if_pos (decide_eq_true (by omega)), if_pos q1, if_pos q2, q3, if_neg (by simp), w1 (by omega)]
    exact ih (t + 1) (by omega)
theorem loop1 (keep : List Int) (hk : keep.length ≤ 9000000000000000000) : weirlaw10_StateProjects.l1 keep 0 = some (.inl ()) := loop1_l keep hk keep.length 0 (by omega)

theorem loop2_l (keep : List Int) (hk : keep.length ≤ 9000000000000000000) : ∀ (n t : Nat), t + n = keep.length → weirlaw10_StateProjects.l2 keep (t : Int) = some (.inl ()) := by
  intro n
  induction n with
  | zero =>
    intro t ht
    rw [weirlaw10_StateProjects.l2, if_neg (nt (decide_eq_false (by omega)))]
  | succ n ih =>
    intro t ht
    have q1 : (0 : Int) ≤ (t : Int) ∧ (t : Int) < (((([] : List Int) ++ keep) ++ ([(-7)] : List Int)).length : Int) := by simp only [List.nil_append, List.length_append, List.length_cons, List.length_nil]; omega
    have q2 : (0 : Int) ≤ (t : Int) ∧ (t : Int) < (keep.length : Int) := by omega
    have q3 : gt ((([] : List Int) ++ keep) ++ ([(-7)] : List Int)) (t : Int) = gt keep (t : Int) := by
      rw [gt_nat (by omega), gt_nat (by omega)]
      simp [List.getElem_append_left (show t < keep.length by omega)]
    rw [weirlaw10_StateProjects.l2, if_pos (decide_eq_true (by omega)), if_pos q1, if_pos q2, q3, if_neg (by simp), w1 (by omega)]
    exact ih (t + 1) (by omega)
theorem loop2 (keep : List Int) (hk : keep.length ≤ 9000000000000000000) : weirlaw10_StateProjects.l2 keep 0 = some (.inl ()) := loop2_l keep hk keep.length 0 (by omega)

theorem loop3_l (keep : List Int) (hk : keep.length ≤ 9000000000000000000) : ∀ (n t : Nat), t + n = keep.length → weirlaw10_StateProjects.l3 keep (t : Int) = some (.inl ()) := by
  intro n
  induction n with
  | zero =>
    intro t ht
    rw [weirlaw10_StateProjects.l3, if_neg (nt (decide_eq_false (by omega)))]
  | succ n ih =>
    intro t ht
    have q1 : (0 : Int) ≤ (t : Int) ∧ (t : Int) < (((([] : List Int) ++ keep) ++ ([(-7)] : List Int)).length : Int) := by simp only [List.nil_append, List.length_append, List.length_cons, List.length_nil]; omega
    have q2 : (0 : Int) ≤ (t : Int) ∧ (t : Int) < (keep.length : Int) := by omega
    have q3 : gt ((([] : List Int) ++ keep) ++ ([(-7)] : List Int)) (t : Int) = gt keep (t : Int) := by
      rw [gt_nat (by omega), gt_nat (by omega)]
      simp [List.getElem_append_left (show t < keep.length by omega)]
    rw [weirlaw10_StateProjects.l3, if_pos (decide_eq_true (by omega)), if_pos q1, if_pos q2, q3, if_neg (by simp), w1 (by omega)]
    exact ih (t + 1) (by omega)
theorem loop3 (keep : List Int) (hk : keep.length ≤ 9000000000000000000) : weirlaw10_StateProjects.l3 keep 0 = some (.inl ()) := loop3_l keep hk keep.length 0 (by omega)

theorem loop4_l (keep : List Int) (hk : keep.length ≤ 9000000000000000000) : ∀ (n t : Nat), t + n = keep.length → weirlaw10_StateProjects.l4 keep (t : Int) = some (.inl ()) := by
  intro n
  induction n with
  | zero =>
    intro t ht
    rw [weirlaw10_StateProjects.l4, if_neg (nt (decide_eq_false (by omega)))]
  | succ n ih =>
    intro t ht
    have q1 : (0 : Int) ≤ (t : Int) ∧ (t : Int) < (((([] : List Int) ++ keep) ++ ([(-7)] : List Int)).length : Int) := by simp only [List.nil_append, List.length_append, List.length_cons, List.length_nil]; omega
    have q2 : (0 : Int) ≤ (t : Int) ∧ (t : Int) < (keep.length : Int) := by omega
    have q3 : gt ((([] : List Int) ++ keep) ++ ([(-7)] : List Int)) (t : Int) = gt keep (t : Int) := by
      rw [gt_nat (by omega), gt_nat (by omega)]
      simp [List.getElem_append_left (show t < keep.length by omega)]
    rw [weirlaw10_StateProjects.l4, if_pos (decide_eq_true (by omega)), if_pos q1, if_pos q2, q3, if_neg (by simp), w1 (by omega)]
    exact ih (t + 1) (by omega)
theorem loop4 (keep : List Int) (hk : keep.length ≤ 9000000000000000000) : weirlaw10_StateProjects.l4 keep 0 = some (.inl ()) := loop4_l keep hk keep.length 0 (by omega)

set_option maxRecDepth 100000 in
theorem projects_true (l : List api_Final) (keep : List Int) (hl : l.length * 392 ≤ 140737488355328) (hk : keep.length * 8 ≤ 140737488351232) : weirlaw10_StateProjects.f l keep = some true := by
  unfold weirlaw10_StateProjects.f
  rw [few_s l [] hl (by simp)]
  simp only [Option.bind_eq_bind, Option.bind_some]
  by_cases hf : l.length + ([] : List api_Final).length ≤ 4000
  · rw [if_neg (by rw [decide_eq_true hf]; decide)]
    have hl4 : l.length ≤ 4000 := by simpa using hf
    obtain ⟨s, s1, s2, s3, s4⟩ := refsort l (by omega)
    rw [s1]
    obtain ⟨p, e, p1, p2, p3⟩ := project_eq l keep (by omega) (by omega)
    obtain ⟨p', e', p1', p2', p3'⟩ := project_eq s keep (by omega) (by omega)
    have x1 : l.length ≤ (l ++ [spF]).length := by simp
    have x2 : s.length ≤ (s ++ [spF]).length := by simp
    have hK : (([] : List Int) ++ keep) ++ ([(-7)] : List Int) = keep ++ [-7] := rfl
    have hKl : (keep ++ [(-7 : Int)]).length = keep.length + 1 := by simp
    have g1 : (([] : List Int).length + keep.length) * 8 ≤ 140737488355328 := by simp only [List.length_nil]; omega
    have g2 : ((([] : List Int) ++ keep).length + ([(-7)] : List Int).length) * 8 ≤ 140737488355328 := by simp only [List.nil_append, List.length_cons, List.length_nil]; omega
    have g3 : (0 : Int) ≤ (keep.length : Int) ∧ (keep.length : Int) ≤ ((keep ++ [(-7 : Int)]).length : Int) := by rw [hKl]; omega
    have g4 : (keep.length : Int).toNat ≤ (keep ++ [(-7 : Int)]).length := by rw [hKl]; omega
    have g5 : (0 : Int) ≤ (keep.length : Int) ∧ (keep.length : Int) < ((keep ++ [(-7 : Int)]).length : Int) := by rw [hKl]; omega
    have hT : (keep ++ [(-7 : Int)]).take (keep.length : Int).toNat = keep := by rw [Int.toNat_natCast]; simp
    have hG : gt (keep ++ [(-7 : Int)]) (keep.length : Int) = -7 := by rw [gt_nat (by omega)]; simp
    have k1 := loop1 keep (by omega)
    have k2 := loop2 keep (by omega)
    have k3 := loop3 keep (by omega)
    have k4 := loop4 keep (by omega)
    have m1 := same p p (by omega)
    have m2 := same p' p' (by omega)
    simp only [decide_true] at m1 m2
    have b1 := back l (by omega)
    have b2 := back s (by omega)
    have o1 := spoil p (by omega)
    have o2 := spoil p' (by omega)
    have w0 : IntKind.i64.wrap ((0 : Int) + 1) = 1 := by rw [wi64_id (by omega) (by omega)]; rfl
    have w1 : IntKind.i64.wrap ((1 : Int) + 1) = 2 := by rw [wi64_id (by omega) (by omega)]; rfl
    have d0 : decide ((0 : Int) < 2) = true := rfl
    have d1 : decide ((1 : Int) < 2) = true := rfl
    have d2 : decide ((2 : Int) < 2) = false := rfl
    have c00 : ((0 : Int) == 0) = true := rfl
    have c10 : ((1 : Int) == 0) = false := rfl
    have c11 : ((1 : Int) == 1) = true := rfl
    have e2 : weirlaw10_StateProjects.l0 l keep s 2 = some (.inl ()) := by rw [weirlaw10_StateProjects.l0, if_neg (nt d2)]
    have e1 : weirlaw10_StateProjects.l0 l keep s 1 = some (.inl ()) := by
      rw [weirlaw10_StateProjects.l0]
      simp only [d1, c10, c11, Bool.false_eq_true, if_false, if_true, lent s (by omega), Option.bind_eq_bind, Option.bind_some, hK, if_pos g1, if_pos g2, if_pos g3, if_pos g4, if_pos g5, if_pos x2, List.take_left' rfl, hT, p1', p2', weirlaw10_num.f, bne_self_eq_false, m2, Bool.not_true, hG, k4, o2, b2, w1, e2]
    have e0 : weirlaw10_StateProjects.l0 l keep s 0 = some (.inl ()) := by
      rw [weirlaw10_StateProjects.l0]
      simp only [d0, c00, Bool.false_eq_true, if_false, if_true, lent l (by omega), Option.bind_eq_bind, Option.bind_some, hK, if_pos g1, if_pos g2, if_pos g3, if_pos g4, if_pos g5, if_pos x1, List.take_left' rfl, hT, p1, p2, weirlaw10_num.f, bne_self_eq_false, m1, Bool.not_true, hG, k1, o1, b1, w0, e1]
    simp only [Option.bind_some, e0]
  · rw [if_pos (by rw [decide_eq_false hf]; rfl)]
theorem projects_law (l : List api_Final) (keep : List Int) (hl : l.length * 392 ≤ reachBytes ∧ ∀ x ∈ l, ok_api_Final x) (hk : keep.length * 8 ≤ reachBytes ∧ ∀ x ∈ keep, (Lit.int IntKind.i64 x).wf = true) : weirlaw10_StateProjects.f l keep = some true :=
  projects_true l keep (Nat.le_trans hl.1 (by decide)) (Nat.le_trans hk.1 (by decide))
end Go.Proofs.Yteppciglfdiljaa.K
