/- Refs of any nodes, Holds over any values; CondAsks. -/
import Derived.Test.YthkpeoiphkndiaaVD
set_option linter.unusedVariables false
set_option linter.unusedSimpArgs false
set_option maxRecDepth 100000
namespace Go.Proofs.Ythkpeoiphkndiaa.K
open Go

/-- What a condition names. -/
def refsOf (c : List api_Node) : List api_Ref := (c.filter (fun n => n.Op == 2)).map (·.Ref)
theorem mem_refs {c : List api_Node} {z : api_Ref} : z ∈ refsOf c ↔ ∃ n ∈ c, n.Op = 2 ∧ n.Ref = z := by
  unfold refsOf
  rw [List.mem_map]
  constructor
  · rintro ⟨n, hn, rfl⟩
    have := List.mem_filter.1 hn
    exact ⟨n, this.1, by simpa using this.2, rfl⟩
  · rintro ⟨n, h1, h2, rfl⟩
    exact ⟨n, List.mem_filter.2 ⟨h1, by simpa using h2⟩, rfl⟩
theorem refs_len (c : List api_Node) : (refsOf c).length ≤ c.length := by unfold refsOf; rw [List.length_map]; exact List.length_filter_le _ _
theorem refs_pl (c : List api_Node) (hc : c.length ≤ 1024) : ∀ (n t : Nat) (acc : List api_Ref), t + n = c.length → acc.length ≤ t → cond_Refs.l0 c acc (t : Int) = some (acc ++ refsOf (c.drop t)) := by
  intro n
  induction n with
  | zero => intro t acc ht ha; rw [cond_Refs.l0, if_neg (nt (decide_eq_false (by omega))), List.drop_of_length_le (by omega)]; simp [refsOf]
  | succ n ih =>
    intro t acc ht ha
    have h1 : t < c.length := by omega
    have g : (0 : Int) ≤ (t : Int) ∧ (t : Int) < (c.length : Int) := by omega
    have q : ∀ z : api_Ref, (acc.length + ([z] : List api_Ref).length) * 24 ≤ 140737488355328 := by intro z; simp only [List.length_cons, List.length_nil]; omega
    rw [cond_Refs.l0, if_pos (decide_eq_true g.2)]
    simp only [if_pos g, gt_nat h1, if_pos (q _), w1 (show t < 9223372036854775807 by omega), List.drop_eq_getElem_cons h1]
    by_cases ho : (c[t].Op == 2) = true
    · rw [if_pos ho, ih (t + 1) _ (by omega) (by simp only [List.length_append, List.length_cons, List.length_nil]; omega)]
      simp only [refsOf, List.filter_cons, ho, if_true, List.map_cons, List.append_assoc, List.singleton_append]
    · rw [if_neg ho, ih (t + 1) _ (by omega) (by omega)]
      simp only [refsOf, List.filter_cons, ho, if_false, Bool.false_eq_true]
theorem okR_of {n : api_Node} (h : fd n = true) (ho : n.Op = 2) : okR n.Ref := by
  unfold fd at h
  rw [if_pos ho] at h
  simp only [Bool.and_eq_true, decide_eq_true_eq] at h
  exact ⟨h.1.2.2.1, h.1.2.2.2⟩
theorem refs_p (c : List api_Node) (hc : c.length ≤ 1024) (hf : ∀ n ∈ c, fd n = true) (hk : cond_Check.f c = some 0) : ∃ s, cond_Refs.f c = some (s, 0) ∧ Strict s ∧ (∀ z, z ∈ s ↔ z ∈ refsOf c) ∧ s.length ≤ c.length := by
  unfold cond_Refs.f
  rw [hk]
  simp only [Option.bind_eq_bind, Option.bind_some]
  have h1 := refs_pl c hc c.length 0 [] (by omega) (Nat.le_refl _)
  rw [List.drop_zero, List.nil_append, show (((0 : Nat)) : Int) = (0 : Int) from rfl] at h1
  have hl := refs_len c
  have hok : ∀ x ∈ refsOf c, okR x := by
    intro x hx
    obtain ⟨n, h1, h2, rfl⟩ := mem_refs.1 hx
    exact okR_of (hf n h1) h2
  obtain ⟨ys, y1, y2, y3, y4⟩ := sort_r (refsOf c) hok
  obtain ⟨s, s1, s2, s3, s4⟩ := compact ys y2 (by omega)
  rw [if_neg (by decide), h1]
  simp only [Option.bind_some]
  rw [if_pos (by omega), y1]
  simp only [Option.bind_some]
  rw [s1]
  exact ⟨s, rfl, s2, fun z => by rw [s3, y3], by omega⟩
/-! ### The document's Refs -/
theorem find_dl (c : List api_Node) (out : List api_Ref) (t : Nat) (ht : t < c.length) (hx : okR c[t].Ref) (hok : ∀ x ∈ out, okR x) (hl : out.length ≤ 1024) (hs : Strict out) : ∀ (n k : Nat), k + n = out.length → (∀ j (hj : j < out.length), j < k → cmpR out[j] c[t].Ref < 0) →
    ∃ r : Nat, weirref06_Refs.l1 c out (t : Int) (k : Int) = some (r : Int) ∧ r ≤ out.length ∧ (∀ j (hj : j < out.length), j < r → cmpR out[j] c[t].Ref < 0) ∧ ∀ h : r < out.length, 0 ≤ cmpR out[r] c[t].Ref := by
  intro n
  induction n with
  | zero =>
    intro k hk h
    rw [weirref06_Refs.l1, if_neg (nt (decide_eq_false (by omega)))]
    exact ⟨k, rfl, by omega, h, fun h2 => by omega⟩
  | succ n ih =>
    intro k hk h
    have hkl : k < out.length := by omega
    have g1 : (0 : Int) ≤ (k : Int) ∧ (k : Int) < (out.length : Int) := by omega
    have g2 : (0 : Int) ≤ (t : Int) ∧ (t : Int) < (c.length : Int) := by omega
    rw [weirref06_Refs.l1, if_pos (decide_eq_true g1.2), if_pos g1, if_pos g2, gt_nat hkl, gt_nat ht, below_d (hok _ (List.getElem_mem hkl)) hx, w1 (by omega)]
    simp only [Option.bind_eq_bind, Option.bind_some]
    by_cases hc : cmpR out[k] c[t].Ref < 0
    · rw [if_pos (decide_eq_true hc)]
      refine ih (k + 1) (by omega) (fun j hj hlt => ?_)
      rcases Nat.lt_or_ge j k with h1 | h1
      · exact h j hj h1
      · have : j = k := by omega
        subst this; exact hc
    · rw [if_neg (nt (decide_eq_false hc))]
      exact ⟨k, rfl, by omega, h, fun _ => by omega⟩
theorem refs_dl (c : List api_Node) (hc : c.length ≤ 1024) (hf : ∀ n ∈ c, fd n = true) : ∀ (n t : Nat) (out : List api_Ref), t + n = c.length → out.length ≤ t → Strict out → (∀ z, z ∈ out ↔ z ∈ refsOf (c.take t)) →
    ∃ s, weirref06_Refs.l0 c out (t : Int) = some s ∧ Strict s ∧ (∀ z, z ∈ s ↔ z ∈ refsOf c) := by
  intro n
  induction n with
  | zero =>
    intro t out ht hl hs hm
    rw [weirref06_Refs.l0, if_neg (nt (decide_eq_false (by omega)))]
    rw [List.take_of_length_le (by omega)] at hm
    exact ⟨out, rfl, hs, hm⟩
  | succ n ih =>
    intro t out ht hl hs hm
    have h1 : t < c.length := by omega
    have g : (0 : Int) ≤ (t : Int) ∧ (t : Int) < (c.length : Int) := by omega
    have hmem : ∀ z, z ∈ refsOf (c.take (t + 1)) ↔ z ∈ refsOf (c.take t) ∨ (c[t].Op = 2 ∧ c[t].Ref = z) := by
      intro z
      rw [mem_refs, mem_refs, List.take_succ_eq_append_getElem h1]
      constructor
      · rintro ⟨n, hn, h2⟩
        rcases List.mem_append.1 hn with h | h
        · exact .inl ⟨n, h, h2⟩
        · rw [List.mem_singleton] at h; subst h; exact .inr h2
      · rintro (⟨n, hn, h2⟩ | h2)
        · exact ⟨n, List.mem_append.2 (.inl hn), h2⟩
        · exact ⟨c[t], List.mem_append.2 (.inr (List.mem_singleton.2 rfl)), h2⟩
    have hokt : ∀ x ∈ out, okR x := by
      intro x hx
      obtain ⟨n, h2, h3, rfl⟩ := mem_refs.1 ((hm x).1 hx)
      exact okR_of (hf n (List.mem_of_mem_take h2)) h3
    rw [weirref06_Refs.l0, if_pos (decide_eq_true g.2)]
    simp only [if_pos g, gt_nat h1, w1 (show t < 9223372036854775807 by omega)]
    by_cases ho : c[t].Op = 2
    · rw [if_neg (by simp [ho])]
      have hx := okR_of (hf _ (List.getElem_mem h1)) ho
      obtain ⟨k, k1, k2, k3, k4⟩ := find_dl c out t h1 hx hokt (by omega) hs out.length 0 (by omega) (fun j hj h => by omega)
      rw [show (((0 : Nat)) : Int) = (0 : Int) from rfl] at k1
      rw [k1]
      simp only [Option.bind_eq_bind, Option.bind_some]
      have q1 : (0 : Int) ≤ (k : Int) ∧ (k : Int) ≤ ((out.length : Nat) : Int) := by omega
      have q2 : (([] : List api_Ref).length + ((out.drop (k : Int).toNat).take (out.length - (k : Int).toNat)).length) * 24 ≤ 140737488355328 := by simp only [List.length_nil, List.length_take, List.length_drop]; omega
      have q3 : ((k : Int).toNat + ([c[t].Ref] : List api_Ref).length) * 24 ≤ 140737488355328 ∧ (k : Int).toNat ≤ out.length := by simp only [List.length_cons, List.length_nil]; omega
      have q4 : (((out.take (k : Int).toNat) ++ ([c[t].Ref] : List api_Ref)).length + (([] : List api_Ref) ++ ((out.drop (k : Int).toNat).take (out.length - (k : Int).toNat))).length) * 24 ≤ 140737488355328 := by simp only [List.length_nil, List.length_append, List.length_cons, List.length_take, List.length_drop]; omega
      have e1 : ((out.take (k : Int).toNat) ++ ([c[t].Ref] : List api_Ref)) ++ (([] : List api_Ref) ++ ((out.drop (k : Int).toNat).take (out.length - (k : Int).toNat))) = out.take k ++ c[t].Ref :: out.drop k := by
        have e0 : (out.drop k).take (out.length - k) = out.drop k := List.take_of_length_le (by rw [List.length_drop]; exact Nat.le_refl _)
        rw [Int.toNat_natCast, List.nil_append, e0, List.append_assoc]; rfl
      simp only [if_pos q1, if_pos q2, if_pos q3, if_pos q4, e1]
      have ins : (∀ h : k < out.length, out[k] ≠ c[t].Ref) → ∃ s, weirref06_Refs.l0 c (out.take k ++ c[t].Ref :: out.drop k) ((t + 1 : Nat) : Int) = some s ∧ Strict s ∧ (∀ z, z ∈ s ↔ z ∈ refsOf c) := by
        intro hne
        refine ih (t + 1) _ (by omega) (by simp only [List.length_append, List.length_take, List.length_cons, List.length_drop]; omega) (strict_ins k2 hs (fun j hj hkj => ?_) (fun h => k3 _ _ (by omega))) (fun z => ?_)
        · rcases Nat.lt_or_ge k j with h2 | h2
          · have h3 := k4 (by omega)
            have h4 := pw_get hs h2 hj
            have s1 := cmpR_swap out[k] c[t].Ref
            have s2 := cmpR_swap out[k] out[j]
            have h5 : cmpR c[t].Ref out[j] < 0 := by
              have hle := cmpR_le_trans (a := c[t].Ref) (b := out[k]) (c := out[j]) (by omega) (by omega)
              rcases Int.lt_or_eq_of_le hle with h | h
              · exact h
              · have := cmpR_zero.1 h
                rw [this] at s1 h3
                omega
            have := cmpR_swap c[t].Ref out[j]
            omega
          · have : j = k := by omega
            subst this
            have h3 := k4 hj
            have h4 : cmpR out[j] c[t].Ref ≠ 0 := fun e => hne hj (cmpR_zero.1 e)
            omega
        · rw [mem_ins, hm, hmem]
          constructor
          · rintro (h | h)
            · exact .inl h
            · exact .inr ⟨ho, h.symm⟩
          · rintro (h | h)
            · exact .inl h
            · exact .inr h.2.symm
      by_cases hkl : k = out.length
      · rw [if_pos (by simp [hkl])]
        exact ins (fun h => by omega)
      · have q5 : (0 : Int) ≤ (k : Int) ∧ (k : Int) < (out.length : Int) := by omega
        rw [if_neg (by simp; omega)]
        simp only [if_pos q5, gt_nat (show k < out.length by omega)]
        by_cases he : out[k]'(by omega) = c[t].Ref
        · rw [if_neg (by simp [he])]
          refine ih (t + 1) out (by omega) (by omega) hs (fun z => ?_)
          rw [hm, hmem]
          constructor
          · exact .inl
          · rintro (h | h)
            · exact h
            · rw [← hm, ← h.2, ← he]; exact List.getElem_mem _
        · rw [if_pos (by simpa using he)]
          exact ins (fun _ => he)
    · rw [if_pos (by simpa using ho)]
      refine ih (t + 1) out (by omega) (by omega) hs (fun z => ?_)
      rw [hm, hmem]
      exact ⟨.inl, fun h => h.elim id (fun h => absurd h.1 ho)⟩
theorem refs_d (c : List api_Node) (hc : c.length ≤ 1024) (hf : ∀ n ∈ c, fd n = true) (hk : weirref06_Check.f c = some 0) : ∃ s, weirref06_Refs.f c = some (s, 0) ∧ Strict s ∧ (∀ z, z ∈ s ↔ z ∈ refsOf c) := by
  unfold weirref06_Refs.f
  rw [hk]
  simp only [Option.bind_eq_bind, Option.bind_some]
  obtain ⟨s, h1, h2, h3⟩ := refs_dl c hc hf c.length 0 [] (by omega) (Nat.le_refl _) List.Pairwise.nil (fun z => by simp [refsOf])
  rw [show (((0 : Nat)) : Int) = (0 : Int) from rfl] at h1
  rw [if_neg (by decide), h1]
  exact ⟨s, rfl, h2, h3⟩
/-! ### Values -/
def ofo : List api_Ref → List Int → api_Ref → Option Int
  | x :: xs, v :: vs, r => if x = r then some v else ofo xs vs r
  | _, _, _ => none
def ofv (s : weirlaw06_Set) (r : api_Ref) : Int := (ofo s.Refs s.Values r).getD s.Rest
theorem of_l (s : weirlaw06_Set) (r : api_Ref) (h1 : s.Refs.length ≤ 1000000000000000) : ∀ (n t : Nat), t + n = s.Refs.length → weirlaw06_Set__of.l0 s r (t : Int) = some (match ofo (s.Refs.drop t) (s.Values.drop t) r with | some v => .inr v | none => .inl ()) := by
  intro n
  induction n with
  | zero =>
    intro t ht
    rw [weirlaw06_Set__of.l0, if_neg (nt (decide_eq_false (by omega))), List.drop_of_length_le (by omega)]; rfl
  | succ n ih =>
    intro t ht
    have hr : t < s.Refs.length := by omega
    have g1 : (0 : Int) ≤ (t : Int) ∧ (t : Int) < (s.Refs.length : Int) := by omega
    rw [weirlaw06_Set__of.l0, if_pos (decide_eq_true g1.2), List.drop_eq_getElem_cons hr]
    by_cases hv : t < s.Values.length
    · have g2 : (0 : Int) ≤ (t : Int) ∧ (t : Int) < (s.Values.length : Int) := by omega
      rw [if_pos (decide_eq_true g2.2), if_pos g1, gt_nat hr, if_pos g2, gt_nat hv, w1 (by omega), ih (t + 1) (by omega), List.drop_eq_getElem_cons hv]
      simp only [ofo]
      by_cases he : s.Refs[t] = r
      · rw [if_pos (decide_eq_true he), if_pos he]
      · rw [if_neg (nt (decide_eq_false he)), if_neg he]
    · rw [if_neg (nt (decide_eq_false (by omega))), show s.Values.drop t = [] from List.drop_of_length_le (by omega)]; rfl
theorem of_s (s : weirlaw06_Set) (r : api_Ref) (h1 : s.Refs.length ≤ 1000000000000000) : weirlaw06_Set__of.f s r = some (ofv s r) := by
  unfold weirlaw06_Set__of.f ofv
  have := of_l s r h1 s.Refs.length 0 (by omega)
  rw [List.drop_zero, List.drop_zero, show (((0 : Nat)) : Int) = (0 : Int) from rfl] at this
  rw [this]
  cases ofo s.Refs s.Values r <;> rfl
theorem value_l (a : List api_Ref) (b : List Int) (r : api_Ref) (h1 : a.length ≤ 1024) : ∀ (n t : Nat), t + n = a.length → weirref06_value.l0 a b r (t : Int) = some (match ofo (a.drop t) (b.drop t) r with | some v => .inr v | none => .inl ()) := by
  intro n
  induction n with
  | zero =>
    intro t ht
    rw [weirref06_value.l0, if_neg (nt (decide_eq_false (by omega))), List.drop_of_length_le (by omega)]; rfl
  | succ n ih =>
    intro t ht
    have hr : t < a.length := by omega
    have g1 : (0 : Int) ≤ (t : Int) ∧ (t : Int) < (a.length : Int) := by omega
    rw [weirref06_value.l0, if_pos (decide_eq_true g1.2), List.drop_eq_getElem_cons hr]
    by_cases hv : t < b.length
    · have g2 : (0 : Int) ≤ (t : Int) ∧ (t : Int) < (b.length : Int) := by omega
      rw [if_pos (decide_eq_true g2.2), if_pos g1, gt_nat hr, if_pos g2, gt_nat hv, w1 (by omega), ih (t + 1) (by omega), List.drop_eq_getElem_cons hv]
      simp only [ofo]
      by_cases he : a[t] = r
      · rw [if_pos (decide_eq_true he), if_pos he]
      · rw [if_neg (nt (decide_eq_false he)), if_neg he]
    · rw [if_neg (nt (decide_eq_false (by omega))), show b.drop t = [] from List.drop_of_length_le (by omega)]; rfl
theorem ofo_map (f : api_Ref → Int) (r : api_Ref) : ∀ a : List api_Ref, r ∈ a → ofo a (a.map f) r = some (f r)
  | [], h => by cases h
  | x :: a, h => by
    simp only [List.map_cons, ofo]
    by_cases he : x = r
    · rw [if_pos he, he]
    · rw [if_neg he]; exact ofo_map f r a ((List.mem_cons.1 h).resolve_left (fun e => he e.symm))
theorem value_s (s : weirlaw06_Set) (a : List api_Ref) (r : api_Ref) (h1 : a.length ≤ 1024) (hr : r ∈ a) : weirref06_value.f a (a.map (ofv s)) r = some (ofv s r) := by
  unfold weirref06_value.f
  have := value_l a (a.map (ofv s)) r h1 a.length 0 (by omega)
  rw [List.drop_zero, List.drop_zero, show (((0 : Nat)) : Int) = (0 : Int) from rfl, ofo_map _ _ _ hr] at this
  rw [this]; rfl
theorem known_l (r : api_Ref) (a : List api_Ref) (h1 : a.length ≤ 1024) : ∀ (n t : Nat) (b : Bool), t + n = a.length → weirlaw06_CondAsks_1.l0 r a b (t : Int) = some (b || decide (r ∈ a.drop t)) := by
  intro n
  induction n with
  | zero =>
    intro t b ht
    rw [weirlaw06_CondAsks_1.l0, if_neg (nt (decide_eq_false (by omega))), List.drop_of_length_le (by omega)]; simp
  | succ n ih =>
    intro t b ht
    have hr : t < a.length := by omega
    have g1 : (0 : Int) ≤ (t : Int) ∧ (t : Int) < (a.length : Int) := by omega
    rw [weirlaw06_CondAsks_1.l0, if_pos (decide_eq_true g1.2)]
    simp only [if_pos g1, gt_nat hr, w1 (show t < 9223372036854775807 by omega), ih (t + 1) _ (show t + 1 + n = a.length by omega)]
    rw [List.drop_eq_getElem_cons hr]
    generalize a.drop (t + 1) = R
    cases b
    · by_cases he : a[t] = r
      · simp [he]
      · have : r ≠ a[t] := fun e => he e.symm
        simp [he, this]
    · simp
theorem asks_s (r : api_Ref) (a : List api_Ref) (s : weirlaw06_Set) (h1 : a.length ≤ 1024) (hs : s.Refs.length ≤ 1000000000000000) (hr : r ∈ a) : weirlaw06_CondAsks_1.f r a false s = some (ofv s r, false) := by
  unfold weirlaw06_CondAsks_1.f
  have := known_l r a h1 a.length 0 false (by omega)
  rw [List.drop_zero, show (((0 : Nat)) : Int) = (0 : Int) from rfl] at this
  rw [this]
  have e : (⟨s.Refs, s.Values, s.Rest⟩ : weirlaw06_Set) = s := rfl
  simp [hr, e, of_s s r hs]
/-! ### Holds -/
theorem fd_op {n : api_Node} (h : fd n = true) : n.Op = 1 ∨ n.Op = 2 ∨ n.Op = 3 ∨ n.Op = 4 ∨ n.Op = 5 := by
  unfold fd at h
  split at h
  · omega
  split at h
  · omega
  split at h
  · omega
  split at h
  · omega
  · cases h
theorem setl_snoc (hs : List Bool) (n : Nat) (b : Bool) : setl (hs ++ List.replicate (n + 1) false) (hs.length : Int) b = (hs ++ [b]) ++ List.replicate n false := by
  unfold setl
  rw [Int.toNat_natCast, List.replicate_succ]; simp
theorem gt_app (hs : List Bool) (r : List Bool) (a : Nat) (h : a < hs.length) : gt (hs ++ r) (a : Int) = gt hs (a : Int) := by
  rw [gt_nat (by rw [List.length_append]; omega), gt_nat h, List.getElem_append_left h]
theorem holds_l (c : List api_Node) (g : Nat → Nat) (s : weirlaw06_Set) (want : List api_Ref) (hc : c.length ≤ 1024) (hw : Wf c g c.length) (hf : ∀ j, j < c.length → fd (gt c (j : Int)) = true) (hwl : want.length ≤ 1024) (hs : s.Refs.length ≤ 1000000000000000) (hr : ∀ n ∈ c, n.Op = 2 → n.Ref ∈ want) :
    ∀ (n : Nat) (hv : List Bool), hv.length + n = c.length → ∃ hv', cond_Holds.l0 c want s (hv.length : Int) (hv ++ List.replicate n false) false = some (hv', false) ∧ weirref06_Holds.l0 c want (want.map (ofv s)) hv (hv.length : Int) = some hv' ∧ hv'.length = c.length := by
  intro n
  induction n with
  | zero =>
    intro hv ht
    rw [cond_Holds.l0, weirref06_Holds.l0, if_neg (nt (decide_eq_false (by omega))), if_neg (nt (decide_eq_false (by omega)))]
    exact ⟨hv, by simp, rfl, by omega⟩
  | succ n ih =>
    intro hv ht
    have h1 : hv.length < c.length := by omega
    have gi : (0 : Int) ≤ (hv.length : Int) ∧ (hv.length : Int) < (c.length : Int) := by omega
    have gl : (0 : Int) ≤ (hv.length : Int) ∧ (hv.length : Int) < ((hv ++ List.replicate (n + 1) false).length : Int) := by simp only [List.length_append, List.length_replicate]; omega
    have qb : ∀ z : Bool, (hv.length + ([z] : List Bool).length) * 1 ≤ 140737488355328 := by intro z; simp only [List.length_cons, List.length_nil]; omega
    have hfd := hf _ h1
    obtain ⟨w1', w3, w45⟩ := hw _ h1
    have hrn := hr (c[hv.length]) (List.getElem_mem h1)
    rw [← gt_nat h1] at hrn
    have next : ∀ b : Bool, ∃ hv', cond_Holds.l0 c want s ((hv.length + 1 : Nat) : Int) (setl (hv ++ List.replicate (n + 1) false) (hv.length : Int) b) false = some (hv', false) ∧ weirref06_Holds.l0 c want (want.map (ofv s)) (hv ++ [b]) ((hv.length + 1 : Nat) : Int) = some hv' ∧ hv'.length = c.length := by
      intro b
      have := ih (hv ++ [b]) (by simp only [List.length_append, List.length_cons, List.length_nil]; omega)
      rw [setl_snoc]
      simp only [List.length_append, List.length_cons, List.length_nil] at this
      exact this
    rw [cond_Holds.l0, weirref06_Holds.l0, if_pos (decide_eq_true gi.2), if_pos (decide_eq_true gi.2)]
    have eS : (⟨s.Refs, s.Values, s.Rest⟩ : weirlaw06_Set) = s := rfl
    simp only [if_pos gi, if_pos gl, if_pos (qb _), w1 (show hv.length < 9223372036854775807 by omega), eS, Option.bind_eq_bind]
    generalize gt c (hv.length : Int) = nd at *
    have part : ∀ a : Nat, a < hv.length → ∀ x : Int, x = (a : Int) → (0 : Int) ≤ x ∧ x < ((hv ++ List.replicate (n + 1) false).length : Int) ∧ x < (hv.length : Int) ∧ gt (hv ++ List.replicate (n + 1) false) x = gt hv x := by
      rintro a ha x rfl
      refine ⟨by omega, by simp only [List.length_append, List.length_replicate]; omega, by omega, gt_app _ _ _ ha⟩
    rcases fd_op hfd with ho | ho | ho | ho | ho
    · simp only [ho, show ((1 : Int) == 1) = true from rfl, show ((1 : Int) == 2) = false from rfl, show ((1 : Int) == 3) = false from rfl, show ((1 : Int) == 4) = false from rfl, show ((1 : Int) == 5) = false from rfl, if_true, if_false, Bool.false_eq_true, Option.bind_some]
      exact next true
    · have hin := hrn ho
      have e1 := asks_s nd.Ref want s hwl hs hin
      have e2 := value_s s want nd.Ref hwl hin
      simp only [ho, show ((2 : Int) == 1) = false from rfl, show ((2 : Int) == 2) = true from rfl, if_true, if_false, Bool.false_eq_true, e1, e2, Option.bind_some]
      cases hb : (ofv s nd.Ref == nd.Value)
      · simp only [Bool.false_eq_true, if_false, Option.bind_some]; exact next false
      · simp only [if_true, Option.bind_some]; exact next true
    · obtain ⟨j1, j2, _⟩ := w3 ho
      obtain ⟨p1, p2, p3, p4⟩ := part (hv.length - 1) (by omega) nd.A j2
      simp only [ho, show ((3 : Int) == 1) = false from rfl, show ((3 : Int) == 2) = false from rfl, show ((3 : Int) == 3) = true from rfl, if_true, if_false, Bool.false_eq_true, if_pos (And.intro p1 p2), if_pos (And.intro p1 p3), p4]
      cases gt hv nd.A
      · simp only [Bool.false_eq_true, if_false, Option.bind_some]; exact next true
      · simp only [if_true, Option.bind_some]; exact next false
    · obtain ⟨j1, j2, j3, j4, _⟩ := w45 (.inl ho)
      have hgj := (hw (hv.length - 1) (by omega)).1
      obtain ⟨p1, p2, p3, p4⟩ := part (hv.length - 1) (by omega) nd.B j2
      obtain ⟨r1, r2, r3, r4⟩ := part (g (hv.length - 1) - 1) (by omega) nd.A j4
      simp only [ho, show ((4 : Int) == 1) = false from rfl, show ((4 : Int) == 2) = false from rfl, show ((4 : Int) == 3) = false from rfl, show ((4 : Int) == 4) = true from rfl, if_true, if_false, Bool.false_eq_true, if_pos (And.intro p1 p2), if_pos (And.intro p1 p3), if_pos (And.intro r1 r2), if_pos (And.intro r1 r3), p4, r4]
      cases gt hv nd.A
      · simp only [Bool.false_eq_true, if_false, Option.bind_some]; exact next false
      · simp only [if_true]
        cases gt hv nd.B
        · simp only [Bool.false_eq_true, if_false, Option.bind_some]; exact next false
        · simp only [if_true, Option.bind_some]; exact next true
    · obtain ⟨j1, j2, j3, j4, _⟩ := w45 (.inr ho)
      have hgj := (hw (hv.length - 1) (by omega)).1
      obtain ⟨p1, p2, p3, p4⟩ := part (hv.length - 1) (by omega) nd.B j2
      obtain ⟨r1, r2, r3, r4⟩ := part (g (hv.length - 1) - 1) (by omega) nd.A j4
      simp only [ho, show ((5 : Int) == 1) = false from rfl, show ((5 : Int) == 2) = false from rfl, show ((5 : Int) == 3) = false from rfl, show ((5 : Int) == 4) = false from rfl, show ((5 : Int) == 5) = true from rfl, if_true, if_false, Bool.false_eq_true, if_pos (And.intro p1 p2), if_pos (And.intro p1 p3), if_pos (And.intro r1 r2), if_pos (And.intro r1 r3), p4, r4]
      cases gt hv nd.A
      · simp only [Bool.false_eq_true, if_false]
        cases gt hv nd.B
        · simp only [Bool.false_eq_true, if_false, Option.bind_some]; exact next false
        · simp only [if_true, Option.bind_some]; exact next true
      · simp only [if_true, Option.bind_some]; exact next true
/-! ### The law -/
theorem same_rl (a : List api_Ref) (hs : a.length ≤ 100000) : ∀ (n t : Nat), t + n = a.length → weirlaw06_sameRefs.l0 a a (t : Int) = some (.inl ()) := by
  intro n
  induction n with
  | zero => intro t ht; rw [weirlaw06_sameRefs.l0, if_neg (nt (decide_eq_false (by omega)))]
  | succ n ih =>
    intro t ht
    have g : (0 : Int) ≤ (t : Int) ∧ (t : Int) < (a.length : Int) := by omega
    rw [weirlaw06_sameRefs.l0, if_pos (decide_eq_true g.2), if_pos g, if_pos g, if_neg (by simp), w1 (by omega), ih (t + 1) (by omega)]
theorem same_r (a : List api_Ref) (hs : a.length ≤ 100000) : weirlaw06_sameRefs.f a a = some true := by
  unfold weirlaw06_sameRefs.f
  have := same_rl a hs a.length 0 (by omega)
  rw [show (((0 : Nat)) : Int) = (0 : Int) from rfl] at this
  rw [if_neg (by simp), this]; rfl
theorem values_l (s : weirlaw06_Set) (a : List api_Ref) (h1 : a.length ≤ 1024) (hs : s.Refs.length ≤ 1000000000000000) : ∀ (n t : Nat) (acc : List Int), t + n = a.length → acc.length ≤ t → weirlaw06_CondAsks.l0 s a acc (t : Int) = some (acc ++ (a.drop t).map (ofv s)) := by
  intro n
  induction n with
  | zero => intro t acc ht ha; rw [weirlaw06_CondAsks.l0, if_neg (nt (decide_eq_false (by omega))), List.drop_of_length_le (by omega)]; simp
  | succ n ih =>
    intro t acc ht ha
    have hr : t < a.length := by omega
    have g : (0 : Int) ≤ (t : Int) ∧ (t : Int) < (a.length : Int) := by omega
    have e : (⟨s.Refs, s.Values, s.Rest⟩ : weirlaw06_Set) = s := rfl
    rw [weirlaw06_CondAsks.l0, if_pos (decide_eq_true g.2), if_pos g, gt_nat hr, e, of_s s _ hs]
    simp only [Option.bind_eq_bind, Option.bind_some]
    rw [if_pos (by simp only [List.length_cons, List.length_nil]; omega), w1 (by omega), ih (t + 1) _ (by omega) (by simp only [List.length_append, List.length_cons, List.length_nil]; omega), List.drop_eq_getElem_cons hr, List.map_cons, List.append_assoc, List.singleton_append]
theorem spoil_r : ∀ (n t : Nat) (l : List api_Ref), t + n = l.length → l.length ≤ 100000 → ∃ l', weirlaw06_CondAsks.l1 (t : Int) l = some l' ∧ l'.length = l.length := by
  intro n
  induction n with
  | zero => intro t l ht hl; exact ⟨l, by rw [weirlaw06_CondAsks.l1, if_neg (nt (decide_eq_false (by omega)))], rfl⟩
  | succ n ih =>
    intro t l ht hl
    obtain ⟨l', h1, h2⟩ := ih (t + 1) (setl l (t : Int) (⟨(-9), (⟨#[]⟩ : ByteArray)⟩ : api_Ref)) (by rw [setl_len]; omega) (by rw [setl_len]; omega)
    exact ⟨l', by rw [weirlaw06_CondAsks.l1, if_pos (decide_eq_true (by omega)), if_pos (by omega), w1 (by omega), h1], by rw [h2, setl_len]⟩
theorem more_r : ∀ (n t : Nat) (l : List api_Ref), t + n = 20 → l.length + n ≤ 1000000 → weirlaw06_CondAsks.l2 l (t : Int) = some () := by
  intro n
  induction n with
  | zero => intro t l ht hl; rw [weirlaw06_CondAsks.l2, if_neg (nt (decide_eq_false (by omega)))]
  | succ n ih =>
    intro t l ht hl
    rw [weirlaw06_CondAsks.l2, if_pos (decide_eq_true (by omega)), if_pos (by simp only [List.length_cons, List.length_nil]; omega), w1 (by omega), ih (t + 1) _ (by omega) (by simp only [List.length_append, List.length_cons, List.length_nil]; omega)]
theorem asks_law (c : List api_Node) (s : weirlaw06_Set) (hl : c.length * 56 ≤ bnd ∧ ∀ x ∈ c, ok_api_Node x) (hs : ok_weirlaw06_Set s) : weirlaw06_CondAsks.f c s = some true := by
  have hl1 : c.length * 56 ≤ 0x7ffffffff000 := hl.1
  have hs1 : s.Refs.length ≤ 1000000000000000 := by
    have : s.Refs.length * 24 ≤ 0x7ffffffff000 := hs.1.1
    omega
  unfold weirlaw06_CondAsks.f
  rw [lent c hl1]
  have ht : (c ++ [spN]).take c.length = c := by rw [List.take_append_of_le_length (Nat.le_refl _), List.take_length]
  have q : c.length ≤ (c ++ [spN]).length := by simp
  have eS : (⟨s.Refs, s.Values, s.Rest⟩ : weirlaw06_Set) = s := rfl
  simp only [Option.bind_eq_bind, Option.bind_some, if_pos q, ht, eS]
  obtain ⟨e, e1, e2, e3⟩ := check_pd c
  have hb := back c (by omega)
  have more : ∀ l : List api_Ref, l.length ≤ 1024 → ∃ l', weirlaw06_CondAsks.l1 0 l = some l' ∧ weirlaw06_CondAsks.l2 l' 0 = some () := by
    intro l hl
    obtain ⟨l', h1, h2⟩ := spoil_r l.length 0 l (by omega) (by omega)
    have h3 := more_r 20 0 l' (by omega) (by omega)
    rw [show (((0 : Nat)) : Int) = (0 : Int) from rfl] at h1 h3
    exact ⟨l', h1, h3⟩
  by_cases he : e = 0
  · subst he
    obtain ⟨k1, k2, g, k3, k4, k5⟩ := e3 rfl
    have hf : ∀ n ∈ c, fd n = true := by
      intro n hn
      obtain ⟨j, hj, rfl⟩ := List.mem_iff_getElem.1 hn
      rw [← gt_nat hj]; exact k5 j hj
    obtain ⟨r, r1, r2, r3, r4⟩ := refs_p c k2 hf e1
    obtain ⟨r', d1, d2, d3⟩ := refs_d c k2 hf e2
    have : r' = r := strict_unique d2 r2 (fun z => by rw [d3, r3])
    subst this
    have hsm := same_r r' (by omega)
    obtain ⟨l', m1, m2⟩ := more r' (by omega)
    have hv := values_l s r' (by omega) hs1 r'.length 0 [] (by omega) (Nat.le_refl _)
    rw [List.drop_zero, List.nil_append, show (((0 : Nat)) : Int) = (0 : Int) from rfl] at hv
    have hmem : ∀ n ∈ c, n.Op = 2 → n.Ref ∈ r' := fun n hn ho => (r3 _).2 (mem_refs.2 ⟨n, hn, ho, rfl⟩)
    obtain ⟨hv', p1, p2, p3⟩ := holds_l c g s r' k2 k3 k5 (by omega) hs1 hmem c.length [] (by simp)
    simp only [List.nil_append, List.length_nil] at p1 p2
    rw [show (((0 : Nat)) : Int) = (0 : Int) from rfl] at p1 p2
    have hw : IntKind.i64.wrap ((c.length : Int) - 1) = ((c.length - 1 : Nat) : Int) := wsub1 (by omega) (by omega)
    have hq : (0 : Int) ≤ ((c.length - 1 : Nat) : Int) ∧ ((c.length - 1 : Nat) : Int) < (hv'.length : Int) := by omega
    have hH : cond_Holds.f c r' false s = some (gt hv' ((c.length - 1 : Nat) : Int), 0, false) := by
      unfold cond_Holds.f
      rw [e1]
      simp only [Option.bind_eq_bind, Option.bind_some]
      rw [if_neg (by decide), if_pos (by omega), Int.toNat_natCast, p1]
      simp only [Option.bind_some, hw, if_pos hq]
      cases gt hv' ((c.length - 1 : Nat) : Int) <;> rfl
    have hD : weirref06_Holds.f c r' (r'.map (ofv s)) = some (gt hv' ((c.length - 1 : Nat) : Int), 0) := by
      unfold weirref06_Holds.f
      rw [e2]
      simp only [Option.bind_eq_bind, Option.bind_some]
      rw [if_neg (by decide), p2]
      simp only [Option.bind_some, p3, hw]
      rw [if_pos (by omega)]
      cases gt hv' ((c.length - 1 : Nat) : Int) <;> rfl
    rw [r1, d1]
    simp only [Option.bind_some, hsm, Bool.not_true, Bool.false_eq_true, if_false, weirlaw06_num.f]
    rw [if_neg (by decide), hH]
    simp only [Option.bind_some]
    rw [hv]
    simp only [Option.bind_some]
    rw [hD]
    simp only [Option.bind_some]
    rw [m1]
    simp only [Option.bind_some]
    rw [m2]
    simp only [Option.bind_some, beq_self_eq_true, if_true, Bool.not_false, hsm, hb]
  · have r1 : cond_Refs.f c = some ([], e) := by
      unfold cond_Refs.f; rw [e1]; simp only [Option.bind_eq_bind, Option.bind_some]; rw [if_pos (by simpa using he)]
    have d1 : weirref06_Refs.f c = some ([], e) := by
      unfold weirref06_Refs.f; rw [e2]; simp only [Option.bind_eq_bind, Option.bind_some]; rw [if_pos (by simpa using he)]
    have hsm := same_r [] (by simp)
    obtain ⟨l', m1, m2⟩ := more [] (by simp)
    have hH : cond_Holds.f c [] false s = some (false, e, false) := by
      unfold cond_Holds.f; rw [e1]; simp only [Option.bind_eq_bind, Option.bind_some]; rw [if_pos (by simpa using he)]
    have hD : ∀ v, weirref06_Holds.f c [] v = some (false, e) := by
      intro v; unfold weirref06_Holds.f; rw [e2]; simp only [Option.bind_eq_bind, Option.bind_some]; rw [if_pos (by simpa using he)]
    have hv := values_l s [] (by simp) hs1 0 0 [] rfl (Nat.le_refl _)
    rw [show (((0 : Nat)) : Int) = (0 : Int) from rfl] at hv
    rw [r1, d1]
    simp only [Option.bind_some, hsm, Bool.not_true, Bool.false_eq_true, if_false, weirlaw06_num.f, bne_self_eq_false]
    rw [hH]
    simp only [Option.bind_some]
    rw [hv]
    simp only [Option.bind_some]
    rw [hD]
    simp only [Option.bind_some]
    rw [m1]
    simp only [Option.bind_some]
    rw [m2]
    simp only [Option.bind_some, beq_self_eq_true, if_true, Bool.not_false, hsm, hb]
end Go.Proofs.Ythkpeoiphkndiaa.K
