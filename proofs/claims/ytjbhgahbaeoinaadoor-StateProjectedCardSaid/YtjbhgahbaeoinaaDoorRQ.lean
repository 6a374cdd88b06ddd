/- Projected twice is projected once: StateProjected. -/
import Derived.Test.YtjbhgahbaeoinaaDoorRW
set_option linter.unusedVariables false
set_option linter.unusedSimpArgs false
set_option maxRecDepth 100000
namespace Go.Proofs.YtjbhgahbaeoinaaDoor.K
open Go

theorem same_l0 (a b : List api_Final) (hl : a.length = b.length) (hs : a.length ≤ 100000) : ∀ (n t : Nat), t + n = a.length → weirlaw10_Same.l0 a b (t : Int) = some (if a.drop t = b.drop t then .inl () else .inr false) := by
  intro n
  induction n with
  | zero =>
    intro t ht
    have e1 : decide ((t : Int) < (a.length : Int)) = false := decide_eq_false (by omega)
    rw [weirlaw10_Same.l0, if_neg (nt e1), List.drop_of_length_le (by omega), List.drop_of_length_le (by omega), if_pos rfl]
  | succ n ih =>
    intro t ht
    have h1 : t < a.length := by omega
    have h2 : t < b.length := by omega
    have e1 : decide ((t : Int) < (a.length : Int)) = true := decide_eq_true (by omega)
    have g1 : (0 : Int) ≤ (t : Int) ∧ (t : Int) < (a.length : Int) := by omega
    have g2 : (0 : Int) ≤ (t : Int) ∧ (t : Int) < (b.length : Int) := by omega
    rw [weirlaw10_Same.l0, if_pos e1, if_pos g1, if_pos g2, gt_nat h1, gt_nat h2, List.drop_eq_getElem_cons h1, List.drop_eq_getElem_cons h2]
    by_cases he : a[t] = b[t]
    · rw [if_neg (by simp [he]), w1 (by omega), ih (t + 1) (by omega)]
      simp only [List.cons.injEq, he, true_and]
    · rw [if_pos (by simpa using he), if_neg (fun h => he (List.cons.inj h).1)]
theorem same (a b : List api_Final) (hs : a.length ≤ 100000) : weirlaw10_Same.f a b = some (decide (a = b)) := by
  unfold weirlaw10_Same.f
  by_cases hl : a.length = b.length
  · have := same_l0 a b hl hs a.length 0 (by omega)
    rw [if_neg (by simp [hl]), show ((0 : Int)) = ((0 : Nat) : Int) from rfl, this, List.drop_zero, List.drop_zero]
    by_cases h : a = b <;> simp [h]
  · rw [if_pos (by simp only [bne_iff_ne, ne_eq]; omega)]
    have : a ≠ b := fun h => hl (by rw [h])
    simp [this]
/-! ### A state projected -/
def ofV (l : List Int) : Vector Int 48 := Vector.ofFn (fun j : Fin 48 => l.getD j.1 0)
theorem ofV_nil : ofV [] = Vector.replicate 48 0 := by
  apply Vector.ext
  intro i hi
  simp [ofV]
theorem ofV_toList (l : List Int) (i : Nat) (hi : i < 48) : (ofV l).toList[i]'(by simpa using hi) = l.getD i 0 := by
  simp [ofV]
theorem vget_ofV (l : List Int) (i : Nat) (hi : i < 48) : vget (ofV l) (i : Int) = l.getD i 0 := by
  rw [vget_nat hi, ofV_toList l i hi]
theorem ofV_snoc (l : List Int) (x : Int) (h : l.length < 48) : vset (ofV l) (l.length : Int) x = ofV (l ++ [x]) := by
  unfold vset
  apply Vector.ext
  intro i hi
  simp only [Int.toNat_natCast, Vector.getElem_setIfInBounds, ofV, Vector.getElem_ofFn]
  simp only [List.getD_eq_getElem?_getD]
  by_cases e : l.length = i
  · subst e; simp
  · rw [if_neg e]
    by_cases h2 : i < l.length
    · rw [List.getElem?_append_left h2]
    · rw [List.getElem?_eq_none (by omega), List.getElem?_eq_none (by simp; omega)]
def proj (f : api_Final) (keep : List Int) : api_Final := ⟨(keep.length : Int), ofV (keep.map (vget f.V))⟩
/-- Each number is one of the state's. -/
def Inr (f : api_Final) (keep : List Int) : Prop := ∀ k ∈ keep, 0 ≤ k ∧ k < f.N
theorem pj_ok (f : api_Final) (N : Int) : ∀ (ks pre : List Int), pre.length + ks.length ≤ 48 → Inr f ks → pj f ks pre.length ⟨N, ofV pre⟩ = .inl ⟨N, ofV (pre ++ ks.map (vget f.V))⟩
  | [], pre, h, hk => by simp [pj]
  | k :: ks, pre, h, hk => by
    have h1 := hk k (List.mem_cons_self ..)
    simp only [List.length_cons] at h
    simp only [pj]
    rw [if_neg (by omega), if_neg (by omega), ofV_snoc pre _ (by omega)]
    have := pj_ok f N ks (pre ++ [vget f.V k]) (by simp only [List.length_append, List.length_cons, List.length_nil]; omega) (fun z hz => hk z (List.mem_cons_of_mem _ hz))
    rw [List.length_append, List.length_cons, List.length_nil] at this
    rw [this]
    simp
theorem pj_in (f : api_Final) : ∀ (ks : List Int) (i : Nat) (g r : api_Final), pj f ks i g = .inl r → Inr f ks
  | [], i, g, r, h => fun k hk => by cases hk
  | k :: ks, i, g, r, h => by
    simp only [pj] at h
    split at h
    · cases h
    · split at h
      · cases h
      · intro z hz
        rcases List.mem_cons.1 hz with rfl | hz
        · omega
        · exact pj_in f ks _ _ _ h z hz
theorem pj_0 (f : api_Final) (keep : List Int) (hk : keep.length ≤ 48) (h : Inr f keep) : pj f keep 0 ⟨(keep.length : Int), Vector.replicate 48 0⟩ = .inl (proj f keep) := by
  have := pj_ok f (keep.length : Int) keep [] (by simpa using hk) h
  rw [ofV_nil] at this
  exact this
theorem pjs_ok (keep : List Int) (hk : keep.length ≤ 48) : ∀ (l acc : List api_Final), (∀ f ∈ l, Inr f keep) → pjs keep l acc = .inl (acc ++ l.map (proj · keep))
  | [], acc, h => by simp [pjs]
  | f :: l, acc, h => by
    simp only [pjs]
    rw [pj_0 f keep hk (h f (List.mem_cons_self ..))]
    simp only
    rw [pjs_ok keep hk l _ (fun g hg => h g (List.mem_cons_of_mem _ hg))]
    simp
theorem pjs_in (keep : List Int) : ∀ (l acc r : List api_Final), pjs keep l acc = .inl r → ∀ f ∈ l, Inr f keep
  | [], acc, r, h => fun f hf => by cases hf
  | f :: l, acc, r, h => by
    simp only [pjs] at h
    revert h
    cases hp : pj f keep 0 ⟨(keep.length : Int), Vector.replicate 48 0⟩ with
    | inl g =>
      intro h
      intro z hz
      rcases List.mem_cons.1 hz with rfl | hz
      · exact pj_in _ _ _ _ _ hp
      · exact pjs_in keep l _ r h z hz
    | inr e =>
      intro h
      have := pj_inr f keep 0 _ e hp
      subst this
      cases h
theorem proj_okV (f : api_Final) (keep : List Int) (hk : keep.length ≤ 48) : okV (proj f keep) = true := by
  unfold okV
  simp only [Bool.and_eq_true, decide_eq_true_eq]
  refine ⟨⟨by simp only [proj]; omega, by simp only [proj]; omega⟩, ?_⟩
  rw [List.all_eq_true]
  intro x hx
  obtain ⟨i, hi, rfl⟩ := List.mem_iff_getElem.1 hx
  rw [List.getElem_drop]
  simp only [proj, Int.toNat_natCast]
  have hl : (ofV (keep.map (vget f.V))).toList.length = 48 := by simp
  simp only [proj, Int.toNat_natCast, List.length_drop, hl] at hi
  rw [ofV_toList _ _ (by omega), List.getD_eq_getElem?_getD, List.getElem?_eq_none (by simp)]
  rfl
theorem fin_eq {a b : api_Final} (h1 : a.N = b.N) (h2 : a.V = b.V) : a = b := by
  cases a; cases b; cases h1; cases h2; rfl
theorem proj_at (x : api_Final) (a : List Int) (k : Int) (ha : a.length ≤ 48) (h1 : 0 ≤ k ∧ k < (proj x a).N) : vget (proj x a).V k = vget x.V (gt a k) := by
  have h3 : k < (a.length : Int) := h1.2
  obtain ⟨n, rfl⟩ : ∃ n : Nat, k = (n : Int) := ⟨k.toNat, by omega⟩
  have h2 : n < a.length := by omega
  change vget (ofV (a.map (vget x.V))) (n : Int) = _
  rw [vget_ofV _ _ (by omega), gt_nat h2, List.getD_eq_getElem?_getD, List.getElem?_map, List.getElem?_eq_getElem h2]
  rfl
theorem proj_proj (x : api_Final) (a b : List Int) (ha : a.length ≤ 48) (h : Inr (proj x a) b) : proj (proj x a) b = proj x (b.map (gt a)) := by
  have e1 : b.map (vget (proj x a).V) = (b.map (gt a)).map (vget x.V) := by
    rw [List.map_map]
    refine List.map_congr_left (fun k hk => ?_)
    exact proj_at x a k ha (h k hk)
  have e2 : ((b.map (gt a)).length : Int) = (b.length : Int) := by rw [List.length_map]
  exact fin_eq (by change (b.length : Int) = ((b.map (gt a)).length : Int); rw [e2]) (by change ofV (b.map (vget (proj x a).V)) = ofV ((b.map (gt a)).map (vget x.V)); rw [e1])
/-- All numbers below one. -/
def upTo (n : Nat) : List Int := (List.range n).map (fun i : Nat => (i : Int))
theorem proj_id (f : api_Final) (n : Nat) (hn : n ≤ 48) (h : f.N = (n : Int)) (hv : okV f = true) : proj f (upTo n) = f := by
  have hd : (f.V.toList.drop n).all (· == 0) = true := by
    unfold okV at hv
    simp only [Bool.and_eq_true] at hv
    have := hv.2
    rw [h, Int.toNat_natCast] at this
    exact this
  have e1 : ((upTo n).length : Int) = f.N := by rw [h]; simp [upTo]
  have e2 : ofV ((upTo n).map (vget f.V)) = f.V := by
    generalize f.V = V at *
    apply Vector.ext
    intro i hi
    simp only [ofV, Vector.getElem_ofFn, List.getD_eq_getElem?_getD, List.getElem?_map, upTo]
    by_cases h2 : i < n
    · rw [List.getElem?_range h2]
      simp only [Option.map_some, Option.getD_some]
      rw [vget_nat hi]; simp
    · rw [List.getElem?_eq_none (by simp; omega)]
      simp only [Option.map_none, Option.getD_none]
      rw [List.all_eq_true] at hd
      have hm : V[i] ∈ V.toList.drop n := by
        rw [List.mem_iff_getElem]
        exact ⟨i - n, by simp; omega, by rw [List.getElem_drop]; simp [show n + (i - n) = i by omega]⟩
      have := hd _ hm
      simpa using (eq_of_beq this).symm
  exact fin_eq e1 e2
theorem in_upTo (f : api_Final) (n : Nat) (h : f.N = (n : Int)) : Inr f (upTo n) := by
  intro k hk
  unfold upTo at hk
  obtain ⟨i, hi, rfl⟩ := List.mem_map.1 hk
  have := List.mem_range.1 hi
  omega
theorem pl_0 (l : List api_Final) (n : Int) (hl : l.length ≤ 300) : ∀ (m t : Nat) (acc : List api_Final), t + m = l.length → acc.length ≤ t → weirlaw10_StateProjected.l0 l n acc (t : Int) = some (acc ++ (l.drop t).filter (fun f => f.N == n)) := by
  intro m
  induction m with
  | zero =>
    intro t acc ht ha
    rw [weirlaw10_StateProjected.l0, if_neg (nt (decide_eq_false (by omega))), List.drop_of_length_le (by omega)]; simp
  | succ m ih =>
    intro t acc ht ha
    have h1 : t < l.length := by omega
    have g : (0 : Int) ≤ (t : Int) ∧ (t : Int) < (l.length : Int) := by omega
    have q : ∀ z : api_Final, (acc.length + ([z] : List api_Final).length) * 392 ≤ 140737488355328 := by intro z; simp only [List.length_cons, List.length_nil]; omega
    rw [weirlaw10_StateProjected.l0, if_pos (decide_eq_true g.2)]
    simp only [if_pos g, gt_nat h1, if_pos (q _), w1 (show t < 9223372036854775807 by omega), List.drop_eq_getElem_cons h1, List.filter_cons]
    by_cases c : (l[t].N == n) = true
    · rw [if_pos c, if_pos c, ih (t + 1) _ (by omega) (by simp only [List.length_append, List.length_cons, List.length_nil]; omega)]
      simp
    · rw [if_neg c, if_neg c, ih (t + 1) _ (by omega) (by omega)]
theorem pl_1 (n : Nat) (hn : n ≤ 48) : ∀ (m t : Nat), t + m = n → weirlaw10_StateProjected.l1 (n : Int) (upTo t) (t : Int) = some (upTo n) := by
  intro m
  induction m with
  | zero =>
    intro t ht
    rw [weirlaw10_StateProjected.l1, if_neg (nt (decide_eq_false (by omega)))]
    rw [show t = n by omega]
  | succ m ih =>
    intro t ht
    have hl : (upTo t).length = t := by simp [upTo]
    have q : ((upTo t).length + ([(t : Int)] : List Int).length) * 8 ≤ 140737488355328 := by simp only [List.length_cons, List.length_nil]; omega
    have e : upTo t ++ ([(t : Int)] : List Int) = upTo (t + 1) := by simp [upTo, List.range_succ]
    rw [weirlaw10_StateProjected.l1, if_pos (decide_eq_true (by omega)), if_pos q, w1 (by omega), e, ih (t + 1) (by omega)]
theorem pl_2 (a b : List Int) (hb : b.length ≤ 48) (h : ∀ k ∈ b, 0 ≤ k ∧ k < (a.length : Int)) : ∀ (m t : Nat) (acc : List Int), t + m = b.length → acc.length ≤ t → weirlaw10_StateProjected.l2 a b acc (t : Int) = some (.inl (acc ++ (b.drop t).map (gt a))) := by
  intro m
  induction m with
  | zero =>
    intro t acc ht ha
    rw [weirlaw10_StateProjected.l2, if_neg (nt (decide_eq_false (by omega))), List.drop_of_length_le (by omega)]; simp
  | succ m ih =>
    intro t acc ht ha
    have h1 : t < b.length := by omega
    have g : (0 : Int) ≤ (t : Int) ∧ (t : Int) < (b.length : Int) := by omega
    have hk := h _ (List.getElem_mem h1)
    have q : ∀ z : Int, (acc.length + ([z] : List Int).length) * 8 ≤ 140737488355328 := by intro z; simp only [List.length_cons, List.length_nil]; omega
    rw [weirlaw10_StateProjected.l2, if_pos (decide_eq_true g.2)]
    simp only [if_pos g, gt_nat h1, if_pos (q _), w1 (show t < 9223372036854775807 by omega)]
    rw [if_neg (nt (decide_eq_false (by omega))), if_neg (nt (decide_eq_false (by omega))), if_pos hk, ih (t + 1) _ (by omega) (by simp only [List.length_append, List.length_cons, List.length_nil]; omega), List.drop_eq_getElem_cons h1, List.map_cons, List.append_assoc, List.singleton_append]
theorem num_s (n : Int) : weirlaw10_num.f n = some n := rfl
/-- What Project answers, all told. -/
theorem project_all (l : List api_Final) (keep : List Int) (hl : l.length ≤ 10000) (hr : rises l = true) :
    (keep.length ≤ 48 ∧ (∀ f ∈ l, Inr f keep) ∧ ∃ s, state_Project.f l keep = some (s, 0) ∧ Strict s ∧ (∀ z, z ∈ s ↔ ∃ x ∈ l, proj x keep = z) ∧ s.length ≤ l.length) ∨ (∃ e, e ≠ 0 ∧ state_Project.f l keep = some ([], e)) := by
  by_cases hk : keep.length ≤ 48
  · rcases project_ok l keep hl hr hk with ⟨r, s, h1, h2, h3, h4, h5, h6⟩ | ⟨h1, h2⟩
    · have hin := pjs_in keep l [] r h1
      have := pjs_ok keep hk l [] hin
      rw [h1] at this
      have hr2 : r = l.map (proj · keep) := by simpa using this
      refine .inl ⟨hk, hin, s, h3, h4, fun z => ?_, h6⟩
      rw [h5, hr2, List.mem_map]
      constructor
      · rintro ⟨⟨x, hx, rfl⟩, _⟩; exact ⟨x, hx, rfl⟩
      · rintro ⟨x, hx, rfl⟩; exact ⟨⟨x, hx, rfl⟩, proj_okV x keep hk⟩
    · exact .inr ⟨4, by decide, h2⟩
  · exact .inr ⟨1, by decide, project_long l keep hl hr (by omega)⟩
theorem proj_law (l : List api_Final) (n : Int) (a b : List Int) {h0 h1 h2 h3 : Prop} (_ : h0) (_ : h1) (_ : h2) (_ : h3) : weirlaw10_StateProjected.f l n a b = some true := by
  unfold weirlaw10_StateProjected.f
  rw [works_true]
  simp only [Option.bind_eq_bind, Option.bind_some, Bool.not_true, Bool.false_eq_true, if_false]
  by_cases c1 : (l.length : Int) > 300
  · rw [if_pos (decide_eq_true c1)]
  rw [if_neg (nt (decide_eq_false c1))]
  by_cases c2 : n < 0
  · rw [if_pos (decide_eq_true c2)]
  rw [if_neg (nt (decide_eq_false c2))]
  by_cases c3 : n > 48
  · rw [if_pos (decide_eq_true c3)]
  rw [if_neg (nt (decide_eq_false c3))]
  obtain ⟨m, rfl⟩ : ∃ m : Nat, n = (m : Int) := ⟨n.toNat, by omega⟩
  have p0 := pl_0 l (m : Int) (by omega) l.length 0 [] (by omega) (by simp)
  have p1 := pl_1 m (by omega) m 0 (by omega)
  rw [List.drop_zero, List.nil_append, show (((0 : Nat)) : Int) = (0 : Int) from rfl] at p0
  rw [show upTo 0 = [] from rfl, show (((0 : Nat)) : Int) = (0 : Int) from rfl] at p1
  rw [p0]
  simp only [Option.bind_some]
  have hfl : (l.filter (fun f => f.N == (m : Int))).length ≤ l.length := List.length_filter_le _ _
  obtain ⟨s, s1, s2, s3, s4⟩ := sort_s (l.filter (fun f => f.N == (m : Int))) (by omega)
  rw [s1]
  simp only [Option.bind_some]
  rw [p1]
  simp only [Option.bind_some]
  have hs : ∀ z ∈ s, z.N = (m : Int) ∧ okV z = true := by
    intro z hz
    obtain ⟨h1, h2⟩ := (s3 z).1 hz
    exact ⟨by simpa using (List.mem_filter.1 h1).2, h2⟩
  have hr : rises s = true := rises_iff.2 ⟨fun f hf => (hs f hf).2, s2⟩
  have hsl : s.length ≤ 10000 := by omega
  -- all numbers
  rcases project_all s (upTo m) hsl hr with ⟨_, _, d, d1, d2, d3, d4⟩ | ⟨e, e1, e2⟩
  case inr =>
    exfalso
    have hin : ∀ f ∈ s, Inr f (upTo m) := fun f hf => in_upTo f m (hs f hf).1
    have hlen : (upTo m).length ≤ 48 := by simp [upTo]; omega
    have := pjs_ok (upTo m) hlen s [] hin
    rcases project_ok s (upTo m) hsl hr hlen with ⟨r, t, q1, q2, q3, _⟩ | ⟨q1, q2⟩
    · rw [q3] at e2
      simp only [Option.some.injEq, Prod.mk.injEq] at e2
      exact e1 e2.2.symm
    · rw [q1] at this; cases this
  have hd : d = s := strict_unique d2 s2 (fun z => by
    rw [d3]
    constructor
    · rintro ⟨x, hx, rfl⟩; rw [proj_id x m (by omega) (hs x hx).1 (hs x hx).2]; exact hx
    · intro hz; exact ⟨z, hz, proj_id z m (by omega) (hs z hz).1 (hs z hz).2⟩)
  subst hd
  rw [d1]
  simp only [Option.bind_some, num_s]
  rw [if_neg (by decide), same _ _ (by omega)]
  simp only [Option.bind_some]
  rw [if_neg (by simp)]
  -- the first
  rcases project_all d a hsl hr with ⟨ha, hia, t, t1, t2, t3, t4⟩ | ⟨e, e1, e2⟩
  case inr =>
    rw [e2]
    simp only [Option.bind_some, num_s]
    rw [if_pos (by simpa using e1)]
    rfl
  rw [t1]
  simp only [Option.bind_some, num_s]
  rw [if_neg (by decide), if_neg (nt (decide_eq_false (by omega)))]
  have htv : ∀ z ∈ t, okV z = true ∧ z.N = (a.length : Int) := by
    intro z hz
    obtain ⟨x, hx, rfl⟩ := (t3 z).1 hz
    exact ⟨proj_okV x a ha, rfl⟩
  have hrt : rises t = true := rises_iff.2 ⟨fun f hf => (htv f hf).1, t2⟩
  rw [rises_s t (by omega), hrt]
  simp only [Option.bind_some, Bool.not_true, Bool.false_eq_true, if_false]
  -- the second
  rcases project_all t b (by omega) hrt with ⟨hb, hib, u, u1, u2, u3, u4⟩ | ⟨e, e1, e2⟩
  case inr =>
    rw [e2]
    simp only [Option.bind_some, num_s]
    rw [if_pos (by simpa using e1)]
    rfl
  rw [u1]
  simp only [Option.bind_some, num_s]
  rw [if_neg (by decide)]
  by_cases cz : d.length = 0
  · rw [if_pos (by simp [cz]), if_pos (by simp; exact List.eq_nil_of_length_eq_zero (by omega))]
  rw [if_neg (by simp; intro h; rw [h] at cz; exact cz rfl)]
  obtain ⟨x0, hx0⟩ : ∃ x, x ∈ d := by
    cases d with
    | nil => exact absurd rfl cz
    | cons x r => exact ⟨x, List.mem_cons_self ..⟩
  have hy0 : proj x0 a ∈ t := (t3 _).2 ⟨x0, hx0, rfl⟩
  have hba : ∀ k ∈ b, 0 ≤ k ∧ k < (a.length : Int) := hib _ hy0
  have p2 := pl_2 a b hb hba b.length 0 [] (by omega) (by simp)
  rw [List.drop_zero, List.nil_append, show (((0 : Nat)) : Int) = (0 : Int) from rfl] at p2
  rw [p2]
  simp only [Option.bind_some]
  have hin : ∀ f ∈ d, Inr f (b.map (gt a)) := by
    intro f hf k hk
    obtain ⟨j, hj, rfl⟩ := List.mem_map.1 hk
    have h1 := hba j hj
    have e : j = ((j.toNat : Nat) : Int) := by omega
    have h2 : j.toNat < a.length := by omega
    rw [e, gt_nat h2]
    exact hia f hf _ (List.getElem_mem h2)
  have hlen : (b.map (gt a)).length ≤ 48 := by simpa using hb
  rcases project_all d (b.map (gt a)) hsl hr with ⟨_, _, v, v1, v2, v3, v4⟩ | ⟨e, e1, e2⟩
  case inr =>
    exfalso
    have := pjs_ok (b.map (gt a)) hlen d [] hin
    rcases project_ok d (b.map (gt a)) hsl hr hlen with ⟨r, t, q1, q2, q3, _⟩ | ⟨q1, q2⟩
    · rw [q3] at e2
      simp only [Option.some.injEq, Prod.mk.injEq] at e2
      exact e1 e2.2.symm
    · rw [q1] at this; cases this
  rw [v1]
  simp only [Option.bind_some]
  rw [if_pos (by decide), same _ _ (by omega)]
  have huv : u = v := strict_unique u2 v2 (fun z => by
    rw [u3, v3]
    constructor
    · rintro ⟨y, hy, rfl⟩
      obtain ⟨x, hx, rfl⟩ := (t3 y).1 hy
      exact ⟨x, hx, (proj_proj x a b ha (hib _ hy)).symm⟩
    · rintro ⟨x, hx, rfl⟩
      have hy : proj x a ∈ t := (t3 _).2 ⟨x, hx, rfl⟩
      exact ⟨_, hy, proj_proj x a b ha (hib _ hy)⟩)
  simp [huv]
end Go.Proofs.YtjbhgahbaeoinaaDoor.K
