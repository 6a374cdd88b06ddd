/- Strictly sorted lists; what Sort answers, in the program and in the document. -/
import Derived.Test.YtfiamlhhhkiiaaaFA
set_option linter.unusedVariables false
set_option linter.unusedSimpArgs false
namespace Go.Proofs.Ytfiamlhhhkiiaaa.K
open Go

def Strict (l : List api_Final) : Prop := l.Pairwise (fun a b => cmpF a b < 0)
theorem strict_unique : ∀ {a b : List api_Final}, Strict a → Strict b → (∀ z, z ∈ a ↔ z ∈ b) → a = b
  | [], [], _, _, _ => rfl
  | [], y :: b, _, _, h => absurd ((h y).2 (by simp)) (by simp)
  | x :: a, [], _, _, h => absurd ((h x).1 (by simp)) (by simp)
  | x :: a, y :: b, ha, hb, h => by
    have ha' := List.pairwise_cons.1 ha
    have hb' := List.pairwise_cons.1 hb
    have hxy : x = y := by
      rcases List.mem_cons.1 ((h x).1 (by simp)) with e | hx
      · exact e
      · rcases List.mem_cons.1 ((h y).2 (by simp)) with e | hy
        · exact e.symm
        · have h1 := ha'.1 y hy
          have h2 := hb'.1 x hx
          have := cmpF_swap x y
          omega
    subst hxy
    rw [strict_unique ha'.2 hb'.2 (fun z => ?_)]
    constructor
    · intro hz
      rcases List.mem_cons.1 ((h z).1 (by simp [hz])) with e | hz'
      · subst e; have := ha'.1 z hz; rw [cmpF_self] at this; omega
      · exact hz'
    · intro hz
      rcases List.mem_cons.1 ((h z).2 (by simp [hz])) with e | hz'
      · subst e; have := hb'.1 z hz; rw [cmpF_self] at this; omega
      · exact hz'
theorem wsub1 {t : Nat} (h0 : 0 < t) (h : t ≤ 9223372036854775807) : IntKind.i64.wrap ((t : Int) - 1) = ((t - 1 : Nat) : Int) := by rw [wi64_id (by omega) (by omega)]; omega
theorem pw_get {l : List api_Final} (h : Strict l) {i j : Nat} (hi : i < j) (hj : j < l.length) : cmpF (l[i]'(by omega)) l[j] < 0 := List.pairwise_iff_getElem.1 h i j (by omega) hj hi

/-! ### The document's Sort -/
def z0F : api_Final := ⟨0, Vector.replicate 48 0⟩
theorem refsort_l1 (l out : List api_Final) (i : Nat) (hi : i < l.length) (hs : out.length ≤ 100000) : ∀ n, n ≤ out.length → ∃ k, k ≤ n ∧ weirref10_Sort.l1 l out (i : Int) (n : Int) = some (k : Int) ∧ (∀ j (hj : j < out.length), k ≤ j → j < n → 0 < cmpF out[j] l[i]) ∧ (∀ (hj : k - 1 < out.length), 0 < k → cmpF out[k - 1] l[i] ≤ 0) := by
  intro n
  induction n with
  | zero =>
    intro _
    refine ⟨0, Nat.le_refl _, ?_, fun j hj h1 h2 => by omega, fun _ h => by omega⟩
    rw [weirref10_Sort.l1, if_neg (by simp)]
  | succ n ih =>
    intro hn
    have hw := wsub1 (t := n + 1) (by omega) (by omega)
    have g1 : (0 : Int) ≤ ((n + 1 - 1 : Nat) : Int) ∧ ((n + 1 - 1 : Nat) : Int) < (out.length : Int) := by omega
    have g2 : (0 : Int) ≤ (i : Int) ∧ (i : Int) < (l.length : Int) := by omega
    have e1 : decide (((n + 1 : Nat) : Int) > 0) = true := decide_eq_true (by omega)
    rw [weirref10_Sort.l1, if_pos e1, hw, if_pos g1, if_pos g2, gt_nat (show n + 1 - 1 < out.length by omega), gt_nat hi, compare_r]
    simp only [Option.bind_eq_bind, Option.bind_some, Nat.add_sub_cancel]
    by_cases c : cmpF (out[n]'(by omega)) l[i] > 0
    · obtain ⟨k, h1, h2, h3, h4⟩ := ih (by omega)
      refine ⟨k, by omega, ?_, fun j hj h5 h6 => ?_, h4⟩
      · rw [if_pos (by simpa using c)]; exact h2
      · by_cases hjn : j = n
        · subst hjn; exact c
        · exact h3 j hj h5 (by omega)
    · refine ⟨n + 1, Nat.le_refl _, ?_, fun j hj h5 h6 => by omega, fun _ _ => ?_⟩
      · rw [if_neg (by simpa using c)]
      · simp only [Nat.add_sub_cancel]; omega
theorem ins_eq (out : List api_Final) (f z : api_Final) (k : Nat) (hk : k ≤ out.length) :
    setl (copyv (out ++ [z]) (k + 1) ((out ++ [z]).length - (k + 1)) (((out ++ [z]).drop k).take ((out ++ [z]).length - k))) (k : Int) f = out.take k ++ f :: out.drop k := by
  have hl : (out ++ [z]).length = out.length + 1 := by simp
  unfold copyv setl
  rw [Int.toNat_natCast, hl, List.length_take, List.length_drop, hl]
  rw [show k + 1 + min (min (out.length + 1 - k) (out.length + 1 - k)) (out.length + 1 - (k + 1)) = out.length + 1 by omega, show (out ++ [z]).drop (out.length + 1) = [] from List.drop_of_length_le (by omega), List.append_nil, List.take_take,
    show min (out.length + 1 - (k + 1)) (out.length + 1 - k) = out.length - k by omega]
  have e1 : ((out ++ [z]).drop k).take (out.length - k) = out.drop k := by
    rw [List.drop_append_of_le_length hk, List.take_append_of_le_length (by simp), List.take_of_length_le (by simp)]
  have e2 : (out ++ [z]).take (k + 1) = out.take k ++ [(out ++ [z])[k]'(by omega)] := by
    rw [List.take_succ_eq_append_getElem (by omega), List.take_append_of_le_length hk]
  rw [e1, e2]
  generalize (out ++ [z])[k]'(by omega) = y
  have hlk : (out.take k).length = k := by rw [List.length_take]; omega
  rw [List.append_assoc, List.set_append_right _ _ (by omega), hlk, Nat.sub_self]
  rfl
theorem strict_ins {out : List api_Final} {f : api_Final} {k : Nat} (hk : k ≤ out.length) (ho : Strict out) (h1 : ∀ j (hj : j < out.length), k ≤ j → 0 < cmpF out[j] f) (h2 : ∀ h : 0 < k, cmpF (out[k - 1]'(by omega)) f < 0) : Strict (out.take k ++ f :: out.drop k) := by
  have hlo : ∀ x ∈ out.take k, cmpF x f < 0 := by
    intro x hx
    obtain ⟨j, hj, rfl⟩ := List.mem_iff_getElem.1 hx
    rw [List.length_take] at hj
    rw [List.getElem_take]
    have hkp : 0 < k := by omega
    by_cases e : j = k - 1
    · subst e; exact h2 hkp
    · exact cmpF_lt_trans (pw_get ho (show j < k - 1 by omega) (by omega)) (h2 hkp)
  have hhi : ∀ x ∈ out.drop k, cmpF f x < 0 := by
    intro x hx
    obtain ⟨j, hj, rfl⟩ := List.mem_iff_getElem.1 hx
    rw [List.getElem_drop]
    rw [List.length_drop] at hj
    have := h1 (k + j) (by omega) (by omega)
    have := cmpF_swap (out[k + j]'(by omega)) f
    omega
  refine List.pairwise_append.2 ⟨List.Pairwise.sublist (List.take_sublist _ _) ho, List.pairwise_cons.2 ⟨hhi, List.Pairwise.sublist (List.drop_sublist _ _) ho⟩, ?_⟩
  intro a ha b hb
  rcases List.mem_cons.1 hb with rfl | hb
  · exact hlo a ha
  · exact cmpF_lt_trans (hlo a ha) (hhi b hb)
theorem mem_ins {out : List api_Final} {f : api_Final} {k : Nat} (z : api_Final) : z ∈ out.take k ++ f :: out.drop k ↔ z ∈ out ∨ z = f := by
  have : z ∈ out ↔ z ∈ out.take k ∨ z ∈ out.drop k := by rw [← List.mem_append, List.take_append_drop]
  rw [List.mem_append, List.mem_cons, this]
  constructor
  · rintro (h | h | h)
    · exact .inl (.inl h)
    · exact .inr h
    · exact .inl (.inr h)
  · rintro ((h | h) | h)
    · exact .inl h
    · exact .inr (.inr h)
    · exact .inr (.inl h)
set_option maxRecDepth 100000 in
theorem refsort_l0 (l : List api_Final) (hl : l.length ≤ 60000) : ∀ (n t : Nat) (out : List api_Final), t + n = l.length → out.length + n ≤ 100000 → Strict out →
    ∃ s, weirref10_Sort.l0 l out (t : Int) = some s ∧ Strict s ∧ (∀ z, z ∈ s ↔ z ∈ out ∨ z ∈ l.drop t ∧ okV z = true) ∧ s.length ≤ out.length + n := by
  intro n
  induction n with
  | zero =>
    intro t out ht ho hs
    have e1 : decide ((t : Int) < (l.length : Int)) = false := by simp; omega
    refine ⟨out, by rw [weirref10_Sort.l0, if_neg (nt e1)], hs, fun z => ?_, by omega⟩
    rw [List.drop_of_length_le (by omega)]; simp
  | succ n ih =>
    intro t out ht ho hs
    have h1 : t < l.length := by omega
    have e1 : decide ((t : Int) < (l.length : Int)) = true := by simp; omega
    have g : (0 : Int) ≤ (t : Int) ∧ (t : Int) < (l.length : Int) := by omega
    have hw : IntKind.i64.wrap ((t : Int) + 1) = ((t + 1 : Nat) : Int) := w1 (by omega)
    have hd : l.drop t = l[t] :: l.drop (t + 1) := List.drop_eq_getElem_cons h1
    rw [weirref10_Sort.l0, if_pos e1, if_pos g, gt_nat h1, check_r, hw]
    simp only [Option.bind_eq_bind, Option.bind_some]
    by_cases hk : okV l[t] = true
    · have e2 : ¬ ((chk l[t] != 0) = true) := by rw [chk_ne]; simp [hk]
      rw [if_neg e2]
      obtain ⟨k, hk1, hk2, hk3, hk4⟩ := refsort_l1 l out t h1 (by omega) out.length (Nat.le_refl _)
      rw [hk2]
      simp only [Option.bind_some]
      have hwk : IntKind.i64.wrap ((k : Int) + 1) = ((k + 1 : Nat) : Int) := w1 (by omega)
      have hXS : (out ++ [(⟨0, (Vector.replicate 48 0)⟩ : api_Final)]).length = out.length + 1 := by simp
      have hins := ins_eq out l[t] (⟨0, (Vector.replicate 48 0)⟩ : api_Final) k hk1
      have q1 : (out.length + [(⟨0, (Vector.replicate 48 0)⟩ : api_Final)].length) * 392 ≤ 140737488355328 := by simp only [List.length_cons, List.length_nil]; omega
      have q2 : (0 : Int) ≤ ((k + 1 : Nat) : Int) ∧ ((k + 1 : Nat) : Int) ≤ ((out ++ [(⟨0, (Vector.replicate 48 0)⟩ : api_Final)]).length : Int) := by rw [hXS]; omega
      have q3 : (0 : Int) ≤ (k : Int) ∧ (k : Int) ≤ ((out ++ [(⟨0, (Vector.replicate 48 0)⟩ : api_Final)]).length : Int) := by rw [hXS]; omega
      have q4 : ((k + 1 : Nat) : Int).toNat + ((out ++ [(⟨0, (Vector.replicate 48 0)⟩ : api_Final)]).length - ((k + 1 : Nat) : Int).toNat) ≤ (out ++ [(⟨0, (Vector.replicate 48 0)⟩ : api_Final)]).length ∧ (k : Int).toNat + ((out ++ [(⟨0, (Vector.replicate 48 0)⟩ : api_Final)]).length - (k : Int).toNat) ≤ (out ++ [(⟨0, (Vector.replicate 48 0)⟩ : api_Final)]).length := by rw [hXS]; omega
      have q5 : ∀ ys, (0 : Int) ≤ (k : Int) ∧ (k : Int) < ((copyv (out ++ [(⟨0, (Vector.replicate 48 0)⟩ : api_Final)]) ((k + 1 : Nat) : Int).toNat ((out ++ [(⟨0, (Vector.replicate 48 0)⟩ : api_Final)]).length - ((k + 1 : Nat) : Int).toNat) ys).length : Int) := by intro ys; rw [copyv_len q4.1, hXS]; omega
      have tail : ∀ (h2 : ∀ h : 0 < k, cmpF (out[k - 1]'(by omega)) l[t] < 0), ∃ s, weirref10_Sort.l0 l (out.take k ++ l[t] :: out.drop k) ((t + 1 : Nat) : Int) = some s ∧ Strict s ∧ (∀ z, z ∈ s ↔ z ∈ out ∨ z ∈ l.drop t ∧ okV z = true) ∧ s.length ≤ out.length + (n + 1) := by
        intro h2
        have hlen : (out.take k ++ l[t] :: out.drop k).length = out.length + 1 := by simp only [List.length_append, List.length_take, List.length_cons, List.length_drop]; omega
        obtain ⟨s, i1, i2, i3, i4⟩ := ih (t + 1) (out.take k ++ l[t] :: out.drop k) (by omega) (by omega) (strict_ins hk1 hs (fun j hj hkj => hk3 j hj hkj hj) h2)
        refine ⟨s, i1, i2, fun z => ?_, by omega⟩
        rw [i3, mem_ins, hd, List.mem_cons]
        constructor
        · rintro ((h | h) | h)
          · exact .inl h
          · subst h; exact .inr ⟨.inl rfl, hk⟩
          · exact .inr ⟨.inr h.1, h.2⟩
        · rintro (h | ⟨h | h, h'⟩)
          · exact .inl (.inl h)
          · exact .inl (.inr h)
          · exact .inr ⟨h, h'⟩
      have skip : l[t] ∈ out → ∃ s, weirref10_Sort.l0 l out ((t + 1 : Nat) : Int) = some s ∧ Strict s ∧ (∀ z, z ∈ s ↔ z ∈ out ∨ z ∈ l.drop t ∧ okV z = true) ∧ s.length ≤ out.length + (n + 1) := by
        intro hm
        obtain ⟨s, i1, i2, i3, i4⟩ := ih (t + 1) out (by omega) (by omega) hs
        refine ⟨s, i1, i2, fun z => ?_, by omega⟩
        rw [i3, hd, List.mem_cons]
        constructor
        · rintro (h | h)
          · exact .inl h
          · exact .inr ⟨.inr h.1, h.2⟩
        · rintro (h | ⟨h | h, h'⟩)
          · exact .inl h
          · subst h; exact .inl hm
          · exact .inr ⟨h, h'⟩
      rw [hwk, if_pos q1, if_pos q2, if_pos q3, if_pos q4]
      simp only [if_pos g]
      rw [if_pos (q5 _)]
      simp only [Int.toNat_natCast] at hins ⊢
      rw [hins]
      by_cases k0 : 0 < k
      · have e3 : decide ((k : Int) > 0) = true := by simp; omega
        have g2 : (0 : Int) ≤ ((k - 1 : Nat) : Int) ∧ ((k - 1 : Nat) : Int) < (out.length : Int) := by omega
        rw [if_pos e3, wsub1 k0 (by omega), if_pos g2, gt_nat (show k - 1 < out.length by omega)]
        by_cases e4 : out[k - 1]'(by omega) = l[t]
        · rw [if_pos (by simpa using e4)]
          obtain ⟨s, i1, i2⟩ := skip (e4 ▸ List.getElem_mem _)
          refine ⟨s, ?_, i2⟩
          rw [show weirref10_Sort.l0 l (id out) ((t + 1 : Nat) : Int) = some s from i1]
          rfl
        · rw [if_neg (by simpa using e4)]
          refine tail (fun h => ?_)
          have h5 := hk4 (by omega) h
          have h6 : cmpF (out[k - 1]'(by omega)) l[t] ≠ 0 := fun e => e4 (cmpF_zero.1 e)
          omega
      · have e3 : decide ((k : Int) > 0) = false := by simp; omega
        rw [if_neg (nt e3)]
        exact tail (fun h => by omega)
    · have e2 : (chk l[t] != 0) = true := by rw [chk_ne]; simpa using hk
      rw [if_pos e2]
      obtain ⟨s, i1, i2, i3, i4⟩ := ih (t + 1) out (by omega) (by omega) hs
      refine ⟨s, i1, i2, fun z => ?_, by omega⟩
      rw [i3, hd, List.mem_cons]
      constructor
      · rintro (h | h)
        · exact .inl h
        · exact .inr ⟨.inr h.1, h.2⟩
      · rintro (h | ⟨h | h, h'⟩)
        · exact .inl h
        · subst h; exact absurd h' hk
        · exact .inr ⟨h, h'⟩
theorem refsort (l : List api_Final) (hl : l.length ≤ 60000) : ∃ s, weirref10_Sort.f l = some s ∧ Strict s ∧ (∀ z, z ∈ s ↔ z ∈ l ∧ okV z = true) ∧ s.length ≤ l.length := by
  obtain ⟨s, h1, h2, h3, h4⟩ := refsort_l0 l hl l.length 0 [] (by omega) (by simp; omega) List.Pairwise.nil
  refine ⟨s, ?_, h2, fun z => by rw [h3]; simp, by simpa using h4⟩
  unfold weirref10_Sort.f
  rw [show ((0 : Int)) = ((0 : Nat) : Int) from rfl, h1]; rfl
end Go.Proofs.Ytfiamlhhhkiiaaa.K
