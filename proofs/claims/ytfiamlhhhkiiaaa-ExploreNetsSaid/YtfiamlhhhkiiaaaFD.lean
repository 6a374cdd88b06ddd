/- What the program's Sort answers; lists that are lent; StateOrders. -/
import Derived.Test.YtfiamlhhhkiiaaaFC
import Derived.Test.YtfiamlhhhkiiaaaNS
import Derived.Test.YtfiamlhhhkiiaaaO
set_option linter.unusedVariables false
set_option linter.unusedSimpArgs false
namespace Go.Proofs.Ytfiamlhhhkiiaaa.K
open Go Go.Sort

/-! ### Compact -/
def Weak (l : List api_Final) : Prop := l.Pairwise (fun a b => cmpF a b ≤ 0)
theorem wk_get {l : List api_Final} (h : Weak l) {i j : Nat} (hi : i < j) (hj : j < l.length) : cmpF (l[i]'(by omega)) l[j] ≤ 0 := List.pairwise_iff_getElem.1 h i j (by omega) hj hi
theorem strict_snoc {l : List api_Final} {y : api_Final} (h : Strict l) (hy : ∀ x ∈ l, cmpF x y < 0) : Strict (l ++ [y]) :=
  List.pairwise_append.2 ⟨h, List.pairwise_singleton _ _, fun a ha b hb => by rw [List.mem_singleton] at hb; subst hb; exact hy a ha⟩
theorem mem_take_succ {l : List api_Final} {n : Nat} (h : n < l.length) (z : api_Final) : z ∈ l.take (n + 1) ↔ z ∈ l.take n ∨ z = l[n] := by
  rw [List.take_succ_eq_append_getElem h, List.mem_append, List.mem_singleton]
theorem le_last {l : List api_Final} (hw : Weak l) {n : Nat} (hn : n < l.length) {z : api_Final} (hz : z ∈ l.take (n + 1)) : cmpF z l[n] ≤ 0 := by
  obtain ⟨j, hj, rfl⟩ := List.mem_iff_getElem.1 hz
  rw [List.length_take] at hj
  rw [List.getElem_take]
  by_cases e : j = n
  · subst e; rw [cmpF_self]; omega
  · exact wk_get hw (by omega) hn
set_option maxRecDepth 100000 in
theorem compact_l1 (l : List api_Final) (hw : Weak l) (hl : l.length ≤ 100000) (c : Nat) (hc : c < l.length) : ∀ (n k k2 : Nat) (s : List api_Final), c + k2 + n = l.length → 0 < k2 → k + 1 ≤ c + k2 → s.length = l.length → s.drop k = l.drop k → Strict (s.take k) → (∀ z, z ∈ s.take k ↔ z ∈ l.take (c + k2)) →
    ∃ (k' : Nat) (s' : List api_Final), slices_Compact___api_Final_api_Final.l1 l (c : Int) (k : Int) (k2 : Int) s = some ((k' : Int), s') ∧ k' ≤ s'.length ∧ s'.length = l.length ∧ Strict (s'.take k') ∧ (∀ z, z ∈ s'.take k' ↔ z ∈ l) := by
  intro n
  induction n with
  | zero =>
    intro k k2 s h1 h0 h2 h3 h4 h5 h6
    refine ⟨k, s, ?_, by omega, h3, h5, fun z => ?_⟩
    · have e1 : decide ((k2 : Int) < ((l.length - (c : Int).toNat : Nat) : Int)) = false := by rw [Int.toNat_natCast]; exact decide_eq_false (by omega)
      rw [slices_Compact___api_Final_api_Final.l1, if_neg (nt e1)]
    · rw [h6, List.take_of_length_le (by omega)]
  | succ n ih =>
    intro k k2 s h1 h0 h2 h3 h4 h5 h6
    have e1 : decide ((k2 : Int) < ((l.length - (c : Int).toNat : Nat) : Int)) = true := by rw [Int.toNat_natCast]; exact decide_eq_true (by omega)
    have g1 : (0 : Int) ≤ (k2 : Int) ∧ (k2 : Int) < ((l.length - (c : Int).toNat : Nat) : Int) ∧ (((c : Int).toNat : Nat) : Int) + (k2 : Int) < (s.length : Int) := by rw [Int.toNat_natCast]; omega
    have hm := wsub1 (t := k2) h0 (by omega)
    have g2 : (0 : Int) ≤ ((k2 - 1 : Nat) : Int) ∧ ((k2 - 1 : Nat) : Int) < ((l.length - (c : Int).toNat : Nat) : Int) ∧ (((c : Int).toNat : Nat) : Int) + ((k2 - 1 : Nat) : Int) < (s.length : Int) := by rw [Int.toNat_natCast]; omega
    have g3 : (0 : Int) ≤ (k : Int) ∧ (k : Int) < (s.length : Int) := by omega
    have hs : ∀ j (hj : j < l.length), k ≤ j → gt s (j : Int) = l[j] := by
      intro j hj hkj
      rw [gt_nat (by omega)]
      have := congrArg (·[j - k]?) h4
      simp only [List.getElem?_drop, show k + (j - k) = j by omega] at this
      rw [List.getElem?_eq_getElem (by omega), List.getElem?_eq_getElem hj] at this
      exact Option.some.inj this
    have e2 : (((c : Int).toNat : Nat) : Int) + (k2 : Int) = ((c + k2 : Nat) : Int) := by rw [Int.toNat_natCast]; omega
    have e3 : (((c : Int).toNat : Nat) : Int) + ((k2 - 1 : Nat) : Int) = ((c + k2 - 1 : Nat) : Int) := by rw [Int.toNat_natCast]; omega
    rw [slices_Compact___api_Final_api_Final.l1, if_pos e1, hm, if_pos g1, if_pos g2, e2, e3, hs (c + k2) (by omega) (by omega), hs (c + k2 - 1) (by omega) (by omega), w1 (show k2 < 9223372036854775807 by omega), w1 (show k < 9223372036854775807 by omega)]
    have hmt := mem_take_succ (l := l) (n := c + k2) (by omega)
    by_cases he : l[c + k2]'(by omega) = l[c + k2 - 1]'(by omega)
    · rw [if_neg (by simp [he])]
      obtain ⟨k', s', i⟩ := ih k (k2 + 1) s (by omega) (by omega) (by omega) h3 h4 h5 (fun z => by
        rw [h6, ← Nat.add_assoc, hmt]
        constructor
        · exact .inl
        · rintro (h | h)
          · exact h
          · rw [h, he]
            have : c + k2 - 1 + 1 = c + k2 := by omega
            have h7 := (mem_take_succ (l := l) (n := c + k2 - 1) (by omega) (l[c + k2 - 1]'(by omega))).2 (.inr rfl)
            rwa [this] at h7)
      exact ⟨k', s', i⟩
    · have g1b := g1
      rw [e2] at g1b
      rw [if_pos (by simpa using he), if_pos g1b, if_pos g3]
      have hlen : (setl s (k : Int) (l[c + k2]'(by omega))).length = s.length := setl_len _ _ _
      have hset : setl s (k : Int) (l[c + k2]'(by omega)) = s.take k ++ (l[c + k2]'(by omega)) :: s.drop (k + 1) := by
        unfold setl; rw [Int.toNat_natCast, List.set_eq_take_append_cons_drop, if_pos (by omega)]
      have hlk : (s.take k).length = k := by rw [List.length_take]; omega
      have htk : (setl s (k : Int) (l[c + k2]'(by omega))).take (k + 1) = s.take k ++ [l[c + k2]'(by omega)] := by
        rw [hset, List.take_append, hlk, List.take_of_length_le (by omega), show k + 1 - k = 1 by omega]; simp
      have hdk : (setl s (k : Int) (l[c + k2]'(by omega))).drop (k + 1) = l.drop (k + 1) := by
        rw [hset, List.drop_append, hlk, List.drop_of_length_le (by omega), show k + 1 - k = 1 by omega]
        simp only [List.nil_append, List.drop_succ_cons, List.drop_zero]
        rw [← List.drop_drop, ← List.drop_drop, h4]
      obtain ⟨k', s', i⟩ := ih (k + 1) (k2 + 1) (setl s (k : Int) (l[c + k2]'(by omega))) (by omega) (by omega) (by omega) (by rw [hlen, h3]) hdk (by
        rw [htk]
        refine strict_snoc h5 (fun x hx => ?_)
        have hx' := (h6 x).1 hx
        rw [show c + k2 = c + k2 - 1 + 1 by omega] at hx'
        have h7 := le_last hw (n := c + k2 - 1) (by omega) hx'
        have h8 : cmpF (l[c + k2 - 1]'(by omega)) (l[c + k2]'(by omega)) ≤ 0 := wk_get hw (by omega) (by omega)
        have h9 : cmpF (l[c + k2 - 1]'(by omega)) (l[c + k2]'(by omega)) ≠ 0 := fun e => he (cmpF_zero.1 e).symm
        rcases Int.lt_or_eq_of_le h7 with h | h
        · exact cmpF_lt_trans h (by omega)
        · rw [cmpF_zero.1 h]; omega) (fun z => by
        rw [htk, List.mem_append, List.mem_singleton, h6, ← Nat.add_assoc, hmt])
      exact ⟨k', s', i⟩
set_option maxRecDepth 100000 in
theorem compact_l0 (l : List api_Final) (hw : Weak l) (hl : l.length ≤ 100000) : ∀ (n t : Nat), t + n = l.length → 0 < t → Strict (l.take t) →
    ∃ s, (slices_Compact___api_Final_api_Final.l0 l (t : Int) = some (.inr s) ∨ slices_Compact___api_Final_api_Final.l0 l (t : Int) = some (.inl ()) ∧ s = l) ∧ Strict s ∧ (∀ z, z ∈ s ↔ z ∈ l) ∧ s.length ≤ l.length := by
  intro n
  induction n with
  | zero =>
    intro t ht h0 hs
    rw [List.take_of_length_le (by omega)] at hs
    have e1 : decide ((t : Int) < (l.length : Int)) = false := decide_eq_false (by omega)
    exact ⟨l, .inr ⟨by rw [slices_Compact___api_Final_api_Final.l0, if_neg (nt e1)], rfl⟩, hs, fun z => Iff.rfl, Nat.le_refl _⟩
  | succ n ih =>
    intro t ht h0 hs
    have e1 : decide ((t : Int) < (l.length : Int)) = true := decide_eq_true (by omega)
    have g : (0 : Int) ≤ (t : Int) ∧ (t : Int) < (l.length : Int) := by omega
    have hm := wsub1 (t := t) h0 (by omega)
    have g2 : (0 : Int) ≤ ((t - 1 : Nat) : Int) ∧ ((t - 1 : Nat) : Int) < (l.length : Int) := by omega
    rw [slices_Compact___api_Final_api_Final.l0, if_pos e1, if_pos g, hm, if_pos g2, gt_nat (show t < l.length by omega), gt_nat (show t - 1 < l.length by omega)]
    have hmt := mem_take_succ (l := l) (n := t) (by omega)
    by_cases he : l[t]'(by omega) = l[t - 1]'(by omega)
    · have g3 : (0 : Int) ≤ (t : Int) ∧ (t : Int) ≤ ((l.length : Nat) : Int) := by omega
      rw [if_pos (by simpa using he), if_pos g3]
      obtain ⟨k', s', i1, i2, i3, i4, i5⟩ := compact_l1 l hw hl t (by omega) n t 1 l (by omega) (by omega) (by omega) rfl rfl hs (fun z => by
        rw [hmt]
        constructor
        · exact .inl
        · rintro (h | h)
          · exact h
          · rw [h, he]
            have : t - 1 + 1 = t := by omega
            have h2 := (mem_take_succ (l := l) (n := t - 1) (by omega) (l[t - 1]'(by omega))).2 (.inr rfl)
            rwa [this] at h2)
      rw [show ((1 : Int)) = ((1 : Nat) : Int) from rfl, i1]
      simp only [Option.bind_eq_bind, Option.bind_some]
      have g4 : (0 : Int) ≤ (k' : Int) ∧ (k' : Int) ≤ ((s'.length : Nat) : Int) := by omega
      have g5 : (k' : Int).toNat + (s'.length - (k' : Int).toNat) ≤ s'.length := by omega
      have hcl : ∀ ys, (copyv s' (k' : Int).toNat (s'.length - (k' : Int).toNat) ys).length = s'.length := fun ys => copyv_len g5
      have g6 : ∀ ys, (0 : Int) ≤ (k' : Int) ∧ (k' : Int) ≤ ((copyv s' (k' : Int).toNat (s'.length - (k' : Int).toNat) ys).length : Int) := by intro ys; rw [hcl]; omega
      have g7 : ∀ ys, (k' : Int).toNat ≤ (copyv s' (k' : Int).toNat (s'.length - (k' : Int).toNat) ys).length := by intro ys; rw [hcl]; omega
      rw [if_pos g4, if_pos g5, if_pos (g6 _), if_pos (g7 _)]
      have htk : ∀ ys, (copyv s' (k' : Int).toNat (s'.length - (k' : Int).toNat) ys).take (k' : Int).toNat = s'.take k' := by
        intro ys
        rw [Int.toNat_natCast, copyv, List.take_append_of_le_length (by rw [List.length_take]; omega), List.take_take, Nat.min_self]
      rw [htk]
      exact ⟨s'.take k', .inl rfl, i4, i5, by rw [List.length_take]; omega⟩
    · rw [if_neg (by simpa using he), w1 (show t < 9223372036854775807 by omega)]
      exact ih (t + 1) (by omega) (by omega) (by
        rw [List.take_succ_eq_append_getElem (by omega)]
        refine strict_snoc hs (fun x hx => ?_)
        have hx' : x ∈ l.take (t - 1 + 1) := by rw [show t - 1 + 1 = t by omega]; exact hx
        have h7 := le_last hw (n := t - 1) (by omega) hx'
        have h8 : cmpF (l[t - 1]'(by omega)) (l[t]'(by omega)) ≤ 0 := wk_get hw (by omega) (by omega)
        have h9 : cmpF (l[t - 1]'(by omega)) (l[t]'(by omega)) ≠ 0 := fun e => he (cmpF_zero.1 e).symm
        rcases Int.lt_or_eq_of_le h7 with h | h
        · exact cmpF_lt_trans h (by omega)
        · rw [cmpF_zero.1 h]; omega)
theorem compact (l : List api_Final) (hw : Weak l) (hl : l.length ≤ 100000) : ∃ s, slices_Compact___api_Final_api_Final.f l = some s ∧ Strict s ∧ (∀ z, z ∈ s ↔ z ∈ l) ∧ s.length ≤ l.length := by
  unfold slices_Compact___api_Final_api_Final.f
  by_cases h : (l.length : Int) < 2
  · rw [if_pos (decide_eq_true h)]
    refine ⟨l, rfl, ?_, fun z => Iff.rfl, Nat.le_refl _⟩
    match l, h with
    | [], _ => exact List.Pairwise.nil
    | [x], _ => exact List.pairwise_singleton _ _
    | x :: y :: l, h => simp only [List.length_cons] at h; omega
  · rw [if_neg (nt (decide_eq_false h))]
    obtain ⟨s, h1, h2⟩ := compact_l0 l hw hl (l.length - 1) 1 (by omega) (by omega) (by
      match l, h with
      | [], h => simp at h
      | x :: l, _ => simp [Strict])
    rw [show ((1 : Int)) = ((1 : Nat) : Int) from rfl]
    rcases h1 with h1 | ⟨h1, rfl⟩
    · exact ⟨s, by rw [h1]; rfl, h2⟩
    · exact ⟨s, by rw [h1]; rfl, h2⟩

end Go.Proofs.Ytfiamlhhhkiiaaa.K
