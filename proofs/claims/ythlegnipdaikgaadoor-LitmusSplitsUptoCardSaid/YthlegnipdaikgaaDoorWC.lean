/- A bundle's files, put one behind the other, are the text, but for blanks at its front; LitmusSplits. -/
import Derived.Test.YthlegnipdaikgaaDoorWB
set_option linter.unusedVariables false
set_option linter.unusedSimpArgs false
set_option maxRecDepth 100000
namespace Go.Proofs.YthlegnipdaikgaaDoor.K
open Go

/-- These pieces are the text from one place to another. -/
def Cut (s : ByteArray) : List ByteArray → Nat → Nat → Prop
  | [], p, q => p = q
  | x :: l, p, q => 0 < x.size ∧ p + x.size ≤ s.size ∧ s.extract p (p + x.size) = x ∧ Cut s l (p + x.size) q
theorem cut_snoc (s : ByteArray) (a b : Nat) (h1 : a < b) (h2 : b ≤ s.size) : ∀ (l : List ByteArray) (p : Nat), Cut s l p a → Cut s (l ++ [s.extract a b]) p b
  | [], p, h => by
    have hp : p = a := h
    subst hp
    have e := size_extract s p b h2
    simp only [List.nil_append, Cut]
    rw [e]
    exact ⟨by omega, by omega, by rw [show p + (b - p) = b by omega], by omega⟩
  | x :: l, p, h => by
    simp only [List.cons_append, Cut] at h ⊢
    exact ⟨h.1, h.2.1, h.2.2.1, cut_snoc s a b h1 h2 l _ h.2.2.2⟩
theorem cut_le (s : ByteArray) : ∀ (l : List ByteArray) (p q : Nat), Cut s l p q → p ≤ q
  | [], p, q, h => Nat.le_of_eq h
  | x :: l, p, q, h => by have := cut_le s l _ _ h.2.2.2; omega
/-- Blanks alone lie below a place. -/
def Low (s : ByteArray) (p : Nat) : Prop := ∀ k, k < p → blk (bt s k) = true
theorem low_all (s : ByteArray) (b : Nat) (hb : b ≤ s.size) (h : allB (s.extract 0 b) = true) : Low s b := by
  intro k hk
  unfold allB at h
  rw [List.all_eq_true] at h
  have e := bt_extract s 0 b k (by omega)
  rw [Nat.zero_add] at e
  rw [← e, bt_str]
  have hl : k < (strBytes (s.extract 0 b)).length := by rw [strBytes_len, size_extract s 0 b hb]; omega
  rw [List.getD_eq_getElem?_getD, List.getElem?_eq_getElem hl]
  exact h _ (List.getElem_mem hl)
/-- What holds on the way. -/
def Inv (s : ByteArray) (a : Nat) (acc : List ByteArray) : Prop := (∃ p, Low s p ∧ Cut s acc p a) ∧ ((a = 0 ∧ acc = []) ∨ hdB s a = true)
theorem put_cut (s : ByteArray) (a b : Nat) (acc : List ByteArray) (h1 : a < b) (h2 : b ≤ s.size) (h : Inv s a acc) : ∃ p, Low s p ∧ Cut s (putP s a b acc) p b := by
  obtain ⟨⟨p, hp, hc⟩, ho⟩ := h
  unfold putP
  by_cases g : hdB s a = true ∨ allB (s.extract a b) = false
  · rw [if_pos g]
    exact ⟨p, hp, cut_snoc s a b h1 h2 acc p hc⟩
  · rw [if_neg g]
    rcases ho with ⟨rfl, rfl⟩ | ho
    · refine ⟨b, low_all s b h2 ?_, rfl⟩
      cases e : allB (s.extract 0 b)
      · exact absurd (.inr e) g
      · rfl
    · exact absurd (.inl ho) g
theorem run_inv (s : ByteArray) : ∀ (m i a : Nat) (acc : List ByteArray), i + m = s.size → a < i → Inv s a acc → Inv s (run s m i a acc).2 (run s m i a acc).1 ∧ (run s m i a acc).2 < s.size := by
  intro m
  induction m with
  | zero => intro i a acc hi ha h; exact ⟨h, by simp only [run]; omega⟩
  | succ m ih =>
    intro i a acc hi ha h
    simp only [run]
    split
    · rename_i hh
      exact ih (i + 1) i _ (by omega) (by omega) ⟨put_cut s a i acc ha (by omega) h, .inr hh⟩
    · exact ih (i + 1) a acc (by omega) (by omega) h
theorem files_cut (s : ByteArray) : ∃ p, Low s p ∧ p ≤ s.size ∧ Cut s (files s) p s.size := by
  have key : ∃ p, Low s p ∧ Cut s (files s) p s.size := by
    unfold files
    by_cases h : s.size = 0
    · rw [if_pos h, h]
      exact ⟨0, fun k hk => absurd hk (by omega), rfl⟩
    · rw [if_neg h]
      have := run_inv s (s.size - 1) 1 0 [] (by omega) (by omega) ⟨⟨0, fun k hk => absurd hk (by omega), rfl⟩, .inl ⟨rfl, rfl⟩⟩
      exact put_cut s _ _ _ this.2 (Nat.le_refl _) this.1
  obtain ⟨p, h1, h2⟩ := key
  exact ⟨p, h1, cut_le _ _ _ _ h2, h2⟩
theorem seq_self (x : ByteArray) : seq x x = true := by rw [seq_p]; exact decide_eq_true rfl
theorem seq_no (x : ByteArray) (h : 0 < x.size) : seq x (⟨#[]⟩ : ByteArray) = false := by
  rw [seq_p]
  refine decide_eq_false (fun e => ?_)
  rw [e] at h; exact absurd h (by decide)
theorem gt_mid (pre : List ByteArray) (x : ByteArray) (r : List ByteArray) : gt (pre ++ x :: r) (pre.length : Int) = x := by
  rw [gt_nat (by simp)]; simp
theorem law_0 (s : ByteArray) (hs : s.size ≤ 1048576) : ∀ (r pre : List ByteArray) (n p q : Nat), Cut s r p q → n + (q - p) ≤ 1048576 → (pre ++ r).length ≤ 1048576 → weirlaw07_LitmusSplits.l0 (pre ++ r) (pre ++ r) (n : Int) (pre.length : Int) = some (.inl ((n + (q - p) : Nat) : Int)) := by
  intro r
  induction r with
  | nil =>
    intro pre n p q h hn hl
    have hp : p = q := h
    rw [weirlaw07_LitmusSplits.l0, if_neg (nt (decide_eq_false (by simp))), hp]
    simp
  | cons x r ih =>
    intro pre n p q h hn hl
    have hle := cut_le s _ _ _ h.2.2.2
    have hlen : (pre ++ x :: r).length = pre.length + (r.length + 1) := by simp
    have g : (0 : Int) ≤ (pre.length : Int) ∧ (pre.length : Int) < ((pre ++ x :: r).length : Int) := by omega
    rw [weirlaw07_LitmusSplits.l0, if_pos (decide_eq_true g.2)]
    simp only [if_pos g, gt_mid, seq_self, seq_no x h.1, Bool.not_true, Bool.false_eq_true, if_false]
    rw [w1 (by omega), show IntKind.i64.wrap ((n : Int) + (x.size : Int)) = ((n + x.size : Nat) : Int) by rw [wi64_id (by omega) (by omega)]; omega]
    have := ih (pre ++ [x]) (n + x.size) (p + x.size) q h.2.2.2 (by omega) (by simp only [List.append_assoc, List.singleton_append]; exact hl)
    simp only [List.append_assoc, List.singleton_append, List.length_append, List.length_cons, List.length_nil] at this
    rw [this]
    congr 3
    omega
theorem law_1 (s : ByteArray) (hs : s.size ≤ 1048576) (p : Nat) (hp : p ≤ s.size) (hl : Low s p) : ∀ (m t : Nat), t + m = p → weirlaw07_LitmusSplits.l1 s ((s.size - p : Nat) : Int) (t : Int) = some (.inl ()) := by
  have hw : IntKind.i64.wrap ((s.size : Int) - ((s.size - p : Nat) : Int)) = (p : Int) := by rw [wi64_id (by omega) (by omega)]; omega
  intro m
  induction m with
  | zero => intro t ht; rw [weirlaw07_LitmusSplits.l1, hw, if_neg (nt (decide_eq_false (by omega)))]
  | succ m ih =>
    intro t ht
    have g : (0 : Int) ≤ (t : Int) ∧ (t : Int) < (s.size : Int) := by omega
    have hb := hl t (by omega)
    rw [weirlaw07_LitmusSplits.l1, hw, if_pos (decide_eq_true (by omega))]
    simp only [if_pos g, w1 (show t < 9223372036854775807 by omega), ih (t + 1) (by omega)]
    rw [nest4, show byt s (t : Int) = bt s t from rfl, if_pos hb]
theorem law_2 (s : ByteArray) (hs : s.size ≤ 1048576) : ∀ (r pre : List ByteArray) (p : Nat), Cut s r p s.size → (pre ++ r).length ≤ 1048576 → weirlaw07_LitmusSplits.l2 s (pre ++ r) (p : Int) (pre.length : Int) = some (.inl ()) := by
  intro r
  induction r with
  | nil =>
    intro pre p h hl
    rw [weirlaw07_LitmusSplits.l2, if_neg (nt (decide_eq_false (by simp)))]
  | cons x r ih =>
    intro pre p h hl
    have hle := cut_le s _ _ _ h.2.2.2
    have h2 := h.2.1
    have hlen : (pre ++ x :: r).length = pre.length + (r.length + 1) := by simp
    have g : (0 : Int) ≤ (pre.length : Int) ∧ (pre.length : Int) < ((pre ++ x :: r).length : Int) := by omega
    have hw : IntKind.i64.wrap ((p : Int) + (x.size : Int)) = ((p + x.size : Nat) : Int) := by rw [wi64_id (by omega) (by omega)]; omega
    rw [weirlaw07_LitmusSplits.l2, if_pos (decide_eq_true g.2)]
    simp only [if_pos g, gt_mid, hw, Int.toNat_natCast, h.2.2.1, seq_self, Bool.not_true, Bool.false_eq_true, if_false]
    rw [if_pos (by omega), w1 (by omega)]
    have := ih (pre ++ [x]) (p + x.size) h.2.2.2 (by simp only [List.append_assoc, List.singleton_append]; exact hl)
    simp only [List.append_assoc, List.singleton_append, List.length_append, List.length_cons, List.length_nil] at this
    exact this
theorem cut_len (s : ByteArray) : ∀ (l : List ByteArray) (p q : Nat), Cut s l p q → p + l.length ≤ q
  | [], p, q, h => by have : p = q := h; simp; omega
  | x :: l, p, q, h => by
    have := cut_len s l _ _ h.2.2.2
    have := h.1
    simp only [List.length_cons]; omega
theorem split_law (s : ByteArray) (hs : s.size ≤ 1048576) : weirlaw07_LitmusSplits.f s = some true := by
  obtain ⟨p, h1, h2, h3⟩ := files_cut s
  have hl := cut_len s _ _ _ h3
  have a0 := law_0 s hs (files s) [] 0 p s.size h3 (by omega) (by simp only [List.nil_append]; omega)
  have a2 := law_2 s hs (files s) [] p h3 (by simp only [List.nil_append]; omega)
  have a1 := law_1 s hs p h2 h1 p 0 (by omega)
  simp only [List.nil_append, List.length_nil, Nat.zero_add] at a0 a2
  rw [show (((0 : Nat)) : Int) = (0 : Int) from rfl] at a0 a1 a2
  have hw : IntKind.i64.wrap ((s.size : Int) - ((s.size - p : Nat) : Int)) = (p : Int) := by rw [wi64_id (by omega) (by omega)]; omega
  unfold weirlaw07_LitmusSplits.f
  rw [prog_s s hs, ref_s s hs]
  simp only [Option.bind_eq_bind, Option.bind_some]
  rw [if_neg (by simp), a0]
  simp only [Option.bind_some]
  rw [if_neg (nt (decide_eq_false (by omega))), a1]
  simp only [Option.bind_some]
  rw [hw, a2]
  rfl
end Go.Proofs.YthlegnipdaikgaaDoor.K
