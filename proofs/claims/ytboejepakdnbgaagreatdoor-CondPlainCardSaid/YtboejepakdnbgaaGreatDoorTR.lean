/- References in plain Lean: their order, lists of them that rise; Compact; Refs of a tree's nodes. -/
import Derived.Test.YtboejepakdnbgaaGreatDoorTL
import Derived.Test.YtboejepakdnbgaaGreatDoorNS
set_option linter.unusedVariables false
set_option linter.unusedSimpArgs false
set_option maxRecDepth 100000
namespace Go.Proofs.YtboejepakdnbgaaGreatDoor.K.C
open Go Go.Sort

/-! ### Lists of numbers, compared -/
def cmpL : List Int → List Int → Int
  | [], [] => 0
  | [], _ :: _ => -1
  | _ :: _, [] => 1
  | a :: xs, b :: ys => if a < b then -1 else if b < a then 1 else cmpL xs ys
theorem cmpL_range : ∀ a b : List Int, cmpL a b = -1 ∨ cmpL a b = 0 ∨ cmpL a b = 1
  | [], [] => by simp [cmpL]
  | [], _ :: _ => by simp [cmpL]
  | _ :: _, [] => by simp [cmpL]
  | a :: xs, b :: ys => by
    simp only [cmpL]
    split
    · simp
    · split
      · simp
      · exact cmpL_range xs ys
theorem cmpL_zero : ∀ {a b : List Int}, cmpL a b = 0 ↔ a = b
  | [], [] => by simp [cmpL]
  | [], _ :: _ => by simp [cmpL]
  | _ :: _, [] => by simp [cmpL]
  | a :: xs, b :: ys => by
    simp only [cmpL, List.cons.injEq]
    split
    · constructor
      · intro h; cases h
      · rintro ⟨rfl, _⟩; omega
    · split
      · constructor
        · intro h; cases h
        · rintro ⟨rfl, _⟩; omega
      · rw [cmpL_zero]
        constructor
        · intro h; exact ⟨by omega, h⟩
        · intro h; exact h.2
theorem cmpL_swap : ∀ a b : List Int, cmpL b a = - cmpL a b
  | [], [] => by simp [cmpL]
  | [], _ :: _ => by simp [cmpL]
  | _ :: _, [] => by simp [cmpL]
  | a :: xs, b :: ys => by
    simp only [cmpL]
    have := cmpL_swap xs ys
    split <;> split <;> first | omega | (split <;> omega) | skip
theorem cmpL_trans : ∀ {a b c : List Int}, cmpL a b ≤ 0 → cmpL b c ≤ 0 → cmpL a c ≤ 0 ∧ (cmpL a c = 0 → cmpL a b = 0 ∧ cmpL b c = 0)
  | [], [], [], _, _ => by simp [cmpL]
  | [], [], _ :: _, _, _ => by simp [cmpL]
  | [], _ :: _, [], _, h => by simp [cmpL] at h
  | [], _ :: _, _ :: _, _, _ => by simp [cmpL]
  | _ :: _, [], _, h, _ => by simp [cmpL] at h
  | _ :: _, _ :: _, [], _, h => by simp [cmpL] at h
  | a :: xs, b :: ys, c :: zs, h1, h2 => by
    simp only [cmpL] at *
    have ih := @cmpL_trans xs ys zs
    by_cases ab : a < b
    · by_cases bc : c < b
      · rw [if_neg (by omega), if_pos bc] at h2; omega
      · rw [if_pos (by omega)]; simp
    · by_cases ba : b < a
      · rw [if_neg ab, if_pos ba] at h1; omega
      · have hab : a = b := by omega
        subst hab
        rw [if_neg ab, if_neg ba] at h1 ⊢
        by_cases bc : a < c
        · rw [if_pos bc] at h2 ⊢; simp
        · by_cases cb : c < a
          · rw [if_neg bc, if_pos cb] at h2; omega
          · rw [if_neg bc, if_neg cb] at h2 ⊢
            have := ih h1 h2
            refine ⟨this.1, fun h => ?_⟩
            rw [if_neg bc, if_neg cb]
            exact this.2 h


/-! ### References -/
def key (r : api_Ref) : List Int := (if r.Thread < 0 then 1 else 0) :: r.Thread :: r.Name.data.toList.map (fun b => (b.toNat : Int))
def okR (r : api_Ref) : Prop := -1 ≤ r.Thread ∧ r.Thread ≤ 9999
def cmpR (a b : api_Ref) : Int := cmpL (key a) (key b)
theorem bytes_inj {x y : ByteArray} (h : x.data.toList.map (fun b => (b.toNat : Int)) = y.data.toList.map (fun b => (b.toNat : Int))) : x = y := by
  obtain ⟨a⟩ := x
  obtain ⟨b⟩ := y
  have h2 : a.toList = b.toList := (List.map_inj_right (fun x y e => by
    have : x.toNat = y.toNat := Int.ofNat_inj.1 e
    exact UInt8.toNat_inj.1 this)).1 h
  exact congrArg ByteArray.mk (Array.toList_inj.1 h2)
theorem key_inj {a b : api_Ref} (h : key a = key b) : a = b := by
  obtain ⟨n, v⟩ := a
  obtain ⟨m, u⟩ := b
  simp only [key, List.cons.injEq] at h
  obtain ⟨_, rfl, h⟩ := h
  rw [bytes_inj h]
theorem cmpR_zero {a b : api_Ref} : cmpR a b = 0 ↔ a = b := by
  unfold cmpR; rw [cmpL_zero]
  exact ⟨key_inj, fun h => by rw [h]⟩
theorem cmpR_self (a : api_Ref) : cmpR a a = 0 := cmpR_zero.2 rfl
theorem cmpR_swap (a b : api_Ref) : cmpR b a = - cmpR a b := cmpL_swap _ _
theorem cmpR_lt_trans {a b c : api_Ref} (h1 : cmpR a b < 0) (h2 : cmpR b c < 0) : cmpR a c < 0 := by
  have := cmpL_trans (a := key a) (b := key b) (c := key c) (by unfold cmpR at *; omega) (by unfold cmpR at *; omega)
  unfold cmpR at *
  rcases cmpL_range (key a) (key c) with h | h | h
  · omega
  · have := this.2 h; omega
  · omega
theorem cmpR_le_trans {a b c : api_Ref} (h1 : cmpR a b ≤ 0) (h2 : cmpR b c ≤ 0) : cmpR a c ≤ 0 := (cmpL_trans (a := key a) (b := key b) (c := key c) h1 h2).1
def Strict (l : List api_Ref) : Prop := l.Pairwise (fun a b => cmpR a b < 0)
/-! ### Compact -/
def Weak (l : List api_Ref) : Prop := l.Pairwise (fun a b => cmpR a b ≤ 0)
theorem wk_get {l : List api_Ref} (h : Weak l) {i j : Nat} (hi : i < j) (hj : j < l.length) : cmpR (l[i]'(by omega)) l[j] ≤ 0 := List.pairwise_iff_getElem.1 h i j (by omega) hj hi
theorem strict_snoc {l : List api_Ref} {y : api_Ref} (h : Strict l) (hy : ∀ x ∈ l, cmpR x y < 0) : Strict (l ++ [y]) :=
  List.pairwise_append.2 ⟨h, List.pairwise_singleton _ _, fun a ha b hb => by rw [List.mem_singleton] at hb; subst hb; exact hy a ha⟩
theorem mem_take_succ {l : List api_Ref} {n : Nat} (h : n < l.length) (z : api_Ref) : z ∈ l.take (n + 1) ↔ z ∈ l.take n ∨ z = l[n] := by
  rw [List.take_succ_eq_append_getElem h, List.mem_append, List.mem_singleton]
theorem le_last {l : List api_Ref} (hw : Weak l) {n : Nat} (hn : n < l.length) {z : api_Ref} (hz : z ∈ l.take (n + 1)) : cmpR z l[n] ≤ 0 := by
  obtain ⟨j, hj, rfl⟩ := List.mem_iff_getElem.1 hz
  rw [List.length_take] at hj
  rw [List.getElem_take]
  by_cases e : j = n
  · subst e; rw [cmpR_self]; omega
  · exact wk_get hw (by omega) hn
set_option maxRecDepth 100000 in
theorem compact_l1 (l : List api_Ref) (hw : Weak l) (hl : l.length ≤ 100000) (c : Nat) (hc : c < l.length) : ∀ (n k k2 : Nat) (s : List api_Ref), c + k2 + n = l.length → 0 < k2 → k + 1 ≤ c + k2 → s.length = l.length → s.drop k = l.drop k → Strict (s.take k) → (∀ z, z ∈ s.take k ↔ z ∈ l.take (c + k2)) →
    ∃ (k' : Nat) (s' : List api_Ref), slices_Compact___api_Ref_api_Ref.l1 l (c : Int) (k : Int) (k2 : Int) s = some ((k' : Int), s') ∧ k' ≤ s'.length ∧ s'.length = l.length ∧ Strict (s'.take k') ∧ (∀ z, z ∈ s'.take k' ↔ z ∈ l) := by
  intro n
  induction n with
  | zero =>
    intro k k2 s h1 h0 h2 h3 h4 h5 h6
    refine ⟨k, s, ?_, by omega, h3, h5, fun z => ?_⟩
    · have e1 : decide ((k2 : Int) < ((l.length - (c : Int).toNat : Nat) : Int)) = false := by rw [Int.toNat_natCast]; exact decide_eq_false (by omega)
      rw [slices_Compact___api_Ref_api_Ref.l1, if_neg (nt e1)]
    · rw [h6, List.take_of_length_le (by omega)]
  | succ n ih =>
    intro k k2 s h1 h0 h2 h3 h4 h5 h6
    have e1 : decide ((k2 : Int) < ((l.length - (c : Int).toNat : Nat) : Int)) = true := by rw [Int.toNat_natCast]; exact decide_eq_true (by omega)
    have g1 : (0 : Int) ≤ (k2 : Int) ∧ (k2 : Int) < ((l.length - (c : Int).toNat : Nat) : Int) ∧ (((c : Int).toNat : Nat) : Int) + (k2 : Int) < (s.length : Int) := by rw [Int.toNat_natCast]; omega
    have hm := wsub1 (t := k2) h0 (by omega)
    have g2 : (0 : Int) ≤ ((k2 - 1 : Nat) : Int) ∧ ((k2 - 1 : Nat) : Int) < ((l.length - (c : Int).toNat : Nat) : Int) ∧ (((c : Int).toNat : Nat) : Int) + ((k2 - 1 : Nat) : Int) < (s.length : Int) := by rw [Int.toNat_natCast]; omega
    have g3 : (0 : Int) ≤ (k : Int) ∧ (k : Int) < (s.length : Int) := by omega
    have hs : ∀ j (hj : j < l.length), k ≤ j → gt s (j : Int) = l[j] := by
      intro j hj hkj
      rw [gt_nat (by omega)]
      have := congrArg (·[j - k]?) h4
      simp only [List.getElem?_drop, show k + (j - k) = j by omega] at this
      rw [List.getElem?_eq_getElem (by omega), List.getElem?_eq_getElem hj] at this
      exact Option.some.inj this
    have e2 : (((c : Int).toNat : Nat) : Int) + (k2 : Int) = ((c + k2 : Nat) : Int) := by rw [Int.toNat_natCast]; omega
    have e3 : (((c : Int).toNat : Nat) : Int) + ((k2 - 1 : Nat) : Int) = ((c + k2 - 1 : Nat) : Int) := by rw [Int.toNat_natCast]; omega
    rw [slices_Compact___api_Ref_api_Ref.l1, if_pos e1, hm, if_pos g1, if_pos g2, e2, e3, hs (c + k2) (by omega) (by omega), hs (c + k2 - 1) (by omega) (by omega), w1 (show k2 < 9223372036854775807 by omega), w1 (show k < 9223372036854775807 by omega)]
    have hmt := mem_take_succ (l := l) (n := c + k2) (by omega)
    by_cases he : l[c + k2]'(by omega) = l[c + k2 - 1]'(by omega)
    · rw [if_neg (by simp [he])]
      obtain ⟨k', s', i⟩ := ih k (k2 + 1) s (by omega) (by omega) (by omega) h3 h4 h5 (fun z => by
        rw [h6, ← Nat.add_assoc, hmt]
        constructor
        · exact .inl
        · rintro (h | h)
          · exact h
          · rw [h, he]
            have : c + k2 - 1 + 1 = c + k2 := by omega
            have h7 := (mem_take_succ (l := l) (n := c + k2 - 1) (by omega) (l[c + k2 - 1]'(by omega))).2 (.inr rfl)
            rwa [this] at h7)
      exact ⟨k', s', i⟩
    · have g1b := g1
      rw [e2] at g1b
      rw [if_pos (by simpa using he), if_pos g1b, if_pos g3]
      have hlen : (setl s (k : Int) (l[c + k2]'(by omega))).length = s.length := setl_len _ _ _
      have hset : setl s (k : Int) (l[c + k2]'(by omega)) = s.take k ++ (l[c + k2]'(by omega)) :: s.drop (k + 1) := by
        unfold setl; rw [Int.toNat_natCast, List.set_eq_take_append_cons_drop, if_pos (by omega)]
      have hlk : (s.take k).length = k := by rw [List.length_take]; omega
      have htk : (setl s (k : Int) (l[c + k2]'(by omega))).take (k + 1) = s.take k ++ [l[c + k2]'(by omega)] := by
        rw [hset, List.take_append, hlk, List.take_of_length_le (by omega), show k + 1 - k = 1 by omega]; simp
      have hdk : (setl s (k : Int) (l[c + k2]'(by omega))).drop (k + 1) = l.drop (k + 1) := by
        rw [hset, List.drop_append, hlk, List.drop_of_length_le (by omega), show k + 1 - k = 1 by omega]
        simp only [List.nil_append, List.drop_succ_cons, List.drop_zero]
        rw [← List.drop_drop, ← List.drop_drop, h4]
      obtain ⟨k', s', i⟩ := ih (k + 1) (k2 + 1) (setl s (k : Int) (l[c + k2]'(by omega))) (by omega) (by omega) (by omega) (by rw [hlen, h3]) hdk (by
        rw [htk]
        refine strict_snoc h5 (fun x hx => ?_)
        have hx' := (h6 x).1 hx
        rw [show c + k2 = c + k2 - 1 + 1 by omega] at hx'
        have h7 := le_last hw (n := c + k2 - 1) (by omega) hx'
        have h8 : cmpR (l[c + k2 - 1]'(by omega)) (l[c + k2]'(by omega)) ≤ 0 := wk_get hw (by omega) (by omega)
        have h9 : cmpR (l[c + k2 - 1]'(by omega)) (l[c + k2]'(by omega)) ≠ 0 := fun e => he (cmpR_zero.1 e).symm
        rcases Int.lt_or_eq_of_le h7 with h | h
        · exact cmpR_lt_trans h (by omega)
        · rw [cmpR_zero.1 h]; omega) (fun z => by
        rw [htk, List.mem_append, List.mem_singleton, h6, ← Nat.add_assoc, hmt])
      exact ⟨k', s', i⟩
set_option maxRecDepth 100000 in
theorem compact_l0 (l : List api_Ref) (hw : Weak l) (hl : l.length ≤ 100000) : ∀ (n t : Nat), t + n = l.length → 0 < t → Strict (l.take t) →
    ∃ s, (slices_Compact___api_Ref_api_Ref.l0 l (t : Int) = some (.inr s) ∨ slices_Compact___api_Ref_api_Ref.l0 l (t : Int) = some (.inl ()) ∧ s = l) ∧ Strict s ∧ (∀ z, z ∈ s ↔ z ∈ l) ∧ s.length ≤ l.length := by
  intro n
  induction n with
  | zero =>
    intro t ht h0 hs
    rw [List.take_of_length_le (by omega)] at hs
    have e1 : decide ((t : Int) < (l.length : Int)) = false := decide_eq_false (by omega)
    exact ⟨l, .inr ⟨by rw [slices_Compact___api_Ref_api_Ref.l0, if_neg (nt e1)], rfl⟩, hs, fun z => Iff.rfl, Nat.le_refl _⟩
  | succ n ih =>
    intro t ht h0 hs
    have e1 : decide ((t : Int) < (l.length : Int)) = true := decide_eq_true (by omega)
    have g : (0 : Int) ≤ (t : Int) ∧ (t : Int) < (l.length : Int) := by omega
    have hm := wsub1 (t := t) h0 (by omega)
    have g2 : (0 : Int) ≤ ((t - 1 : Nat) : Int) ∧ ((t - 1 : Nat) : Int) < (l.length : Int) := by omega
    rw [slices_Compact___api_Ref_api_Ref.l0, if_pos e1, if_pos g, hm, if_pos g2, gt_nat (show t < l.length by omega), gt_nat (show t - 1 < l.length by omega)]
    have hmt := mem_take_succ (l := l) (n := t) (by omega)
    by_cases he : l[t]'(by omega) = l[t - 1]'(by omega)
    · have g3 : (0 : Int) ≤ (t : Int) ∧ (t : Int) ≤ ((l.length : Nat) : Int) := by omega
      rw [if_pos (by simpa using he), if_pos g3]
      obtain ⟨k', s', i1, i2, i3, i4, i5⟩ := compact_l1 l hw hl t (by omega) n t 1 l (by omega) (by omega) (by omega) rfl rfl hs (fun z => by
        rw [hmt]
        constructor
        · exact .inl
        · rintro (h | h)
          · exact h
          · rw [h, he]
            have : t - 1 + 1 = t := by omega
            have h2 := (mem_take_succ (l := l) (n := t - 1) (by omega) (l[t - 1]'(by omega))).2 (.inr rfl)
            rwa [this] at h2)
      rw [show ((1 : Int)) = ((1 : Nat) : Int) from rfl, i1]
      simp only [Option.bind_eq_bind, Option.bind_some]
      have g4 : (0 : Int) ≤ (k' : Int) ∧ (k' : Int) ≤ ((s'.length : Nat) : Int) := by omega
      have g5 : (k' : Int).toNat + (s'.length - (k' : Int).toNat) ≤ s'.length := by omega
      have hcl : ∀ ys, (copyv s' (k' : Int).toNat (s'.length - (k' : Int).toNat) ys).length = s'.length := fun ys => copyv_len g5
      have g6 : ∀ ys, (0 : Int) ≤ (k' : Int) ∧ (k' : Int) ≤ ((copyv s' (k' : Int).toNat (s'.length - (k' : Int).toNat) ys).length : Int) := by intro ys; rw [hcl]; omega
      have g7 : ∀ ys, (k' : Int).toNat ≤ (copyv s' (k' : Int).toNat (s'.length - (k' : Int).toNat) ys).length := by intro ys; rw [hcl]; omega
      rw [if_pos g4, if_pos g5, if_pos (g6 _), if_pos (g7 _)]
      have htk : ∀ ys, (copyv s' (k' : Int).toNat (s'.length - (k' : Int).toNat) ys).take (k' : Int).toNat = s'.take k' := by
        intro ys
        rw [Int.toNat_natCast, copyv, List.take_append_of_le_length (by rw [List.length_take]; omega), List.take_take, Nat.min_self]
      rw [htk]
      exact ⟨s'.take k', .inl rfl, i4, i5, by rw [List.length_take]; omega⟩
    · rw [if_neg (by simpa using he), w1 (show t < 9223372036854775807 by omega)]
      exact ih (t + 1) (by omega) (by omega) (by
        rw [List.take_succ_eq_append_getElem (by omega)]
        refine strict_snoc hs (fun x hx => ?_)
        have hx' : x ∈ l.take (t - 1 + 1) := by rw [show t - 1 + 1 = t by omega]; exact hx
        have h7 := le_last hw (n := t - 1) (by omega) hx'
        have h8 : cmpR (l[t - 1]'(by omega)) (l[t]'(by omega)) ≤ 0 := wk_get hw (by omega) (by omega)
        have h9 : cmpR (l[t - 1]'(by omega)) (l[t]'(by omega)) ≠ 0 := fun e => he (cmpR_zero.1 e).symm
        rcases Int.lt_or_eq_of_le h7 with h | h
        · exact cmpR_lt_trans h (by omega)
        · rw [cmpR_zero.1 h]; omega)
theorem compact (l : List api_Ref) (hw : Weak l) (hl : l.length ≤ 100000) : ∃ s, slices_Compact___api_Ref_api_Ref.f l = some s ∧ Strict s ∧ (∀ z, z ∈ s ↔ z ∈ l) ∧ s.length ≤ l.length := by
  unfold slices_Compact___api_Ref_api_Ref.f
  by_cases h : (l.length : Int) < 2
  · rw [if_pos (decide_eq_true h)]
    refine ⟨l, rfl, ?_, fun z => Iff.rfl, Nat.le_refl _⟩
    match l, h with
    | [], _ => exact List.Pairwise.nil
    | [x], _ => exact List.pairwise_singleton _ _
    | x :: y :: l, h => simp only [List.length_cons] at h; omega
  · rw [if_neg (nt (decide_eq_false h))]
    obtain ⟨s, h1, h2⟩ := compact_l0 l hw hl (l.length - 1) 1 (by omega) (by omega) (by
      match l, h with
      | [], h => simp at h
      | x :: l, _ => simp [Strict])
    rw [show ((1 : Int)) = ((1 : Nat) : Int) from rfl]
    rcases h1 with h1 | ⟨h1, rfl⟩
    · exact ⟨s, by rw [h1]; rfl, h2⟩
    · exact ⟨s, by rw [h1]; rfl, h2⟩


/-! ### The program's and the document's comparisons -/
theorem cmp_bytes : ∀ a b : List UInt8, cmpL (a.map (fun b => (b.toNat : Int))) (b.map (fun b => (b.toNat : Int))) = Lib.compareBytes a b
  | [], [] => rfl
  | [], _ :: _ => rfl
  | _ :: _, [] => rfl
  | x :: a, y :: b => by
    have e1 : ((x.toNat : Int) < (y.toNat : Int)) ↔ x < y := by rw [UInt8.lt_iff_toNat_lt]; omega
    have e2 : ((y.toNat : Int) < (x.toNat : Int)) ↔ y < x := by rw [UInt8.lt_iff_toNat_lt]; omega
    simp only [List.map_cons, cmpL, Lib.compareBytes, e1, e2, cmp_bytes a b]
def blv (a b : api_Ref) : Int := if a.Thread < 0 then (if b.Thread < 0 then Lib.compareBytes a.Name.data.toList b.Name.data.toList else 1) else if b.Thread < 0 then -1 else if a.Thread = b.Thread then Lib.compareBytes a.Name.data.toList b.Name.data.toList else a.Thread - b.Thread
theorem below_s {a b : api_Ref} (ha : okR a) (hb : okR b) : cond_below.f a b = some (blv a b) := by
  unfold cond_below.f blv strings_Compare.f
  obtain ⟨h1, h2⟩ := ha
  obtain ⟨h3, h4⟩ := hb
  by_cases c1 : a.Thread < 0
  · by_cases c2 : b.Thread < 0
    · have : a.Thread = b.Thread := by omega
      simp [c1, c2, this]
    · simp [c1, c2]
  · by_cases c2 : b.Thread < 0
    · simp [c1, c2]
    · by_cases c3 : a.Thread = b.Thread
      · simp [c2, c3]
      · have : IntKind.i64.wrap (a.Thread - b.Thread) = a.Thread - b.Thread := wi64_id (by omega) (by omega)
        simp [c1, c2, c3, this]
theorem blv_lt {a b : api_Ref} (ha : okR a) (hb : okR b) : (blv a b < 0 ↔ cmpR a b < 0) ∧ (blv a b = 0 ↔ cmpR a b = 0) := by
  unfold blv cmpR key
  obtain ⟨h1, h2⟩ := ha
  obtain ⟨h3, h4⟩ := hb
  simp only [cmpL, cmp_bytes]
  by_cases c1 : a.Thread < 0
  · by_cases c2 : b.Thread < 0
    · have : a.Thread = b.Thread := by omega
      simp [c2, this]
    · simp [c1, c2]
  · by_cases c2 : b.Thread < 0
    · simp [c1, c2]
    · by_cases c3 : a.Thread = b.Thread
      · simp [c2, c3]
      · simp only [if_neg c1, if_neg c2, if_neg c3, Int.lt_irrefl, if_false]
        by_cases c4 : a.Thread < b.Thread
        · rw [if_pos c4]; constructor <;> constructor <;> intro h <;> omega
        · rw [if_neg c4, if_pos (by omega)]; constructor <;> constructor <;> intro h <;> omega
theorem sort_r (l : List api_Ref) (hl : ∀ x ∈ l, okR x) : ∃ ys, sortR cond_below.f l = some ys ∧ Weak ys ∧ (∀ z, z ∈ ys ↔ z ∈ l) ∧ ys.length = l.length := by
  have hok : CmpOk (fun x y : {x // x ∈ l} => cond_below.f x.1 y.1) (fun x y => blv x.1 y.1) := by
    refine ⟨⟨fun x => ?_, fun x y z h1 h2 => ?_, fun x y z h1 h2 => ?_⟩, fun x y h1 h2 => ?_, fun x y => below_s (hl _ x.2) (hl _ y.2)⟩
    · have := blv_lt (hl _ x.2) (hl _ x.2)
      rw [cmpR_self] at this
      simp only [Go.Proofs.ltOf, decide_eq_false_iff_not]
      rw [this.1]; omega
    · simp only [Go.Proofs.ltOf, decide_eq_true_eq] at *
      rw [(blv_lt (hl _ x.2) (hl _ y.2)).1] at h1
      rw [(blv_lt (hl _ y.2) (hl _ z.2)).1] at h2
      rw [(blv_lt (hl _ x.2) (hl _ z.2)).1]
      exact cmpR_lt_trans h1 h2
    · simp only [Go.Proofs.ltOf, decide_eq_false_iff_not] at *
      rw [(blv_lt (hl _ x.2) (hl _ y.2)).1] at h1
      rw [(blv_lt (hl _ y.2) (hl _ z.2)).1] at h2
      rw [(blv_lt (hl _ x.2) (hl _ z.2)).1]
      intro h
      have := cmpR_swap x.1 y.1
      have := cmpR_swap y.1 z.1
      have h3 := cmpR_le_trans (a := z.1) (b := y.1) (c := x.1) (by omega) (by omega)
      have := cmpR_swap x.1 z.1
      omega
    · simp only [Go.Proofs.ltOf, decide_eq_false_iff_not] at *
      rw [(blv_lt (hl _ x.2) (hl _ y.2)).1] at h1
      rw [(blv_lt (hl _ y.2) (hl _ x.2)).1] at h2
      have := cmpR_swap x.1 y.1
      exact Subtype.ext (cmpR_zero.1 (by omega))
  unfold sortR
  rw [sortO_eq hok]
  have hperm := List.mergeSort_perm l.attach (fun x y => !(Go.Proofs.ltOf (fun x y : {x // x ∈ l} => blv x.1 y.1) y x))
  have hlt : ∀ x y : {x // x ∈ l}, (!(Go.Proofs.ltOf (fun x y : {x // x ∈ l} => blv x.1 y.1) y x)) = true ↔ cmpR x.1 y.1 ≤ 0 := by
    intro x y
    simp only [Go.Proofs.ltOf, Bool.not_eq_true', decide_eq_false_iff_not]
    rw [(blv_lt (hl _ y.2) (hl _ x.2)).1]
    have := cmpR_swap x.1 y.1
    constructor <;> intro h <;> omega
  have hpw := List.pairwise_mergeSort (le := fun x y => !(Go.Proofs.ltOf (fun x y : {x // x ∈ l} => blv x.1 y.1) y x)) (fun a b c h1 h2 => by
    rw [hlt] at *
    exact cmpR_le_trans h1 h2) (fun a b => by
    rw [Bool.or_eq_true, hlt, hlt]
    have := cmpR_swap a.1 b.1
    omega) l.attach
  refine ⟨_, rfl, ?_, fun z => ?_, by rw [List.length_map, List.length_mergeSort, List.length_attach]⟩
  · refine List.pairwise_map.2 (hpw.imp (fun {a b} h => ?_))
    exact (hlt a b).1 h
  · rw [List.mem_map]
    constructor
    · rintro ⟨x, hx, rfl⟩; exact x.2
    · intro hz; exact ⟨⟨z, hz⟩, (hperm.mem_iff).2 (List.mem_attach _ _), rfl⟩
def refsOf (c : List api_Node) : List api_Ref := (c.filter (fun n => n.Op == 2)).map (·.Ref)
theorem refs_pl (c : List api_Node) (hc : c.length ≤ 1024) : ∀ (n t : Nat) (acc : List api_Ref), t + n = c.length → acc.length ≤ t → cond_Refs.l0 c acc (t : Int) = some (acc ++ refsOf (c.drop t)) := by
  intro n
  induction n with
  | zero => intro t acc ht ha; rw [cond_Refs.l0, if_neg (nt (decide_eq_false (by omega))), List.drop_of_length_le (by omega)]; simp [refsOf]
  | succ n ih =>
    intro t acc ht ha
    have h1 : t < c.length := by omega
    have g : (0 : Int) ≤ (t : Int) ∧ (t : Int) < (c.length : Int) := by omega
    have q : ∀ z : api_Ref, (acc.length + ([z] : List api_Ref).length) * 24 ≤ 140737488355328 := by intro z; simp only [List.length_cons, List.length_nil]; omega
    rw [cond_Refs.l0, if_pos (decide_eq_true g.2)]
    simp only [if_pos g, gt_nat h1, if_pos (q _), w1 (show t < 9223372036854775807 by omega), List.drop_eq_getElem_cons h1]
    by_cases ho : (c[t].Op == 2) = true
    · rw [if_pos ho, ih (t + 1) _ (by omega) (by simp only [List.length_append, List.length_cons, List.length_nil]; omega)]
      simp only [refsOf, List.filter_cons, ho, if_true, List.map_cons, List.append_assoc, List.singleton_append]
    · rw [if_neg ho]
      show cond_Refs.l0 c acc ((t + 1 : Nat) : Int) = _
      rw [ih (t + 1) _ (by omega) (by omega)]
      simp only [refsOf, List.filter_cons, ho, if_false, Bool.false_eq_true]
theorem refs_nodes : ∀ (t : Cd) (k : Nat), refsOf (t.nodes k) = t.lv
  | .tru, k => rfl
  | .eq r v, k => rfl
  | .not a, k => by
    have := refs_nodes a k
    unfold refsOf at this ⊢
    simp only [Cd.nodes, Cd.lv, List.filter_append, List.map_append, this]
    simp [Cd.top]
  | .and a b, k => by
    have h1 := refs_nodes a k
    have h2 := refs_nodes b (k + a.n)
    unfold refsOf at h1 h2 ⊢
    simp only [Cd.nodes, Cd.lv, List.filter_append, List.map_append, h1, h2]
    simp [Cd.top]
  | .or a b, k => by
    have h1 := refs_nodes a k
    have h2 := refs_nodes b (k + a.n)
    unfold refsOf at h1 h2 ⊢
    simp only [Cd.nodes, Cd.lv, List.filter_append, List.map_append, h1, h2]
    simp [Cd.top]
theorem lv_ok : ∀ (t : Cd), t.wf = true → ∀ r ∈ t.lv, okR r
  | .tru, _, r, h => by cases h
  | .eq q v, h, r, hr => by
    rw [List.mem_singleton.1 hr]
    simp only [Cd.wf, Bool.and_eq_true, decide_eq_true_eq] at h
    exact h.1
  | .not a, h, r, hr => lv_ok a h r hr
  | .and a b, h, r, hr => by
    simp only [Cd.wf, Bool.and_eq_true] at h
    rcases List.mem_append.1 hr with hr | hr
    · exact lv_ok a h.1 r hr
    · exact lv_ok b h.2 r hr
  | .or a b, h, r, hr => by
    simp only [Cd.wf, Bool.and_eq_true] at h
    rcases List.mem_append.1 hr with hr | hr
    · exact lv_ok a h.1 r hr
    · exact lv_ok b h.2 r hr
theorem refs_T {l : List api_Ref} (hl : l.length ≤ 1024) (hok : ∀ r ∈ l, okR r) : ∃ s, s.length ≤ 1024 ∧ ∀ t : Cd, t.lv = l → t.n ≤ 1024 → cond_Check.f (t.nodes 0) = some 0 → cond_Refs.f (t.nodes 0) = some (s, 0) := by
  obtain ⟨ys, y1, y2, y3, y4⟩ := sort_r l hok
  obtain ⟨s, s1, s2, s3, s4⟩ := compact ys y2 (by omega)
  refine ⟨s, by omega, fun t ht hn hk => ?_⟩
  have hln : (t.nodes 0).length = t.n := t.len 0
  have h1 := refs_pl (t.nodes 0) (by omega) (t.nodes 0).length 0 [] (by omega) (Nat.le_refl _)
  rw [List.drop_zero, List.nil_append, show (((0 : Nat)) : Int) = (0 : Int) from rfl, refs_nodes, ht] at h1
  unfold cond_Refs.f
  rw [hk]
  simp only [Option.bind_eq_bind, Option.bind_some]
  rw [if_neg (by decide), h1]
  simp only [Option.bind_some]
  rw [if_pos (by omega), y1]
  simp only [Option.bind_some]
  rw [s1]
  rfl
theorem lv_len : ∀ t : Cd, t.lv.length ≤ t.n
  | .tru => by simp [Cd.lv, Cd.n]
  | .eq r v => by simp [Cd.lv, Cd.n]
  | .not a => by have := lv_len a; simp only [Cd.lv, Cd.n]; omega
  | .and a b => by have := lv_len a; have := lv_len b; simp only [Cd.lv, Cd.n, List.length_append]; omega
  | .or a b => by have := lv_len a; have := lv_len b; simp only [Cd.lv, Cd.n, List.length_append]; omega
theorem plain_law (c : List api_Node) (s : weirlaw06_Set) (hs : s.Refs.length ≤ 1000000000000000) : weirlaw06_CondPlain.f c s = some true := by
  unfold weirlaw06_CondPlain.f
  rw [works]
  simp only [Option.bind_eq_bind, Option.bind_some, Bool.not_true, Bool.false_eq_true, if_false]
  rcases check_iff c with ⟨t, h1, h2, h3, h4, h5⟩ | ⟨e, h1, h2⟩
  · subst h2
    rcases plain_T h1 h3 h5 with ⟨e, e1, e2⟩ | ⟨p1, p2, p3⟩
    · rw [e2]
      simp only [Option.bind_some, num_p]
      rw [if_pos (bne_iff_ne.2 e1)]; rfl
    · have ha := plain_again h1 p1 p2
      have hb := holds_T (s := s) hs h3 h5
      have hc := holds_T (s := s) hs p1 p2
      rw [Cd.pl_ev, show (false != t.ev (ofv s)) = t.ev (ofv s) by cases t.ev (ofv s) <;> rfl] at hc
      obtain ⟨R, r0, r1⟩ := refs_T (l := t.lv) (by have := lv_len t; omega) (lv_ok t h1)
      have hd := r1 t rfl h3 h5
      have he := r1 (Cd.pl false t) (Cd.pl_lv t false) p1 p2
      rw [p3]
      simp only [Option.bind_some, num_p]
      rw [if_neg (by decide), hb]
      simp only [Option.bind_some]
      rw [hc]
      simp only [Option.bind_some]
      rw [ha]
      simp only [Option.bind_some]
      rw [hd]
      simp only [Option.bind_some]
      rw [he]
      simp only [Option.bind_some, num_p]
      rw [if_neg (by decide), if_neg (by decide), if_neg (by decide), if_neg (by decide), if_neg (by decide), if_neg (by cases t.ev (ofv s) <;> decide)]
      rw [same_T p1]
      simp only [Option.bind_some, Bool.not_true, Bool.false_eq_true, if_false]
      rw [same_r R (by omega)]
      simp only [Option.bind_some, Bool.not_true, Bool.false_eq_true, if_false]
      rw [pp_T p1 (Cd.pl_pp t false)]
      rfl
  · have hp : cond_Plain.f c = some ([], e) := by
      unfold cond_Plain.f
      rw [h2]
      simp only [Option.bind_eq_bind, Option.bind_some]
      rw [if_pos (bne_iff_ne.2 h1)]
    rw [hp]
    simp only [Option.bind_some, num_p]
    rw [if_pos (bne_iff_ne.2 h1)]; rfl
end Go.Proofs.YtboejepakdnbgaaGreatDoor.K.C
namespace Go.Proofs.YtboejepakdnbgaaGreatDoor.K
theorem law2 (c : List api_Node) (s : weirlaw06_Set) (hc : c.length * 56 ≤ bnd ∧ ∀ x ∈ c, ok_api_Node x) (hs : ok_weirlaw06_Set s) : weirlaw06_CondPlain.f c s = some true := C.plain_law c s (by have h1 := hs.1.1; have h2 : bnd = 140737488351232 := rfl; omega)
end Go.Proofs.YtboejepakdnbgaaGreatDoor.K
