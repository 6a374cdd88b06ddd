/- An order in which all that leads to a state comes ahead of it (a stack of those for which nothing is waited any more): plain lists of places. -/
import Derived.Test.YtfiamlhhhkiiaaaHA
set_option linter.unusedVariables false
set_option linter.unusedSimpArgs false
namespace Go.Proofs.Ytfiamlhhhkiiaaa.K
open Go Go.RowKit
def upn (w : Nat → Nat) (t v : Nat) : Nat → Nat := fun k => if k = t then v else w k
def stepK (s : List Nat × (Nat → Nat)) (t : Nat) : List Nat × (Nat → Nat) := if s.2 t - 1 = 0 then (s.1 ++ [t], upn s.2 t 0) else (s.1, upn s.2 t (s.2 t - 1))
theorem foldK : ∀ (r R : List Nat) (w : Nat → Nat), (∀ t, r.count t ≤ w t) →
    (∀ t, (r.foldl stepK (R, w)).2 t = w t - r.count t) ∧ ∃ A, (r.foldl stepK (R, w)).1 = R ++ A ∧ A.Nodup ∧ ∀ t, t ∈ A ↔ t ∈ r ∧ w t = r.count t
  | [], R, w, _ => ⟨fun t => by simp, [], by simp, List.nodup_nil, fun t => by simp⟩
  | u :: r, R, w, h => by
    have hu := h u
    rw [List.count_cons_self] at hu
    rw [List.foldl_cons]
    have hc : ∀ t, r.count t ≤ upn w u (w u - 1) t := by
      intro t
      unfold upn
      have := h t
      split
      · rename_i e; subst e; omega
      · rename_i e; rw [List.count_cons_of_ne (Ne.symm e)] at this; exact this
    by_cases hz : w u - 1 = 0
    · have e : stepK (R, w) u = (R ++ [u], upn w u (w u - 1)) := by unfold stepK; rw [if_pos hz, hz]
      rw [e]
      obtain ⟨i1, A, i2, i3, i4⟩ := foldK r (R ++ [u]) (upn w u (w u - 1)) hc
      have hru : r.count u = 0 := by omega
      have hun : u ∉ r := List.count_eq_zero.1 hru
      refine ⟨fun t => ?_, u :: A, by rw [i2]; simp, List.nodup_cons.2 ⟨fun hA => hun ((i4 u).1 hA).1, i3⟩, fun t => ?_⟩
      · rw [i1]
        unfold upn
        split
        · rename_i e; subst e; rw [List.count_cons_self]; omega
        · rename_i e; rw [List.count_cons_of_ne (Ne.symm e)]
      · rw [List.mem_cons, List.mem_cons, i4]
        by_cases e : t = u
        · subst e
          rw [List.count_cons_self]
          constructor
          · intro _; exact ⟨.inl rfl, by omega⟩
          · intro _; exact .inl rfl
        · rw [List.count_cons_of_ne (Ne.symm e)]
          unfold upn
          rw [if_neg e]
          constructor
          · rintro (h1 | ⟨h1, h2⟩)
            · exact absurd h1 e
            · exact ⟨.inr h1, h2⟩
          · rintro ⟨h1 | h1, h2⟩
            · exact absurd h1 e
            · exact .inr ⟨h1, h2⟩
    · have e : stepK (R, w) u = (R, upn w u (w u - 1)) := by unfold stepK; rw [if_neg hz]
      rw [e]
      obtain ⟨i1, A, i2, i3, i4⟩ := foldK r R (upn w u (w u - 1)) hc
      refine ⟨fun t => ?_, A, i2, i3, fun t => ?_⟩
      · rw [i1]
        unfold upn
        split
        · rename_i e; subst e; rw [List.count_cons_self]; omega
        · rename_i e; rw [List.count_cons_of_ne (Ne.symm e)]
      · rw [List.mem_cons, i4]
        unfold upn
        by_cases e : t = u
        · subst e
          rw [List.count_cons_self, if_pos rfl]
          constructor
          · rintro ⟨h1, h2⟩; exact ⟨.inl rfl, by omega⟩
          · rintro ⟨_, h2⟩
            have : r.count t ≠ 0 := by omega
            exact ⟨List.count_pos_iff.1 (by omega), by omega⟩
        · rw [List.count_cons_of_ne (Ne.symm e), if_neg e]
          constructor
          · rintro ⟨h1, h2⟩; exact ⟨.inr h1, h2⟩
          · rintro ⟨h1 | h1, h2⟩
            · exact absurd h1 e
            · exact ⟨h1, h2⟩
/-- How many lead to t from those that are not out. -/
def cin (a : Nat → List Nat) (N : Nat) (out : List Nat) (t : Nat) : Nat := ((List.range N).map fun j => if j ∈ out then 0 else (a j).count t).sum
theorem sum_upd {f g : Nat → Nat} {j c : Nat} (hj : f j = g j + c) : ∀ (l : List Nat), l.Nodup → j ∈ l → (∀ x, x ≠ j → f x = g x) → (l.map f).sum = (l.map g).sum + c
  | [], _, h, _ => by cases h
  | x :: l, hn, h, he => by
    rw [List.map_cons, List.map_cons, List.sum_cons, List.sum_cons]
    have hn2 := List.nodup_cons.1 hn
    by_cases e : x = j
    · subst e
      have : (l.map f) = (l.map g) := List.map_congr_left fun y hy => he y fun e => hn2.1 (e ▸ hy)
      rw [this, hj]; omega
    · rcases List.mem_cons.1 h with h1 | h1
      · exact absurd h1.symm e
      · rw [sum_upd hj l hn2.2 h1 he, he x e]; omega
theorem cin_out {a : Nat → List Nat} {N : Nat} {out : List Nat} {j : Nat} (hj : j < N) (ho : j ∉ out) (t : Nat) : cin a N out t = cin a N (out ++ [j]) t + (a j).count t := by
  unfold cin
  refine sum_upd ?_ (List.range N) List.nodup_range (List.mem_range.2 hj) fun x hx => ?_
  · simp only [if_neg ho]
    rw [if_pos (List.mem_append_right _ (List.mem_singleton.2 rfl))]; omega
  · by_cases h : x ∈ out
    · rw [if_pos h, if_pos (List.mem_append_left _ h)]
    · rw [if_neg h, if_neg]
      intro h2
      rcases List.mem_append.1 h2 with h3 | h3
      · exact h h3
      · exact hx (List.mem_singleton.1 h3)
theorem sum_zero {f : Nat → Nat} : ∀ (l : List Nat), (l.map f).sum = 0 ↔ ∀ x ∈ l, f x = 0
  | [] => by simp
  | x :: l => by
    rw [List.map_cons, List.sum_cons, Nat.add_eq_zero_iff, sum_zero l]
    simp
theorem cin_zero {a : Nat → List Nat} {N : Nat} {out : List Nat} {t : Nat} : cin a N out t = 0 ↔ ∀ j, j < N → j ∉ out → t ∉ a j := by
  unfold cin
  rw [sum_zero]
  constructor
  · intro h j hj ho hm
    have := h j (List.mem_range.2 hj)
    rw [if_neg ho] at this
    exact List.count_eq_zero.1 this hm
  · intro h j hj
    split
    · rfl
    · rename_i ho; exact List.count_eq_zero.2 (h j (List.mem_range.1 hj) ho)
structure KInv (a : Nat → List Nat) (N : Nat) (out R : List Nat) (w : Nat → Nat) : Prop where
  nodup : (out ++ R).Nodup
  lt : ∀ t ∈ out ++ R, t < N
  cnt : ∀ t, t < N → w t = cin a N out t
  zero : ∀ t ∈ out ++ R, w t = 0
  all : ∀ t, t < N → w t = 0 → t ∈ out ++ R
  top : out.Pairwise fun b c => b ∉ a c
  self : ∀ t ∈ out, t ∉ a t
theorem KInv.step {a : Nat → List Nat} {N : Nat} (ha : ∀ j t, t ∈ a j → t < N) {out R : List Nat} {w : Nat → Nat} {j : Nat} (h : KInv a N out (R ++ [j]) w) : KInv a N (out ++ [j]) ((a j).foldl stepK (R, w)).1 ((a j).foldl stepK (R, w)).2 ∧ (∀ t, (a j).count t ≤ w t) := by
  have hjm : j ∈ out ++ (R ++ [j]) := by simp
  have hj := h.lt j hjm
  have hnd := List.nodup_append.1 h.nodup
  have hjo : j ∉ out := fun ho => hnd.2.2 j ho j (by simp) rfl
  have hcnt : ∀ t, (a j).count t ≤ w t := by
    intro t
    by_cases ht : t ∈ a j
    · rw [h.cnt t (ha j t ht), cin_out hj hjo t]; omega
    · rw [List.count_eq_zero.2 ht]; omega
  obtain ⟨i1, A, i2, i3, i4⟩ := foldK (a j) R w hcnt
  have hself : j ∉ a j := by
    have h1 := h.zero j hjm
    rw [h.cnt j hj, cin_zero] at h1
    exact h1 j hj hjo
  have hw2 : ∀ t, t < N → ((a j).foldl stepK (R, w)).2 t = cin a N (out ++ [j]) t := by
    intro t ht
    rw [i1, h.cnt t ht, cin_out hj hjo t]; omega
  have hnot : ∀ t ∈ a j, t ∉ out ++ (R ++ [j]) := by
    intro t ht hm
    have h1 := h.zero t hm
    rw [h.cnt t (h.lt t hm), cin_zero] at h1
    exact h1 j hj hjo ht
  have perm : (out ++ [j] ++ (R ++ A)).Perm (out ++ (R ++ [j]) ++ A) := by
    rw [List.append_assoc, List.append_assoc]
    refine List.Perm.append_left out ?_
    rw [List.append_assoc]
    exact (List.perm_middle (l₁ := R) (a := j) (l₂ := A)).symm.trans (by simp) |>.trans (List.Perm.refl _)
  have hmem : ∀ t, t ∈ out ++ [j] ++ (R ++ A) ↔ t ∈ out ++ (R ++ [j]) ∨ t ∈ A := by
    intro t; rw [perm.mem_iff, List.mem_append]
  refine ⟨⟨?_, ?_, hw2, ?_, ?_, ?_, ?_⟩, hcnt⟩
  · rw [i2]
    refine (perm.nodup_iff).2 (List.nodup_append.2 ⟨h.nodup, i3, fun x hx y hy e => ?_⟩)
    subst e
    exact hnot x ((i4 x).1 hy).1 hx
  · rw [i2]
    intro t ht
    rcases (hmem t).1 ht with h1 | h1
    · exact h.lt t h1
    · exact ha j t ((i4 t).1 h1).1
  · rw [i2]
    intro t ht
    rw [i1]
    rcases (hmem t).1 ht with h1 | h1
    · rw [h.zero t h1]; omega
    · rw [((i4 t).1 h1).2]; omega
  · rw [i2]
    intro t ht hz
    rw [hmem]
    rw [i1] at hz
    by_cases hm : t ∈ a j
    · exact .inr ((i4 t).2 ⟨hm, by have := hcnt t; omega⟩)
    · rw [List.count_eq_zero.2 hm] at hz
      exact .inl (h.all t ht (by omega))
  · refine List.pairwise_append.2 ⟨h.top, List.pairwise_singleton .., fun b hb c hc => ?_⟩
    rw [List.mem_singleton] at hc
    subst hc
    intro hm
    exact hnot b hm (List.mem_append_left _ hb)
  · intro t ht
    rcases List.mem_append.1 ht with h1 | h1
    · exact h.self t h1
    · rw [List.mem_singleton] at h1; subst h1; exact hself
end Go.Proofs.Ytfiamlhhhkiiaaa.K
