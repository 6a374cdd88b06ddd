/- The states of a picture, breadth first, as the document and the program both come to them: plain lists. -/
import Derived.Test.YtfiamlhhhkiiaaaEA
set_option linter.unusedVariables false
set_option linter.unusedSimpArgs false
namespace Go.Proofs.Ytfiamlhhhkiiaaa.K
open Go Go.RowKit
structure Nd where
  s : Nat
  d : Nat
  fr : Int
  by_ : api_Pick
instance : Inhabited Nd := ⟨⟨0, 0, 0, default⟩⟩
def ss (L : List Nd) : List Nat := L.map Nd.s
def add (d i : Nat) (L : List Nd) (x : api_Pick × Nat) : List Nd := if x.2 ∈ ss L then L else L ++ [⟨x.2, d + 1, (i : Int), x.1⟩]
def sto (n : weirlaw14_Net) (s k : Nat) : List (api_Pick × Nat) := (List.range k).filterMap (sc n s)
theorem sto_succ (n : weirlaw14_Net) (s k : Nat) : sto n s (k + 1) = sto n s k ++ (sc n s k).toList := by
  unfold sto
  rw [List.range_succ, List.filterMap_append]
  cases h : sc n s k <;> simp [List.filterMap_cons, h]
theorem sto_len (n : weirlaw14_Net) (s k : Nat) : (sto n s k).length ≤ k := by
  unfold sto
  exact Nat.le_trans (List.length_filterMap_le ..) (by simp)
def succs (n : weirlaw14_Net) (s : Nat) : List (api_Pick × Nat) := sto n s (row n s).length
theorem sc_lt {n : weirlaw14_Net} {s k : Nat} {x : api_Pick × Nat} (h : sc n s k = some x) : x.2 < n.Next.length := by
  unfold sc at h
  split at h
  · cases h; show Int.toNat _ < _; omega
  · cases h
theorem sto_lt {n : weirlaw14_Net} {s k : Nat} {x : api_Pick × Nat} (h : x ∈ sto n s k) : x.2 < n.Next.length := by
  obtain ⟨j, _, hj⟩ := List.mem_filterMap.1 h
  exact sc_lt hj
def B (n : weirlaw14_Net) : Nat → List Nd
  | 0 => [⟨n.Start.toNat, 0, -1, ⟨0, 0, 0⟩⟩]
  | i + 1 => match (B n i)[i]? with
    | none => B n i
    | some x => (succs n x.s).foldl (add x.d i) (B n i)
structure Wf (n : weirlaw14_Net) (L : List Nd) : Prop where
  nodup : (ss L).Nodup
  lt : ∀ s ∈ ss L, s < n.Next.length
  dep : ∀ (j : Nat) (x : Nd), L[j]? = some x → x.d ≤ j
theorem nodup_few : ∀ (N : Nat) (l : List Nat), l.Nodup → (∀ x ∈ l, x < N) → l.length ≤ N := by
  intro N
  induction N with
  | zero => intro l _ h; cases l with
    | nil => simp
    | cons x l => exact absurd (h x (List.mem_cons_self ..)) (by omega)
  | succ N ih =>
    intro l hn h
    by_cases hm : N ∈ l
    · have h1 := ih (l.erase N) (hn.erase N) (fun x hx => by
        have := (hn.mem_erase_iff).1 hx
        have := h x this.2
        omega)
      rw [List.length_erase_of_mem hm] at h1
      omega
    · have := ih l hn (fun x hx => by
        have h1 := h x hx
        have h2 : x ≠ N := fun e => hm (e ▸ hx)
        omega)
      omega
theorem Wf.len {n : weirlaw14_Net} {L : List Nd} (h : Wf n L) : L.length ≤ n.Next.length := by
  have := nodup_few _ (ss L) h.nodup h.lt
  unfold ss at this; rw [List.length_map] at this; exact this
theorem ss_app (L M : List Nd) : ss (L ++ M) = ss L ++ ss M := by unfold ss; simp
theorem add_wf {n : weirlaw14_Net} {L : List Nd} {d i : Nat} {x : api_Pick × Nat} (h : Wf n L) (hx : x.2 < n.Next.length) (hd : d ≤ i) (hi : i < L.length) : Wf n (add d i L x) := by
  unfold add
  split
  · exact h
  · rename_i hm
    refine ⟨?_, ?_, ?_⟩
    · rw [ss_app]
      refine List.nodup_append.2 ⟨h.nodup, by simp [ss], fun a ha b hb => ?_⟩
      simp [ss] at hb
      subst hb
      intro e; exact hm (e ▸ ha)
    · intro s hs
      rw [ss_app, List.mem_append] at hs
      rcases hs with hs | hs
      · exact h.lt s hs
      · simp [ss] at hs; subst hs; exact hx
    · intro j y hj
      by_cases hl : j < L.length
      · rw [List.getElem?_append_left hl] at hj; exact h.dep j y hj
      · rw [List.getElem?_append_right (by omega)] at hj
        cases hz : j - L.length with
        | zero => rw [hz] at hj; cases hj; show d + 1 ≤ j; omega
        | succ m => rw [hz] at hj; simp at hj
theorem add_pre (d i : Nat) (L : List Nd) (x : api_Pick × Nat) : ∃ t, add d i L x = L ++ t := by
  unfold add
  split
  · exact ⟨[], by simp⟩
  · exact ⟨_, rfl⟩
theorem fold_pre (d i : Nat) : ∀ (l : List (api_Pick × Nat)) (L : List Nd), ∃ t, l.foldl (add d i) L = L ++ t
  | [], L => ⟨[], by simp⟩
  | x :: l, L => by
    obtain ⟨t, h⟩ := add_pre d i L x
    obtain ⟨u, h2⟩ := fold_pre d i l (add d i L x)
    exact ⟨t ++ u, by rw [List.foldl_cons, h2, h, List.append_assoc]⟩
theorem fold_wf {n : weirlaw14_Net} {d i : Nat} (hd : d ≤ i) : ∀ (l : List (api_Pick × Nat)) (L : List Nd), Wf n L → i < L.length → (∀ x ∈ l, x.2 < n.Next.length) → Wf n (l.foldl (add d i) L)
  | [], L, h, _, _ => h
  | x :: l, L, h, hi, hx => by
    obtain ⟨t, e⟩ := add_pre d i L x
    exact fold_wf hd l _ (add_wf h (hx x (List.mem_cons_self ..)) hd hi) (by rw [e, List.length_append]; omega) fun y hy => hx y (List.mem_cons_of_mem _ hy)
theorem B_wf {n : weirlaw14_Net} (h0 : 0 ≤ n.Start ∧ n.Start < (n.Next.length : Int)) : ∀ i, Wf n (B n i)
  | 0 => by
    refine ⟨by simp [B, ss], fun s hs => ?_, fun j x hj => ?_⟩
    · simp [B, ss] at hs; subst hs; omega
    · cases j with
      | zero => simp [B] at hj; subst hj; exact Nat.le_refl _
      | succ j => simp [B] at hj
  | i + 1 => by
    have ih := B_wf h0 i
    unfold B
    split
    · exact ih
    · rename_i x hx
      exact fold_wf (ih.dep i x hx) _ _ ih (List.getElem?_eq_some_iff.1 hx).1 fun y hy => sto_lt hy
theorem B_step {n : weirlaw14_Net} {i : Nat} {x : Nd} (h : (B n i)[i]? = some x) : B n (i + 1) = (succs n x.s).foldl (add x.d i) (B n i) := by
  rw [B, h]
theorem B_pre1 (n : weirlaw14_Net) (i : Nat) : ∃ t, B n (i + 1) = B n i ++ t := by
  rw [B]
  split
  · exact ⟨[], by simp⟩
  · exact fold_pre ..
theorem B_pre (n : weirlaw14_Net) (i : Nat) : ∀ m, ∃ t, B n (i + m) = B n i ++ t
  | 0 => ⟨[], by simp⟩
  | m + 1 => by
    obtain ⟨t, h⟩ := B_pre n i m
    obtain ⟨u, h2⟩ := B_pre1 n (i + m)
    exact ⟨t ++ u, by rw [← Nat.add_assoc, h2, h, List.append_assoc]⟩
theorem B_end {n : weirlaw14_Net} {i : Nat} (h : (B n i).length ≤ i) : ∀ m, B n (i + m) = B n i
  | 0 => rfl
  | m + 1 => by
    have ih := B_end h m
    rw [← Nat.add_assoc, B, ih, List.getElem?_eq_none (by omega)]
/-- All of them. -/
def G (n : weirlaw14_Net) : List Nd := B n n.Next.length
theorem G_pre {n : weirlaw14_Net} {i : Nat} (h : i ≤ n.Next.length) : ∃ t, G n = B n i ++ t := by
  obtain ⟨t, e⟩ := B_pre n i (n.Next.length - i)
  rw [show i + (n.Next.length - i) = n.Next.length by omega] at e
  exact ⟨t, e⟩
theorem G_of {n : weirlaw14_Net} {i : Nat} (hi : i ≤ n.Next.length) (h : (B n i).length ≤ i) : G n = B n i := by
  have := B_end h (n.Next.length - i)
  rwa [show i + (n.Next.length - i) = n.Next.length by omega] at this
theorem G_at {n : weirlaw14_Net} {i j : Nat} {x : Nd} (hi : i ≤ n.Next.length) (h : (B n i)[j]? = some x) : (G n)[j]? = some x := by
  obtain ⟨t, e⟩ := G_pre hi
  rw [e, List.getElem?_append_left (List.getElem?_eq_some_iff.1 h).1]; exact h
theorem ss_at {L : List Nd} {j : Nat} {x : Nd} (h : L[j]? = some x) : (ss L)[j]? = some x.s := by unfold ss; rw [List.getElem?_map, h]; rfl
theorem ss_mem {L : List Nd} {j : Nat} {x : Nd} (h : L[j]? = some x) : x.s ∈ ss L := List.mem_of_getElem? (ss_at h)
theorem ss_same {n : weirlaw14_Net} {L : List Nd} (hw : Wf n L) {i j : Nat} {x y : Nd} (hi : L[i]? = some x) (hj : L[j]? = some y) (h : x.s = y.s) : i = j := by
  have h1 := ss_at hi
  have h2 := ss_at hj
  rw [h] at h1
  exact (List.getElem?_inj (List.getElem?_eq_some_iff.1 h1).1 hw.nodup).1 (h1.trans h2.symm)
/-! ### What is kept of states that are known -/
def Known {ν : Type} (L : List Nd) (K : List (ByteArray × ν)) (f : Nat → ν) : Prop :=
  (∀ j x, L[j]? = some x → mget K (nm x.s) = some (f j)) ∧ ∀ u, u < 65536 → u ∉ ss L → mget K (nm u) = none
theorem Known.more {ν : Type} {n : weirlaw14_Net} {L : List Nd} {K : List (ByteArray × ν)} {f : Nat → ν} (hn : n.Next.length ≤ 60000) (hw : Wf n L) (hk : Known L K f) {x : Nd} (hx : x.s ∉ ss L) (hl : x.s < n.Next.length) :
    Known (L ++ [x]) (mput K (nm x.s) (f L.length)) f := by
  refine ⟨fun j y hj => ?_, fun u hu hm => ?_⟩
  · rw [mget_mput]
    by_cases hlt : j < L.length
    · rw [List.getElem?_append_left hlt] at hj
      rw [if_neg, hk.1 j y hj]
      intro e
      have := nm_inj (by omega) (by have := hw.lt y.s (ss_mem hj); omega) e
      exact hx (this ▸ ss_mem hj)
    · rw [List.getElem?_append_right (by omega)] at hj
      cases hz : j - L.length with
      | zero => rw [hz] at hj; cases hj; rw [if_pos rfl, show j = L.length by omega]
      | succ m => rw [hz] at hj; simp at hj
  · rw [ss_app, List.mem_append] at hm
    rw [mget_mput, if_neg, hk.2 u hu fun h => hm (.inl h)]
    intro e
    have := nm_inj (by omega) hu e
    exact hm (.inr (by simp [ss, this]))
theorem Known.old {ν : Type} {L : List Nd} {K : List (ByteArray × ν)} {f : Nat → ν} (hk : Known L K f) {u : Nat} (hm : u ∈ ss L) : ∃ j x, L[j]? = some x ∧ x.s = u ∧ mget K (nm u) = some (f j) := by
  obtain ⟨j, hj⟩ := List.getElem?_of_mem hm
  unfold ss at hj
  rw [List.getElem?_map] at hj
  cases hx : L[j]? with
  | none => rw [hx] at hj; cases hj
  | some x =>
    rw [hx] at hj
    have e : x.s = u := by simpa using hj
    exact ⟨j, x, hx, e, e ▸ hk.1 j x hx⟩
theorem Known.start {ν : Type} {n : weirlaw14_Net} {x : Nd} {f : Nat → ν} (hl : x.s < 65536) : Known [x] (mput [] (nm x.s) (f 0)) f := by
  refine ⟨fun j y hj => ?_, fun u hu hm => ?_⟩
  · cases j with
    | zero => simp at hj; subst hj; rw [mget_mput, if_pos rfl]
    | succ j => simp at hj
  · rw [mget_mput, if_neg]
    · rfl
    · intro e; exact hm (by simp [ss, nm_inj hl hu e])
end Go.Proofs.Ytfiamlhhhkiiaaa.K
