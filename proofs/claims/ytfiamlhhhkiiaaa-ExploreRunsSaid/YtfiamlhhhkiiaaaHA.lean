/- The graph of a picture over its states' places: closed; what each state is worth. -/
import Derived.Test.YtfiamlhhhkiiaaaEL
set_option linter.unusedVariables false
set_option linter.unusedSimpArgs false
namespace Go.Proofs.Ytfiamlhhhkiiaaa.K
open Go Go.RowKit
section
variable {n : weirlaw14_Net}
theorem add_mem (d i : Nat) (L : List Nd) (x : api_Pick × Nat) : x.2 ∈ ss (add d i L x) := by
  unfold add
  split
  · assumption
  · rw [ss_app, List.mem_append]; exact .inr (by simp [ss])
theorem fold_mem (d i : Nat) : ∀ (l : List (api_Pick × Nat)) (L : List Nd) (x : api_Pick × Nat), x ∈ l → x.2 ∈ ss (l.foldl (add d i) L)
  | [], _, _, h => by cases h
  | y :: l, L, x, h => by
    rcases List.mem_cons.1 h with rfl | h
    · obtain ⟨t, e⟩ := fold_pre d i l (add d i L x)
      rw [List.foldl_cons, e, ss_app, List.mem_append]
      exact .inl (add_mem d i L x)
    · exact fold_mem d i l _ x h
theorem at_B (h0 : 0 ≤ n.Start ∧ n.Start < (n.Next.length : Int)) {j : Nat} {x : Nd} (hx : (G n)[j]? = some x) : j < n.Next.length ∧ (B n j)[j]? = some x := by
  have hl := len_of hx
  have hw := (B_wf h0 n.Next.length).len
  have hj : j < n.Next.length := by
    have : (G n).length ≤ n.Next.length := hw
    omega
  have hb : j < (B n j).length := by
    rcases Nat.lt_or_ge j (B n j).length with h | h
    · exact h
    · have e := G_of (by omega) h
      rw [e] at hl; omega
  refine ⟨hj, ?_⟩
  have h2 := List.getElem?_eq_getElem hb
  have h3 := G_at (i := j) (by omega) h2
  rw [hx] at h3
  rw [h2, h3]
theorem G_closed (h0 : 0 ≤ n.Start ∧ n.Start < (n.Next.length : Int)) {j : Nat} {x : Nd} (hx : (G n)[j]? = some x) {y : api_Pick × Nat} (hy : y ∈ succs n x.s) : y.2 ∈ ss (G n) := by
  obtain ⟨hj, hb⟩ := at_B h0 hx
  obtain ⟨t, ht⟩ := G_pre (n := n) (i := j + 1) (by omega)
  rw [ht, ss_app, List.mem_append, B_step hb]
  exact .inl (fold_mem _ _ _ _ _ hy)
/-- The places of a state's successors. -/
def adj (n : weirlaw14_Net) (j : Nat) : List Nat := match (G n)[j]? with
  | none => []
  | some x => (succs n x.s).map fun y => (ss (G n)).idxOf y.2
theorem adj_at {j : Nat} {x : Nd} (hx : (G n)[j]? = some x) : adj n j = (succs n x.s).map fun y => (ss (G n)).idxOf y.2 := by unfold adj; rw [hx]
theorem idx_get {L : List Nd} {u : Nat} (h : u ∈ ss L) : ∃ x, L[(ss L).idxOf u]? = some x ∧ x.s = u := by
  have hl : (ss L).idxOf u < (ss L).length := List.idxOf_lt_length_iff.2 h
  have h4 : (ss L)[(ss L).idxOf u]? = some u := by rw [List.getElem?_eq_getElem hl]; simp
  generalize (ss L).idxOf u = i at h4
  unfold ss at h4
  rw [List.getElem?_map] at h4
  cases hx : L[i]? with
  | none => rw [hx] at h4; cases h4
  | some x => rw [hx] at h4; exact ⟨x, rfl, by simpa using h4⟩
theorem adj_lt (h0 : 0 ≤ n.Start ∧ n.Start < (n.Next.length : Int)) {j t : Nat} (h : t ∈ adj n j) : t < (G n).length := by
  unfold adj at h
  split at h
  · cases h
  · rename_i x hx
    obtain ⟨y, hy, e⟩ := List.mem_map.1 h
    obtain ⟨z, hz, _⟩ := idx_get (G_closed h0 hx hy)
    rw [e] at hz
    exact len_of hz
/-- Whence a state was first come to leads to it. -/
theorem from_adj (h0 : 0 ≤ n.Start ∧ n.Start < (n.Next.length : Int)) : ∀ (i j : Nat) (x : Nd), (B n i)[j]? = some x → 0 < j → ∃ k, k < j ∧ ∃ z, (B n i)[k]? = some z ∧ x.s ∈ (succs n z.s).map (·.2)
  | 0, j, x, hx, hj => by
    cases j with
    | zero => omega
    | succ j => simp [B] at hx
  | i + 1, j, x, hx, hj => by
    have ih := from_adj h0 i
    obtain ⟨t, ht⟩ := B_pre1 n i
    by_cases hl : j < (B n i).length
    · rw [ht, List.getElem?_append_left hl] at hx
      obtain ⟨k, k1, z, k2, k3⟩ := ih j x hx hj
      exact ⟨k, k1, z, by rw [ht, List.getElem?_append_left (by omega)]; exact k2, k3⟩
    · have hz : ∃ z, (B n i)[i]? = some z := by
        cases h : (B n i)[i]? with
        | some z => exact ⟨z, rfl⟩
        | none =>
          exfalso
          have e : B n (i + 1) = B n i := by rw [B, h]
          rw [e] at hx
          exact hl (len_of hx)
      obtain ⟨z, hz⟩ := hz
      have hil := len_of hz
      refine ⟨i, by omega, z, by rw [ht, List.getElem?_append_left hil]; exact hz, ?_⟩
      have hn : x.s ∈ ss (B n (i + 1)) := ss_mem hx
      have key : ∀ (l : List (api_Pick × Nat)) (L : List Nd) (u : Nat), u ∈ ss (l.foldl (add z.d i) L) → u ∈ ss L ∨ u ∈ l.map (·.2) := by
        intro l
        induction l with
        | nil => intro L u h; exact .inl h
        | cons y l ihl =>
          intro L u h
          rcases ihl _ u h with h1 | h1
          · unfold add at h1
            split at h1
            · exact .inl h1
            · rw [ss_app, List.mem_append] at h1
              rcases h1 with h1 | h1
              · exact .inl h1
              · exact .inr (by simp [ss] at h1; simp [h1])
          · exact .inr (by rw [List.map_cons]; exact List.mem_cons_of_mem _ h1)
      rw [B_step hz] at hn
      rcases key _ _ _ hn with h1 | h1
      · exfalso
        obtain ⟨q, hq⟩ := List.getElem?_of_mem h1
        have hx2 := ss_at hx
        have hq2 : (ss (B n (i + 1)))[q]? = some x.s := by
          rw [ht, ss_app, List.getElem?_append_left (len_of hq)]; exact hq
        have e := (List.getElem?_inj (len_of hq2) (B_wf h0 (i + 1)).nodup).1 (hq2.trans hx2.symm)
        have := len_of hq
        unfold ss at this; rw [List.length_map] at this
        omega
      · exact h1
end
/-! ### What a state is worth -/
def stp (p q : Int × Bool) : Int × Bool := (addS p.1 q.1, p.2 || decide (addC p.1 q.1 > 0) || q.2)
def val (e : Nat → Bool) (a : Nat → List Nat) : Nat → Nat → Int × Bool
  | 0, _ => (0, false)
  | f + 1, j => (a j).foldl (fun p t => stp p (val e a f t)) (if e j then 1 else 0, false)
theorem foldl_eq {α β : Type} {f g : β → α → β} : ∀ (l : List α) (b : β), (∀ b, ∀ x ∈ l, f b x = g b x) → l.foldl f b = l.foldl g b
  | [], _, _ => rfl
  | x :: l, b, h => by
    rw [List.foldl_cons, List.foldl_cons, h b x (List.mem_cons_self ..)]
    exact foldl_eq l _ fun b y hy => h b y (List.mem_cons_of_mem _ hy)
/-- With a rank, no more fuel than that is used. -/
theorem val_rank {e : Nat → Bool} {a : Nat → List Nat} {r : Nat → Nat} (hr : ∀ j t, t ∈ a j → r t < r j) : ∀ (m f g j : Nat), r j < m → m ≤ f → m ≤ g → val e a f j = val e a g j := by
  intro m
  induction m with
  | zero => intro f g j h; omega
  | succ m ih =>
    intro f g j hj hf hg
    obtain ⟨f, rfl⟩ : ∃ k, f = k + 1 := ⟨f - 1, by omega⟩
    obtain ⟨g, rfl⟩ : ∃ k, g = k + 1 := ⟨g - 1, by omega⟩
    unfold val
    exact foldl_eq _ _ fun b t ht => by rw [ih f g t (by have := hr j t ht; omega) (by omega) (by omega)]
end Go.Proofs.Ytfiamlhhhkiiaaa.K
