/- The program's Runs: what each state is worth, from behind. -/
import Derived.Test.YtfiamlhhhkiiaaaHD
set_option linter.unusedVariables false
set_option linter.unusedSimpArgs false
namespace Go.Proofs.Ytfiamlhhhkiiaaa.K
open Go Go.RowKit
section
variable {n : weirlaw14_Net}
def isEnd (n : weirlaw14_Net) (j : Nat) : Bool := (mEnd n ((G n).getD j default).s).2
theorem isEnd_at {j : Nat} {x : Nd} (h : (G n)[j]? = some x) : isEnd n j = (mEnd n x.s).2 := by unfold isEnd; rw [List.getD_eq_getElem?_getD, h]; rfl
def worth (n : weirlaw14_Net) (j : Nat) : Int × Bool := val (isEnd n) (adj n) ((G n).length + 1) j
/-- An order of all states in which all that leads to a state comes ahead of it. -/
structure Topo (n : weirlaw14_Net) (out : List Nat) : Prop where
  nodup : out.Nodup
  all : ∀ t, t < (G n).length ↔ t ∈ out
  top : out.Pairwise fun b c => b ∉ adj n c
  self : ∀ t ∈ out, t ∉ adj n t
theorem KInv.topo {out : List Nat} {w : Nat → Nat} (h : KInv (adj n) (G n).length out [] w) (hl : out.length = (G n).length) : Topo n out := by
  have hnd : out.Nodup := by have := h.nodup; rwa [List.append_nil] at this
  refine ⟨hnd, fun t => ⟨fun ht => ?_, fun ht => h.lt t (List.mem_append_left _ ht)⟩, h.top, h.self⟩
  rcases Classical.em (t ∈ out) with h1 | h1
  · exact h1
  · exfalso
    have h2 := nodup_few (G n).length (t :: out) (List.nodup_cons.2 ⟨h1, hnd⟩) (fun x hx => by
      rcases List.mem_cons.1 hx with rfl | hx
      · exact ht
      · exact h.lt x (List.mem_append_left _ hx))
    simp at h2
    omega
theorem Topo.len {out : List Nat} (h : Topo n out) : out.length ≤ (G n).length := nodup_few _ _ h.nodup fun x hx => (h.all x).2 hx
theorem Topo.later (h0 : 0 ≤ n.Start ∧ n.Start < (n.Next.length : Int)) {out : List Nat} (h : Topo n out) {i j t : Nat} (hi : out[i]? = some j) (ht : t ∈ adj n j) : ∃ k, i < k ∧ out[k]? = some t := by
  obtain ⟨k, hk⟩ := List.getElem?_of_mem ((h.all t).1 (adj_lt h0 ht))
  refine ⟨k, ?_, hk⟩
  rcases Nat.lt_trichotomy i k with h1 | h1 | h1
  · exact h1
  · exfalso
    subst h1
    rw [hi] at hk; cases hk
    exact h.self j (List.mem_of_getElem? hi) ht
  · exfalso
    have hil := len_of hi
    have hkl := len_of hk
    have := List.pairwise_iff_getElem.1 h.top k i hkl hil h1
    rw [List.getElem?_eq_getElem hil] at hi
    rw [List.getElem?_eq_getElem hkl] at hk
    rw [Option.some.inj hi, Option.some.inj hk] at this
    exact this ht
theorem Topo.rank (h0 : 0 ≤ n.Start ∧ n.Start < (n.Next.length : Int)) {out : List Nat} (h : Topo n out) : ∀ j t, t ∈ adj n j → (G n).length - out.idxOf t < (G n).length - out.idxOf j := by
  intro j t ht
  have hj : j ∈ out := by
    rw [← h.all]
    rcases Nat.lt_or_ge j (G n).length with h1 | h1
    · exact h1
    · exfalso
      unfold adj at ht
      rw [List.getElem?_eq_none (by omega)] at ht
      cases ht
  have hjl := List.idxOf_lt_length_iff.2 hj
  have hji : out[out.idxOf j]? = some j := by rw [List.getElem?_eq_getElem hjl]; simp
  obtain ⟨k, h1, h2⟩ := h.later h0 hji ht
  have e : out.idxOf t = k := by
    have htl := List.idxOf_lt_length_iff.2 (List.mem_of_getElem? h2)
    have hti : out[out.idxOf t]? = some t := by rw [List.getElem?_eq_getElem htl]; simp
    exact (List.getElem?_inj htl h.nodup).1 (hti.trans h2.symm)
  have := h.len
  omega
/-- What is worth what, in terms of the successors' worth. -/
theorem worth_eq (h0 : 0 ≤ n.Start ∧ n.Start < (n.Next.length : Int)) {out : List Nat} (h : Topo n out) (j : Nat) : worth n j = (adj n j).foldl (fun p t => stp p (worth n t)) (if isEnd n j then 1 else 0, false) := by
  unfold worth
  rw [val]
  refine foldl_eq _ _ fun b t ht => ?_
  have hr := h.rank h0
  have h1 := hr j t ht
  rw [val_rank (r := fun j => (G n).length - out.idxOf j) hr (G n).length (G n).length ((G n).length + 1) t (by show (G n).length - out.idxOf t < _; omega) (Nat.le_refl _) (by omega)]
/-- The maps of worth. -/
def WM (n : weirlaw14_Net) (D : List Nat) (ways : List (ByteArray × Int)) (big : List (ByteArray × Bool)) : Prop :=
  ∀ t ∈ D, ∀ z, (G n)[t]? = some z → mget ways (nm z.s) = some (worth n t).1 ∧ mget big (nm z.s) = some (worth n t).2
theorem WM.next (hf : Fine n) (h0 : 0 ≤ n.Start ∧ n.Start < (n.Next.length : Int)) {D : List Nat} {ways : List (ByteArray × Int)} {big : List (ByteArray × Bool)} (h : WM n D ways big) {j : Nat} {x : Nd} (hx : (G n)[j]? = some x) : WM n (j :: D) (mput ways (nm x.s) (worth n j).1) (mput big (nm x.s) (worth n j).2) := by
  intro t ht z hz
  rw [mget_mput, mget_mput]
  by_cases e : t = j
  · subst e
    rw [hx] at hz; cases hz
    rw [if_pos rfl, if_pos rfl]; exact ⟨rfl, rfl⟩
  · have hne : ¬ nm x.s = nm z.s := fun e2 => e (nm_ne hf h0 hz hx e2)
    rw [if_neg hne, if_neg hne]
    rcases List.mem_cons.1 ht with h1 | h1
    · exact absurd h1 e
    · exact h t h1 z hz
theorem run_l0 (hf : Fine n) (h0 : 0 ≤ n.Start ∧ n.Start < (n.Next.length : Int)) {j : Nat} {x : Nd} (hx : (G n)[j]? = some x) {M : List (ByteArray × List explore_edge)} (hM : mget M (nm x.s) = some ((succs n x.s).map eg)) {D : List Nat} {ways : List (ByteArray × Int)} {big : List (ByteArray × Bool)} (hW : WM n D ways big) (hD : ∀ t ∈ adj n j, t ∈ D) :
    ∀ (r l : List (api_Pick × Nat)), l ++ r = succs n x.s → ∀ (p : Int × Bool), explore_Runs_r.l0 (nm x.s) M ways big p.1 p.2 (l.length : Int) = some ((r.map (pl n)).foldl (fun p t => stp p (worth n t)) p) := by
  have hsl : (succs n x.s).length ≤ (row n x.s).length := sto_len ..
  have hr := hf.row x.s
  intro r
  induction r with
  | nil =>
    intro l hl p
    rw [List.append_nil] at hl
    rw [explore_Runs_r.l0, hM, Option.getD_some, if_neg (nt (decide_eq_false (by rw [List.length_map, hl]; omega)))]
    rfl
  | cons y r ih =>
    intro l hl p
    have hlen : l.length < (succs n x.s).length := by rw [← hl]; simp
    have hg : gt ((succs n x.s).map eg) (l.length : Int) = eg y := by
      unfold gt
      rw [Int.toNat_natCast, List.getD_eq_getElem?_getD, List.getElem?_map, ← hl]; simp
    have hym : y ∈ succs n x.s := by rw [← hl]; simp
    obtain ⟨z, hz, hzs⟩ := idx_get (G_closed h0 hx hym)
    have hz' : (G n)[pl n y]? = some z := hz
    have hin : pl n y ∈ adj n j := by rw [adj_pl hx]; exact List.mem_map.2 ⟨y, hym, rfl⟩
    obtain ⟨a1, a2⟩ := hW _ (hD _ hin) z hz'
    rw [hzs] at a1 a2
    have hl2 : (l ++ [y]) ++ r = succs n x.s := by rw [← hl]; simp
    have ek : (((l ++ [y]).length : Nat) : Int) = ((l.length + 1 : Nat) : Int) := by simp
    have hstep := ih (l ++ [y]) hl2
    rw [ek] at hstep
    rw [explore_Runs_r.l0, hM, Option.getD_some, if_pos (decide_eq_true (by rw [List.length_map]; omega)), if_pos (by rw [List.length_map]; omega), hg]
    rw [show (eg y).to = nm y.2 from rfl, a1, a2, w1 (by omega)]
    simp only [Option.getD_some]
    rw [List.map_cons, List.foldl_cons]
    have key := hstep (stp p (worth n (pl n y)))
    unfold stp at key
    simp only at key
    rw [← show stp p (worth n (pl n y)) = (addS p.1 (worth n (pl n y)).1, p.2 || decide (addC p.1 (worth n (pl n y)).1 > 0) || (worth n (pl n y)).2) from rfl] at key
    cases h1 : p.2 with
    | true =>
      rw [if_pos rfl]
      rw [h1] at key
      simpa [stp, h1] using key
    | false =>
      rw [if_neg (by decide)]
      rw [h1] at key
      cases h2 : decide (addC p.1 (worth n (pl n y)).1 > 0) with
      | true =>
        rw [if_pos rfl]
        rw [h2] at key
        simpa [stp, h1, h2] using key
      | false =>
        rw [if_neg (by decide)]
        rw [h2] at key
        cases h3 : (worth n (pl n y)).2 with
        | true => rw [if_pos rfl]; rw [h3] at key; simpa [stp, h1, h2, h3] using key
        | false => rw [if_neg (by decide)]; rw [h3] at key; simpa [stp, h1, h2, h3] using key
end
end Go.Proofs.Ytfiamlhhhkiiaaa.K
