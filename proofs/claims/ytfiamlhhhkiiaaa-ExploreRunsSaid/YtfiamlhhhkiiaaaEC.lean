/- The document's Lay of a picture that is laid whole: the states, breadth first. -/
import Derived.Test.YtfiamlhhhkiiaaaEB
set_option linter.unusedVariables false
set_option linter.unusedSimpArgs false
namespace Go.Proofs.Ytfiamlhhhkiiaaa.K
open Go Go.RowKit
def tx (L : List Nd) : List ByteArray := L.map fun x => nm x.s
def dp (L : List Nd) : List Int := L.map fun x => (x.d : Int)
def frs (L : List Nd) : List Int := L.map Nd.fr
def bys (L : List Nd) : List api_Pick := L.map Nd.by_
def mEnd (n : weirlaw14_Net) (s : Nat) : api_Final × Bool := match weirlaw14_Net__machine_3.f (nm s) [] [] [] false n with
  | some r => (r.1, r.2.1)
  | none => (⟨0, Vector.replicate 48 0⟩, false)
theorem m3_g {n : weirlaw14_Net} (hf : Fine n) {s : Nat} (hs : s < n.Next.length) (p0 p1 p2 : List (ByteArray × Int)) (tw : Bool) :
    weirlaw14_Net__machine_3.f (nm s) p0 p1 p2 tw n = some ((mEnd n s).1, (mEnd n s).2, twice p1 (nm s) tw, bump p1 (nm s)) := by
  obtain ⟨f, e, h⟩ := m3_f hf hs
  unfold mEnd
  rw [h, h]
def ens (n : weirlaw14_Net) (L : List Nd) : List Bool := L.map fun x => (mEnd n x.s).2
def fis (n : weirlaw14_Net) (L : List Nd) : List api_Final := L.map fun x => (mEnd n x.s).1
def mvTo (n : weirlaw14_Net) (s k : Nat) : List weirref14_Move := (sto n s k).map fun x => ⟨((ss (G n)).idxOf x.2 : Int), x.1⟩
def MvOk (n : weirlaw14_Net) (L : List Nd) (i k : Nat) (M : List (List weirref14_Move)) : Prop :=
  M.length = L.length ∧ ∀ (j : Nat) (y : Nd), L[j]? = some y → M[j]? = some (if j < i then mvTo n y.s (row n y.s).length else if j = i then mvTo n y.s k else [])
theorem tx_app (L M : List Nd) : tx (L ++ M) = tx L ++ tx M := by unfold tx; simp
theorem gt_map {α : Type} [Inhabited α] (g : Nd → α) {L : List Nd} {i : Nat} {x : Nd} (h : L[i]? = some x) : gt (L.map g) (i : Int) = g x := by
  unfold gt; rw [Int.toNat_natCast, List.getD_eq_getElem?_getD, List.getElem?_map, h]; rfl
theorem len_of {α : Type} {L : List α} {i : Nat} {x : α} (h : L[i]? = some x) : i < L.length := (List.getElem?_eq_some_iff.1 h).1
theorem mv_grow {n : weirlaw14_Net} {L : List Nd} {i k : Nat} {M : List (List weirref14_Move)} {z : Nd} (h : MvOk n L i k M) (hi : i < L.length) : MvOk n (L ++ [z]) i k (M ++ [[]]) := by
  refine ⟨by simp [h.1], fun j y hj => ?_⟩
  by_cases hl : j < L.length
  · rw [List.getElem?_append_left hl] at hj
    rw [List.getElem?_append_left (by rw [h.1]; exact hl)]
    exact h.2 j y hj
  · have := len_of hj
    simp at this
    rw [List.getElem?_append_right (by rw [h.1]; omega), show j - M.length = 0 by rw [h.1]; omega, if_neg (by omega), if_neg (by omega)]
    rfl
theorem mv_step {n : weirlaw14_Net} {L : List Nd} {i k : Nat} {M : List (List weirref14_Move)} {x : Nd} {p : api_Pick} {u : Nat} (h : MvOk n L i k M) (hx : L[i]? = some x) (hs : sc n x.s k = some (p, u)) :
    MvOk n L i (k + 1) (setl M (i : Int) (gt M (i : Int) ++ [(⟨((ss (G n)).idxOf u : Int), p⟩ : weirref14_Move)])) := by
  have hM := h.2 i x hx
  rw [if_neg (by omega), if_pos rfl] at hM
  have hg : gt M (i : Int) = mvTo n x.s k := by unfold gt; rw [Int.toNat_natCast, List.getD_eq_getElem?_getD, hM]; rfl
  refine ⟨by simp [setl, h.1], fun j y hj => ?_⟩
  unfold setl
  rw [Int.toNat_natCast, List.getElem?_set]
  by_cases e : i = j
  · subst e
    rw [if_pos rfl, if_pos (by rw [h.1]; exact len_of hx), if_neg (by omega), if_pos rfl, hg]
    rw [hx] at hj; cases hj
    unfold mvTo
    rw [sto_succ, hs]
    simp
  · rw [if_neg e, h.2 j y hj]
    by_cases h1 : j < i
    · rw [if_pos h1, if_pos h1]
    · rw [if_neg h1, if_neg h1, if_neg (Ne.symm e), if_neg (Ne.symm e)]
theorem mv_skip {n : weirlaw14_Net} {L : List Nd} {i k : Nat} {M : List (List weirref14_Move)} {x : Nd} (h : MvOk n L i k M) (hx : L[i]? = some x) (hs : sc n x.s k = none) : MvOk n L i (k + 1) M := by
  refine ⟨h.1, fun j y hj => ?_⟩
  rw [h.2 j y hj]
  by_cases e : j = i
  · subst e
    rw [hx] at hj; cases hj
    unfold mvTo
    rw [sto_succ, hs]
    simp
  · rw [if_neg e, if_neg e]
theorem mv_next {n : weirlaw14_Net} {L : List Nd} {i : Nat} {M : List (List weirref14_Move)} {x : Nd} (h : MvOk n L i (row n x.s).length M) (hx : L[i]? = some x) : MvOk n L (i + 1) 0 M := by
  refine ⟨h.1, fun j y hj => ?_⟩
  rw [h.2 j y hj]
  by_cases h1 : j < i
  · rw [if_pos h1, if_pos (by omega)]
  · rw [if_neg h1]
    by_cases h2 : j = i
    · subst h2
      rw [hx] at hj; cases hj
      rw [if_pos rfl, if_pos (by omega)]
    · rw [if_neg h2, if_neg (by omega)]
      split
      · rfl
      · rfl
section
variable {n : weirlaw14_Net}
theorem put_old {L : List Nd} {K : List (ByteArray × Int)} {j : Nat} {u : Nat} (hk : mget K (nm u) = some (j : Int)) (y18 : List ByteArray) (y19 : List Int) (y20 : List (List weirref14_Move)) (y21 : List Bool) (y22 : List api_Final) (y23 : List Int) (y24 : List api_Pick) (y25 : Bool) (y26 : ByteArray) (p0 p1 p2 : List (ByteArray × Int)) (tw : Bool) (a2 a4 a5 : Int) (a6 : api_Pick) :
    weirref14_Graph__put.f y18 y19 y20 y21 y22 y23 y24 y25 K y26 p0 p1 p2 tw n a2 (nm u) a4 a5 a6 = some ((j : Int), y18, y19, y20, y21, y22, y23, y24, y25, K, tw, p1) := by
  unfold weirref14_Graph__put.f
  rw [hk]
  rfl
theorem put_new (hf : Fine n) {L : List Nd} {K : List (ByteArray × Int)} {u : Nat} (hu : u < n.Next.length) (hk : mget K (nm u) = none) (hl : L.length ≤ 60000) {M : List (List weirref14_Move)} (hM : M.length = L.length) {a2 : Int} (ha : (L.length : Int) < a2) (y25 : Bool) (y26 : ByteArray) (p0 p1 p2 : List (ByteArray × Int)) (tw : Bool) (d : Nat) (a5 : Int) (a6 : api_Pick) :
    weirref14_Graph__put.f (tx L) (dp L) M (ens n L) (fis n L) (frs L) (bys L) y25 K y26 p0 p1 p2 tw n a2 (nm u) (d : Int) a5 a6 = some ((L.length : Int), tx (L ++ [⟨u, d, a5, a6⟩]), dp (L ++ [⟨u, d, a5, a6⟩]), M ++ [[]], ens n (L ++ [⟨u, d, a5, a6⟩]), fis n (L ++ [⟨u, d, a5, a6⟩]), frs (L ++ [⟨u, d, a5, a6⟩]), bys (L ++ [⟨u, d, a5, a6⟩]), y25, mput K (nm u) (L.length : Int), twice p1 (nm u) tw, bump p1 (nm u)) := by
  have e1 : (tx L).length = L.length := by unfold tx; simp
  have e2 : (dp L).length = L.length := by unfold dp; simp
  have e3 : (ens n L).length = L.length := by unfold ens; simp
  have e4 : (fis n L).length = L.length := by unfold fis; simp
  have e5 : (frs L).length = L.length := by unfold frs; simp
  have e6 : (bys L).length = L.length := by unfold bys; simp
  unfold weirref14_Graph__put.f
  rw [hk, m3_g hf hu]
  simp only [Option.isSome_none, Bool.false_eq_true, if_false, Option.bind_eq_bind, Option.bind_some, e1, e2, e3, e4, e5, e6, hM, List.length_singleton]
  rw [if_neg (nt (decide_eq_false (by omega)))]
  rw [if_pos (by omega), if_pos (by omega), if_pos (by omega), if_pos (by omega), if_pos (by omega), if_pos (by omega), if_pos (by omega)]
  have ew : IntKind.i64.wrap (((tx L ++ [nm u]).length : Int) - 1) = (L.length : Int) := by
    rw [List.length_append, e1, List.length_singleton, wi64_id (by omega) (by omega)]; omega
  rw [ew]
  unfold tx dp ens fis frs bys
  simp
theorem idx_of (h0 : 0 ≤ n.Start ∧ n.Start < (n.Next.length : Int)) {L t : List Nd} (hG : G n = L ++ t) {j : Nat} {y : Nd} (hj : L[j]? = some y) : (ss (G n)).idxOf y.s = j := by
  have h1 : (G n)[j]? = some y := by rw [hG, List.getElem?_append_left (len_of hj)]; exact hj
  have h2 := ss_at h1
  have hl := len_of h2
  have hn := (B_wf h0 n.Next.length).nodup
  have h3 : (ss (G n)).idxOf y.s < (ss (G n)).length := List.idxOf_lt_length_iff.2 (List.mem_of_getElem? h2)
  have h4 : (ss (G n))[(ss (G n)).idxOf y.s]? = some y.s := by rw [List.getElem?_eq_getElem h3]; simp
  exact (List.getElem?_inj h3 hn).1 (h4.trans h2.symm)
theorem lay_l1 (hf : Fine n) (h0 : 0 ≤ n.Start ∧ n.Start < (n.Next.length : Int)) {a1 : Int} (ha : (n.Next.length : Int) ≤ a1) {i : Nat} {L0 : List Nd} {x : Nd} (hx : L0[i]? = some x) (hw : Wf n L0) (hG : ∃ t, G n = (succs n x.s).foldl (add x.d i) L0 ++ t) (y43 : ByteArray) (p0 : List (ByteArray × Int)) (wh : Bool) :
    ∀ (d k : Nat), k + d = (row n x.s).length → ∀ (L : List Nd), L = (sto n x.s k).foldl (add x.d i) L0 → ∀ (tw : Bool) (p2 p1 K : List (ByteArray × Int)) (M : List (List weirref14_Move)), Known L K (fun j => (j : Int)) → MvOk n L i k M →
    ∃ tw' p1' p2' K' M', weirref14_Lay.l1 y43 n a1 (i : Int) (pks n x.s) p0 (k : Int) tw p2 p1 K (tx L) (dp L) M (ens n L) (fis n L) (frs L) (bys L) wh = some (tw', p1', p2', tx ((succs n x.s).foldl (add x.d i) L0), dp ((succs n x.s).foldl (add x.d i) L0), M', ens n ((succs n x.s).foldl (add x.d i) L0), fis n ((succs n x.s).foldl (add x.d i) L0), frs ((succs n x.s).foldl (add x.d i) L0), bys ((succs n x.s).foldl (add x.d i) L0), wh, K')
      ∧ Known ((succs n x.s).foldl (add x.d i) L0) K' (fun j => (j : Int)) ∧ MvOk n ((succs n x.s).foldl (add x.d i) L0) (i + 1) 0 M' := by
  have h6 := hf.few
  have hr := hf.row x.s
  have hlp : (pks n x.s).length = (row n x.s).length := by unfold pks; simp
  have hxs : x.s < n.Next.length := hw.lt x.s (ss_mem hx)
  have hd := hw.dep i x hx
  have hil := len_of hx
  have hLn := hw.len
  intro d
  induction d with
  | zero =>
    intro k hk L hL tw p2 p1 K M hK hM
    rw [weirref14_Lay.l1, if_neg (nt (decide_eq_false (by rw [hlp]; omega)))]
    have e : L = (succs n x.s).foldl (add x.d i) L0 := by rw [hL, show k = (row n x.s).length by omega]; rfl
    have hLx : L[i]? = some x := by
      obtain ⟨t, et⟩ := fold_pre x.d i (sto n x.s k) L0
      rw [hL, et, List.getElem?_append_left hil]; exact hx
    rw [← e]
    refine ⟨_, _, _, _, _, rfl, hK, mv_next ?_ hLx⟩
    rw [show (row n x.s).length = k by omega]; exact hM
  | succ d ih =>
    intro k hk L hL tw p2 p1 K M hK hM
    obtain ⟨t0, et0⟩ := fold_pre x.d i (sto n x.s k) L0
    have hLx : L[i]? = some x := by rw [hL, et0, List.getElem?_append_left hil]; exact hx
    have hwL : Wf n L := by rw [hL]; exact fold_wf hd _ _ hw hil fun y hy => sto_lt hy
    have hLl := hwL.len
    have hiL := len_of hLx
    have e1 : (tx L).length = L.length := by unfold tx; simp
    have e2 : (dp L).length = L.length := by unfold dp; simp
    have g1 : gt (tx L) (i : Int) = nm x.s := gt_map (fun x => nm x.s) hLx
    have g2 : gt (dp L) (i : Int) = (x.d : Int) := gt_map (fun x => (x.d : Int)) hLx
    have g3 : gt (pks n x.s) (k : Int) = pk x.s k := by
      unfold gt pks; rw [Int.toNat_natCast, List.getD_eq_getElem?_getD, List.getElem?_map, List.getElem?_range (by omega)]; rfl
    rw [weirref14_Lay.l1, if_pos (decide_eq_true (by rw [hlp]; omega)), if_pos (by rw [e1]; omega), if_pos (by rw [hlp]; omega), g1, g3, m2_f hf hxs (by omega)]
    have hsk := sto_succ n x.s k
    cases hsc : sc n x.s k with
    | none =>
      rw [hsc] at hsk
      have hL2 : L = (sto n x.s (k + 1)).foldl (add x.d i) L0 := by rw [hsk]; simpa using hL
      simp only [Option.bind_eq_bind, Option.bind_some, Bool.not_false, if_true, id]
      rw [w1 (by omega)]
      exact ih (k + 1) (by omega) L hL2 _ _ _ _ _ hK (mv_skip hM hLx hsc)
    | some q =>
      obtain ⟨p, u⟩ := q
      rw [hsc] at hsk
      have hp : p = pk x.s k := by
        unfold sc at hsc; split at hsc
        · cases hsc; rfl
        · cases hsc
      have hu : u < n.Next.length := sc_lt hsc
      have hL2 : add x.d i L (p, u) = (sto n x.s (k + 1)).foldl (add x.d i) L0 := by rw [hsk, List.foldl_append, ← hL]; rfl
      have hpre : ∃ t, G n = add x.d i L (p, u) ++ t := by
        obtain ⟨t, ht⟩ := hG
        have hsp : ∃ r, succs n x.s = sto n x.s (k + 1) ++ r := by
          unfold succs sto
          refine ⟨((List.range' (k + 1) ((row n x.s).length - (k + 1))).filterMap (sc n x.s)), ?_⟩
          rw [← List.filterMap_append, List.range_eq_range', List.range_eq_range', show List.range' 0 (k + 1) ++ List.range' (k + 1) ((row n x.s).length - (k + 1)) = List.range' 0 (row n x.s).length by
            have := List.range'_append (s := 0) (m := k + 1) (n := (row n x.s).length - (k + 1)) (step := 1)
            rw [show 0 + 1 * (k + 1) = k + 1 by omega, show k + 1 + ((row n x.s).length - (k + 1)) = (row n x.s).length by omega] at this
            exact this]
        obtain ⟨r, hr2⟩ := hsp
        obtain ⟨v, hv⟩ := fold_pre x.d i r (add x.d i L (p, u))
        refine ⟨v ++ t, ?_⟩
        rw [ht, hr2, List.foldl_append, ← hL2, hv, List.append_assoc]
      simp only [Option.bind_eq_bind, Option.bind_some, Bool.not_true, Bool.false_eq_true, if_false]
      rw [if_pos (by rw [e2]; omega), if_pos (by rw [hlp]; omega), g2, show IntKind.i64.wrap ((x.d : Int) + 1) = ((x.d + 1 : Nat) : Int) from w1 (by omega)]
      by_cases hm : u ∈ ss L
      · obtain ⟨j, y, hj, hy, hg⟩ := hK.old hm
        have ea : add x.d i L (p, u) = L := by unfold add; rw [if_pos hm]
        rw [ea] at hL2 hpre
        obtain ⟨t, ht⟩ := hpre
        rw [put_old (L := L) hg]
        simp only [Option.bind_some]
        have hM0 := hM.1
        rw [if_pos (decide_eq_true (by omega)), if_pos (by rw [hM0]; omega), if_pos (by rw [hlp]; omega)]
        have hgm : (gt M (i : Int)).length ≤ k := by
          have := hM.2 i x hLx
          rw [if_neg (by omega), if_pos rfl] at this
          unfold gt; rw [Int.toNat_natCast, List.getD_eq_getElem?_getD, this]
          show (mvTo n x.s k).length ≤ k
          unfold mvTo; rw [List.length_map]; exact sto_len ..
        rw [if_pos (by rw [List.length_singleton]; omega), w1 (by omega)]
        have hix := idx_of h0 ht hj
        rw [hy] at hix
        have hM2 := mv_step hM hLx hsc
        rw [hix, hp] at hM2
        exact ih (k + 1) (by omega) L hL2 _ _ _ _ _ hK hM2
      · have ea : add x.d i L (p, u) = L ++ [⟨u, x.d + 1, (i : Int), p⟩] := by unfold add; rw [if_neg hm]
        have hw2 : Wf n (add x.d i L (p, u)) := add_wf hwL hu hd hiL
        rw [ea] at hL2 hpre hw2
        have hl2 := hw2.len
        simp at hl2
        obtain ⟨t, ht⟩ := hpre
        rw [put_new hf hu (hK.2 u (by omega) hm) (by omega) hM.1 (by omega), ← hp]
        simp only [Option.bind_some]
        have hMg := mv_grow (z := ⟨u, x.d + 1, (i : Int), p⟩) hM hiL
        have hLx2 : (L ++ [(⟨u, x.d + 1, (i : Int), p⟩ : Nd)])[i]? = some x := by rw [List.getElem?_append_left hiL]; exact hLx
        have hM0 := hMg.1
        rw [if_pos (decide_eq_true (by omega)), if_pos (by rw [hM0]; simp; omega), if_pos (by rw [hlp]; omega)]
        have hgm : (gt (M ++ [[]]) (i : Int)).length ≤ k := by
          have := hMg.2 i x hLx2
          rw [if_neg (by omega), if_pos rfl] at this
          unfold gt; rw [Int.toNat_natCast, List.getD_eq_getElem?_getD, this]
          show (mvTo n x.s k).length ≤ k
          unfold mvTo; rw [List.length_map]; exact sto_len ..
        rw [if_pos (by rw [List.length_singleton]; omega), w1 (by omega)]
        have hix := idx_of h0 ht (j := L.length) (y := ⟨u, x.d + 1, (i : Int), p⟩) (by simp)
        have hM2 := mv_step hMg hLx2 hsc
        rw [show (ss (G n)).idxOf u = L.length from hix] at hM2
        exact ih (k + 1) (by omega) _ hL2 _ _ _ _ _ (hK.more h6 hwL (x := ⟨u, x.d + 1, (i : Int), p⟩) hm hu) hM2
end
end Go.Proofs.Ytfiamlhhhkiiaaa.K
