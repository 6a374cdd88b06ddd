/- The document's Lay of so many states: the first of all of them; its moves, if these are all. -/
import Derived.Test.YtfiamlhhhkiiaaaED
set_option linter.unusedVariables false
set_option linter.unusedSimpArgs false
namespace Go.Proofs.Ytfiamlhhhkiiaaa.K
open Go Go.RowKit
theorem gt_setl {α : Type} [Inhabited α] (M : List α) (i j : Nat) (v : α) : gt (setl M (i : Int) v) (j : Int) = if i = j ∧ i < M.length then v else gt M (j : Int) := by
  unfold gt setl
  rw [Int.toNat_natCast, Int.toNat_natCast, List.getD_eq_getElem?_getD, List.getD_eq_getElem?_getD, List.getElem?_set]
  by_cases h : i = j
  · by_cases h2 : i < M.length
    · rw [if_pos h, if_pos h2, if_pos ⟨h, h2⟩]; rfl
    · rw [if_pos h, if_neg h2, if_neg (fun a => h2 a.2), List.getElem?_eq_none (by omega)]
  · rw [if_neg h, if_neg (fun a => h a.1)]
theorem gt_grow (M : List (List weirref14_Move)) (j : Nat) : gt (M ++ [[]]) (j : Int) = gt M (j : Int) := by
  unfold gt
  rw [Int.toNat_natCast, List.getD_eq_getElem?_getD, List.getD_eq_getElem?_getD]
  by_cases h : j < M.length
  · rw [List.getElem?_append_left h]
  · have h2 : M[j]? = none := List.getElem?_eq_none (by omega)
    rw [List.getElem?_append_right (by omega), h2]
    cases hz : j - M.length with
    | zero => rfl
    | succ k => rfl
def MvT (i k : Nat) (M : List (List weirref14_Move)) : Prop := (gt M (i : Int)).length ≤ k ∧ ∀ j : Nat, i < j → (gt M (j : Int)).length = 0
theorem MvT.grow {i k : Nat} {M : List (List weirref14_Move)} (h : MvT i k M) : MvT i k (M ++ [[]]) := ⟨by rw [gt_grow]; exact h.1, fun j hj => by rw [gt_grow]; exact h.2 j hj⟩
theorem MvT.step {i k : Nat} {M : List (List weirref14_Move)} (h : MvT i k M) (x : weirref14_Move) : MvT i (k + 1) (setl M (i : Int) (gt M (i : Int) ++ [x])) := by
  refine ⟨?_, fun j hj => ?_⟩
  · rw [gt_setl]
    have := h.1
    split
    · simp; omega
    · omega
  · rw [gt_setl, if_neg (fun a => by omega)]; exact h.2 j hj
theorem MvT.skip {i k : Nat} {M : List (List weirref14_Move)} (h : MvT i k M) : MvT i (k + 1) M := ⟨by have := h.1; omega, h.2⟩
theorem MvT.next {i k : Nat} {M : List (List weirref14_Move)} (h : MvT i k M) : MvT (i + 1) 0 M := ⟨by rw [h.2 (i + 1) (by omega)]; exact Nat.le_refl _, fun j hj => h.2 j (by omega)⟩
theorem put_no {K : List (ByteArray × Int)} {t : ByteArray} (hk : mget K t = none) (y18 : List ByteArray) (y19 : List Int) (y20 : List (List weirref14_Move)) (y21 : List Bool) (y22 : List api_Final) (y23 : List Int) (y24 : List api_Pick) (y25 : Bool) (y26 : ByteArray) (n : weirlaw14_Net) (p0 p1 p2 : List (ByteArray × Int)) (tw : Bool) (a2 a4 a5 : Int) (a6 : api_Pick) (h : (y18.length : Int) ≥ a2) :
    weirref14_Graph__put.f y18 y19 y20 y21 y22 y23 y24 y25 K y26 p0 p1 p2 tw n a2 t a4 a5 a6 = some (-1, y18, y19, y20, y21, y22, y23, y24, false, K, tw, p1) := by
  unfold weirref14_Graph__put.f
  rw [hk]
  simp only [Option.isSome_none, Bool.false_eq_true, if_false, Option.bind_eq_bind, Option.bind_some]
  rw [if_pos (decide_eq_true h)]
section
variable {n : weirlaw14_Net}
theorem lay_t1 (hf : Fine n) (h0 : 0 ≤ n.Start ∧ n.Start < (n.Next.length : Int)) {a1 : Int} {m : Nat} (ha : ∀ c : Nat, (c : Int) ≥ a1 ↔ m ≤ c) {i : Nat} {L0 : List Nd} {x : Nd} (hx : L0[i]? = some x) (him : i < m) (hw : Wf n L0) (hG : ∃ t, G n = (succs n x.s).foldl (add x.d i) L0 ++ t) (y43 : ByteArray) (p0 : List (ByteArray × Int)) :
    ∀ (d k : Nat), k + d = (row n x.s).length → ∀ (L : List Nd), L = (sto n x.s k).foldl (add x.d i) L0 → ∀ (tw : Bool) (p2 p1 K : List (ByteArray × Int)) (M : List (List weirref14_Move)) (wh : Bool), Known (L.take m) K (fun j => (j : Int)) → M.length = (L.take m).length → MvT i k M → (L.length ≤ m → MvOk n L i k M) → wh = decide (L.length ≤ m) →
    ∃ tw' p1' p2' K' M' L', L' = (succs n x.s).foldl (add x.d i) L0 ∧ weirref14_Lay.l1 y43 n a1 (i : Int) (pks n x.s) p0 (k : Int) tw p2 p1 K (tx (L.take m)) (dp (L.take m)) M (ens n (L.take m)) (fis n (L.take m)) (frs (L.take m)) (bys (L.take m)) wh = some (tw', p1', p2', tx (L'.take m), dp (L'.take m), M', ens n (L'.take m), fis n (L'.take m), frs (L'.take m), bys (L'.take m), decide (L'.length ≤ m), K')
      ∧ Known (L'.take m) K' (fun j => (j : Int)) ∧ M'.length = (L'.take m).length ∧ MvT (i + 1) 0 M' ∧ (L'.length ≤ m → MvOk n L' (i + 1) 0 M') := by
  have h6 := hf.few
  have hr := hf.row x.s
  have hlp : (pks n x.s).length = (row n x.s).length := by unfold pks; simp
  have hxs : x.s < n.Next.length := hw.lt x.s (ss_mem hx)
  have hd := hw.dep i x hx
  have hil := len_of hx
  have hLn := hw.len
  intro d
  induction d with
  | zero =>
    intro k hk L hL tw p2 p1 K M wh hK hMl hMt hM hwh
    rw [weirref14_Lay.l1, if_neg (nt (decide_eq_false (by rw [hlp]; omega)))]
    have e : L = (succs n x.s).foldl (add x.d i) L0 := by rw [hL, show k = (row n x.s).length by omega]; rfl
    have hLx : L[i]? = some x := by
      obtain ⟨t, et⟩ := fold_pre x.d i (sto n x.s k) L0
      rw [hL, et, List.getElem?_append_left hil]; exact hx
    subst hwh
    refine ⟨_, _, _, _, _, L, e, rfl, hK, hMl, hMt.next, fun h => mv_next ?_ hLx⟩
    rw [show (row n x.s).length = k by omega]; exact hM h
  | succ d ih =>
    intro k hk L hL tw p2 p1 K M wh hK hMl hMt hM hwh
    obtain ⟨t0, et0⟩ := fold_pre x.d i (sto n x.s k) L0
    have hLx : L[i]? = some x := by rw [hL, et0, List.getElem?_append_left hil]; exact hx
    have hwL : Wf n L := by rw [hL]; exact fold_wf hd _ _ hw hil fun y hy => sto_lt hy
    have hLl := hwL.len
    have hiL := len_of hLx
    have hTx : (L.take m)[i]? = some x := by rw [List.getElem?_take, if_pos him]; exact hLx
    have hTl : (L.take m).length = min m L.length := List.length_take
    have hiT := len_of hTx
    have hTss : ∀ u, u ∈ ss (L.take m) → u ∈ ss L := by
      intro u hu
      obtain ⟨y, hy, e⟩ := List.mem_map.1 hu
      exact List.mem_map.2 ⟨y, List.mem_of_mem_take hy, e⟩
    have e1 : (tx (L.take m)).length = (L.take m).length := by unfold tx; simp
    have e2 : (dp (L.take m)).length = (L.take m).length := by unfold dp; simp
    have g1 : gt (tx (L.take m)) (i : Int) = nm x.s := gt_map (fun x => nm x.s) hTx
    have g2 : gt (dp (L.take m)) (i : Int) = (x.d : Int) := gt_map (fun x => (x.d : Int)) hTx
    have g3 : gt (pks n x.s) (k : Int) = pk x.s k := by
      unfold gt pks; rw [Int.toNat_natCast, List.getD_eq_getElem?_getD, List.getElem?_map, List.getElem?_range (by omega)]; rfl
    rw [weirref14_Lay.l1, if_pos (decide_eq_true (by rw [hlp]; omega)), if_pos (by rw [e1]; omega), if_pos (by rw [hlp]; omega), g1, g3, m2_f hf hxs (by omega)]
    have hsk := sto_succ n x.s k
    cases hsc : sc n x.s k with
    | none =>
      rw [hsc] at hsk
      have hL2 : L = (sto n x.s (k + 1)).foldl (add x.d i) L0 := by rw [hsk]; simpa using hL
      simp only [Option.bind_eq_bind, Option.bind_some, Bool.not_false, if_true, id]
      rw [w1 (by omega)]
      exact ih (k + 1) (by omega) L hL2 _ _ _ _ _ _ hK hMl hMt.skip (fun h => mv_skip (hM h) hLx hsc) hwh
    | some q =>
      obtain ⟨p, u⟩ := q
      rw [hsc] at hsk
      have hp : p = pk x.s k := by
        unfold sc at hsc; split at hsc
        · cases hsc; rfl
        · cases hsc
      have hu : u < n.Next.length := sc_lt hsc
      have hL2 : add x.d i L (p, u) = (sto n x.s (k + 1)).foldl (add x.d i) L0 := by rw [hsk, List.foldl_append, ← hL]; rfl
      have hpre : ∃ t, G n = add x.d i L (p, u) ++ t := by
        obtain ⟨t, ht⟩ := hG
        have hsp : ∃ r, succs n x.s = sto n x.s (k + 1) ++ r := by
          unfold succs sto
          refine ⟨((List.range' (k + 1) ((row n x.s).length - (k + 1))).filterMap (sc n x.s)), ?_⟩
          rw [← List.filterMap_append, List.range_eq_range', List.range_eq_range', show List.range' 0 (k + 1) ++ List.range' (k + 1) ((row n x.s).length - (k + 1)) = List.range' 0 (row n x.s).length by
            have := List.range'_append (s := 0) (m := k + 1) (n := (row n x.s).length - (k + 1)) (step := 1)
            rw [show 0 + 1 * (k + 1) = k + 1 by omega, show k + 1 + ((row n x.s).length - (k + 1)) = (row n x.s).length by omega] at this
            exact this]
        obtain ⟨r, hr2⟩ := hsp
        obtain ⟨v, hv⟩ := fold_pre x.d i r (add x.d i L (p, u))
        refine ⟨v ++ t, ?_⟩
        rw [ht, hr2, List.foldl_append, ← hL2, hv, List.append_assoc]
      simp only [Option.bind_eq_bind, Option.bind_some, Bool.not_true, Bool.false_eq_true, if_false]
      rw [if_pos (by rw [e2]; omega), if_pos (by rw [hlp]; omega), g2, show IntKind.i64.wrap ((x.d : Int) + 1) = ((x.d + 1 : Nat) : Int) from w1 (by omega)]
      by_cases hm : u ∈ ss (L.take m)
      · obtain ⟨j, y, hj, hy, hg⟩ := hK.old hm
        have ea : add x.d i L (p, u) = L := by unfold add; rw [if_pos (hTss u hm)]
        rw [ea] at hL2 hpre
        obtain ⟨t, ht⟩ := hpre
        rw [put_old (L := L) hg]
        simp only [Option.bind_some]
        have hgm := hMt.1
        rw [if_pos (decide_eq_true (by omega)), if_pos (by rw [hMl]; omega), if_pos (by rw [hlp]; omega)]
        rw [if_pos (by rw [List.length_singleton]; omega), w1 (by omega)]
        have hj2 : L[j]? = some y := by
          rw [List.getElem?_take] at hj
          split at hj
          · exact hj
          · cases hj
        have hix := idx_of h0 ht hj2
        rw [hy] at hix
        refine ih (k + 1) (by omega) L hL2 _ _ _ _ _ _ hK (by rw [← hMl]; simp [setl]) (hMt.step _) (fun h => ?_) hwh
        have hM2 := mv_step (hM h) hLx hsc
        rw [hix, hp] at hM2
        exact hM2
      · by_cases hml : L.length < m
        · have eT : L.take m = L := List.take_of_length_le (by omega)
          rw [eT] at hm hK hMl ⊢
          have ea : add x.d i L (p, u) = L ++ [⟨u, x.d + 1, (i : Int), p⟩] := by unfold add; rw [if_neg hm]
          have hw2 : Wf n (add x.d i L (p, u)) := add_wf hwL hu hd hiL
          rw [ea] at hL2 hpre hw2
          have hl2 := hw2.len
          simp at hl2
          have eT2 : (L ++ [(⟨u, x.d + 1, (i : Int), p⟩ : Nd)]).take m = L ++ [⟨u, x.d + 1, (i : Int), p⟩] := List.take_of_length_le (by simp; omega)
          obtain ⟨t, ht⟩ := hpre
          rw [put_new hf hu (hK.2 u (by omega) hm) (by omega) hMl (Int.lt_of_not_ge fun h => absurd ((ha L.length).1 h) (by omega)), ← hp]
          simp only [Option.bind_some]
          have hMg := mv_grow (z := ⟨u, x.d + 1, (i : Int), p⟩) (hM (by omega)) hiL
          have hLx2 : (L ++ [(⟨u, x.d + 1, (i : Int), p⟩ : Nd)])[i]? = some x := by rw [List.getElem?_append_left hiL]; exact hLx
          have hM0 := hMg.1
          rw [if_pos (decide_eq_true (by omega)), if_pos (by rw [hM0]; simp; omega), if_pos (by rw [hlp]; omega)]
          have hgm := hMt.grow.1
          rw [if_pos (by rw [List.length_singleton]; omega), w1 (by omega)]
          have hix := idx_of h0 ht (j := L.length) (y := ⟨u, x.d + 1, (i : Int), p⟩) (by simp)
          have hM2 := mv_step hMg hLx2 hsc
          rw [show (ss (G n)).idxOf u = L.length from hix] at hM2
          have h := ih (k + 1) (by omega) _ hL2 (twice p2 (nm x.s ++ nm k) tw |> fun t => twice p1 (nm u) t) (bump p2 (nm x.s ++ nm k)) (bump p1 (nm u)) (mput K (nm u) (L.length : Int)) (setl (M ++ [[]]) (i : Int) (gt (M ++ [[]]) (i : Int) ++ [(⟨(L.length : Int), p⟩ : weirref14_Move)])) wh
          rw [eT2] at h
          exact h (hK.more h6 hwL (x := ⟨u, x.d + 1, (i : Int), p⟩) hm hu) (by rw [← hM0]; simp [setl]) (hMt.grow.step _) (fun _ => hM2) (by rw [hwh, decide_eq_true (show L.length ≤ m by omega), decide_eq_true (by simp; omega)])
        · have hno : ((tx (L.take m)).length : Int) ≥ a1 := (ha _).2 (by rw [e1, hTl]; omega)
          rw [put_no (hK.2 u (by omega) hm) _ _ _ _ _ _ _ _ _ _ _ _ _ _ _ _ _ _ hno]
          simp only [Option.bind_some]
          rw [if_neg (show ¬ decide ((-1 : Int) ≥ 0) = true by decide), w1 (by omega)]
          obtain ⟨t, ht⟩ := add_pre x.d i L (p, u)
          have eT : (add x.d i L (p, u)).take m = L.take m := by rw [ht, List.take_append_of_le_length (by omega)]
          have hbig : m < (add x.d i L (p, u)).length := by
            unfold add
            by_cases hm2 : u ∈ ss L
            · rw [if_pos hm2]
              rcases Nat.lt_or_ge m L.length with h | h
              · exact h
              · exact absurd (by rw [List.take_of_length_le h]; exact hm2) hm
            · rw [if_neg hm2]; simp; omega
          have h := ih (k + 1) (by omega) (add x.d i L (p, u)) hL2 (twice p2 (nm x.s ++ nm k) tw) (bump p2 (nm x.s ++ nm k)) p1 K M false
          rw [eT] at h
          exact h hK hMl hMt.skip (fun h => by omega) (decide_eq_false (by omega)).symm
end
end Go.Proofs.Ytfiamlhhhkiiaaa.K
