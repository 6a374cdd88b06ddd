/- The document's Lay of so many states, whole; ways back; slices.Reverse. -/
import Derived.Test.YtfiamlhhhkiiaaaEH
set_option linter.unusedVariables false
set_option linter.unusedSimpArgs false
namespace Go.Proofs.Ytfiamlhhhkiiaaa.K
open Go Go.RowKit
section
variable {n : weirlaw14_Net}
theorem lay_t0 (hf : Fine n) (h0 : 0 ≤ n.Start ∧ n.Start < (n.Next.length : Int)) {a1 : Int} {m : Nat} (ha : ∀ c : Nat, (c : Int) ≥ a1 ↔ m ≤ c) (y43 : ByteArray) :
    ∀ (d i : Nat), i + d = n.Next.length → ∀ (tw : Bool) (p0 p1 p2 K : List (ByteArray × Int)) (M : List (List weirref14_Move)) (wh : Bool), Known ((B n i).take m) K (fun j => (j : Int)) → M.length = ((B n i).take m).length → MvT i 0 M → ((B n i).length ≤ m → MvOk n (B n i) i 0 M) → wh = decide ((B n i).length ≤ m) →
    ∃ tw' p0' p1' p2' K' M', weirref14_Lay.l0 y43 n a1 (i : Int) tw p0 p1 p2 K (tx ((B n i).take m)) (dp ((B n i).take m)) M (ens n ((B n i).take m)) (fis n ((B n i).take m)) (frs ((B n i).take m)) (bys ((B n i).take m)) wh = some (tx ((G n).take m), dp ((G n).take m), M', ens n ((G n).take m), fis n ((G n).take m), frs ((G n).take m), bys ((G n).take m), decide ((G n).length ≤ m), K', tw', p0', p1', p2') ∧ M'.length = ((G n).take m).length ∧ ((G n).length ≤ m → MvOk n (G n) (G n).length 0 M') := by
  have h6 := hf.few
  have done : ∀ (i : Nat), i ≤ n.Next.length → ((B n i).take m).length ≤ i → ∀ (tw : Bool) (p0 p1 p2 K : List (ByteArray × Int)) (M : List (List weirref14_Move)) (wh : Bool), M.length = ((B n i).take m).length → ((B n i).length ≤ m → MvOk n (B n i) i 0 M) → wh = decide ((B n i).length ≤ m) →
    ∃ tw' p0' p1' p2' K' M', weirref14_Lay.l0 y43 n a1 (i : Int) tw p0 p1 p2 K (tx ((B n i).take m)) (dp ((B n i).take m)) M (ens n ((B n i).take m)) (fis n ((B n i).take m)) (frs ((B n i).take m)) (bys ((B n i).take m)) wh = some (tx ((G n).take m), dp ((G n).take m), M', ens n ((G n).take m), fis n ((G n).take m), frs ((G n).take m), bys ((G n).take m), decide ((G n).length ≤ m), K', tw', p0', p1', p2') ∧ M'.length = ((G n).take m).length ∧ ((G n).length ≤ m → MvOk n (G n) (G n).length 0 M') := by
    intro i hi hl tw p0 p1 p2 K M wh hMl hM hwh
    have e1 : (tx ((B n i).take m)).length = ((B n i).take m).length := by unfold tx; simp
    rw [weirref14_Lay.l0, if_neg (nt (decide_eq_false (by rw [e1]; omega)))]
    rw [List.length_take] at hl
    subst hwh
    by_cases hb : (B n i).length ≤ i
    · rw [G_of hi hb]
      refine ⟨_, _, _, _, _, _, rfl, hMl, fun h => ⟨(hM h).1, fun j y hj => ?_⟩⟩
      have hjl := len_of hj
      rw [(hM h).2 j y hj, if_pos (by omega), if_pos (by omega)]
    · obtain ⟨t, ht⟩ := G_pre hi
      have hmi : m ≤ i := by omega
      have et : (G n).take m = (B n i).take m := by rw [ht, List.take_append_of_le_length (by omega)]
      have hg : (B n i).length ≤ (G n).length := by rw [ht, List.length_append]; omega
      rw [et, decide_eq_false (show ¬ (B n i).length ≤ m by omega), decide_eq_false (show ¬ (G n).length ≤ m by omega)]
      exact ⟨_, _, _, _, _, _, rfl, hMl, fun h => by omega⟩
  intro d
  induction d with
  | zero =>
    intro i hi tw p0 p1 p2 K M wh hK hMl hMt hM hwh
    exact done i (by omega) (by have := (B_wf h0 i).len; rw [List.length_take]; omega) _ _ _ _ _ _ _ hMl hM hwh
  | succ d ih =>
    intro i hi tw p0 p1 p2 K M wh hK hMl hMt hM hwh
    by_cases hl : ((B n i).take m).length ≤ i
    · exact done i (by omega) hl _ _ _ _ _ _ _ hMl hM hwh
    · rw [List.length_take] at hl
      have hx : (B n i)[i]? = some ((B n i)[i]'(by omega)) := List.getElem?_eq_getElem (by omega)
      generalize (B n i)[i]'(by omega) = x at hx
      have hw := B_wf h0 i
      have hT : ((B n i).take m)[i]? = some x := by rw [List.getElem?_take, if_pos (by omega)]; exact hx
      have e1 : (tx ((B n i).take m)).length = ((B n i).take m).length := by unfold tx; simp
      have hTl := len_of hT
      have g1 : gt (tx ((B n i).take m)) (i : Int) = nm x.s := gt_map (fun x => nm x.s) hT
      have hB := B_step hx
      have hG : ∃ t, G n = (succs n x.s).foldl (add x.d i) (B n i) ++ t := by rw [← hB]; exact G_pre (by omega)
      rw [weirref14_Lay.l0, if_pos (decide_eq_true (by rw [e1]; omega)), if_pos (by rw [e1]; omega), g1, m1_f hf (hw.lt x.s (ss_mem hx))]
      simp only [Option.bind_eq_bind, Option.bind_some]
      obtain ⟨tw', p1', p2', K', M', L', hL', h1, h2, h3, h4, h5⟩ := lay_t1 hf h0 ha hx (by omega) hw hG y43 (bump p0 (nm x.s)) (row n x.s).length 0 (by omega) (B n i) rfl (twice p0 (nm x.s) tw) p2 p1 K M wh hK hMl hMt hM hwh
      rw [show (((0 : Nat)) : Int) = (0 : Int) from rfl] at h1
      rw [h1]
      simp only [Option.bind_some]
      rw [← hB] at hL'
      subst hL'
      rw [w1 (by omega)]
      exact ih (i + 1) (by omega) _ _ _ _ _ _ _ h2 h3 h4 h5 rfl
theorem lay_tf (hf : Fine n) (h0 : 0 ≤ n.Start ∧ n.Start < (n.Next.length : Int)) {a1 : Int} {m : Nat} (ha : ∀ c : Nat, (c : Int) ≥ a1 ↔ m ≤ c) (p0 p1 p2 : List (ByteArray × Int)) (tw : Bool) :
    ∃ tw' p0' p1' p2' K' M', weirref14_Lay.f (nm n.Start.toNat) p0 p1 p2 tw n a1 = some (tx ((G n).take m), dp ((G n).take m), M', ens n ((G n).take m), fis n ((G n).take m), frs ((G n).take m), bys ((G n).take m), decide ((G n).length ≤ m), K', tw', p0', p1', p2') ∧ M'.length = ((G n).take m).length ∧ ((G n).length ≤ m → MvOk n (G n) (G n).length 0 M') := by
  have h6 := hf.few
  unfold weirref14_Lay.f
  simp only [Option.bind_eq_bind]
  rcases Nat.eq_zero_or_pos m with hm | hm
  · subst hm
    have hp := put_no (K := []) (t := nm n.Start.toNat) rfl [] [] [] [] [] [] [] true (nm n.Start.toNat) n p0 p1 p2 tw a1 0 (-1) ⟨0, 0, 0⟩ ((ha 0).2 (Nat.le_refl _))
    refine (?_ : ∃ tw' p0' p1' p2' K' M', Option.bind _ _ = _ ∧ _)
    rw [hp]
    simp only [Option.bind_some]
    obtain ⟨tw', p0', p1', p2', K', M', h1, h2⟩ := lay_t0 hf h0 ha (nm n.Start.toNat) n.Next.length 0 (by omega) tw p0 p1 p2 [] [] false ⟨fun j y hj => by simp at hj, fun u _ _ => rfl⟩ rfl ⟨Nat.le_refl _, fun _ _ => rfl⟩ (fun h => absurd h (by simp [B])) (by simp [B])
    refine ⟨tw', p0', p1', p2', K', M', ?_, h2⟩
    rw [show (((0 : Nat)) : Int) = (0 : Int) from rfl] at h1
    exact (congrArg (fun r => Option.bind r _) h1)
  · have hp := put_new hf (n := n) (L := []) (K := []) (u := n.Start.toNat) (by omega) rfl (by simp) (M := []) rfl (a2 := a1) (Int.lt_of_not_ge fun h => absurd ((ha 0).1 h) (by omega)) true (nm n.Start.toNat) p0 p1 p2 tw 0 (-1) ⟨0, 0, 0⟩
    refine (?_ : ∃ tw' p0' p1' p2' K' M', Option.bind _ _ = _ ∧ _)
    rw [show weirref14_Graph__put.f ([] : List ByteArray) ([] : List Int) ([] : List (List weirref14_Move)) ([] : List Bool) ([] : List api_Final) ([] : List Int) ([] : List api_Pick) true ([] : List (ByteArray × Int)) (nm n.Start.toNat) p0 p1 p2 tw n a1 (nm n.Start.toNat) 0 (-1) (⟨0, 0, 0⟩ : api_Pick) = _ from hp]
    simp only [Option.bind_some]
    have eT : (B n 0).take m = B n 0 := List.take_of_length_le (by simp [B]; omega)
    have hlt := lay_t0 hf h0 ha (nm n.Start.toNat) n.Next.length 0 (by omega) (twice p1 (nm n.Start.toNat) tw) p0 (bump p1 (nm n.Start.toNat)) p2 (mput [] (nm n.Start.toNat) 0) [[]] true
    rw [eT] at hlt
    obtain ⟨tw', p0', p1', p2', K', M', h1, h2⟩ := hlt (Known.start (x := ⟨n.Start.toNat, 0, -1, ⟨0, 0, 0⟩⟩) (f := fun j => (j : Int)) (n := n) (by show n.Start.toNat < _; omega)) rfl ⟨Nat.le_refl _, fun j hj => by
      unfold gt
      rw [Int.toNat_natCast, List.getD_eq_getElem?_getD, List.getElem?_eq_none (by simp; omega)]; rfl⟩ (fun _ => ⟨rfl, fun j y hj => by
      cases j with
      | zero => simp [B] at hj; subst hj; rfl
      | succ j => simp [B] at hj⟩) (by simp [B]; omega)
    refine ⟨tw', p0', p1', p2', K', M', ?_, h2⟩
    rw [show (((0 : Nat)) : Int) = (0 : Int) from rfl] at h1
    exact (congrArg (fun r => Option.bind r _) h1)
theorem G_wf' (h0 : 0 ≤ n.Start ∧ n.Start < (n.Next.length : Int)) : Wf n (G n) := B_wf h0 _
theorem seq_p (x y : ByteArray) : seq x y = decide (x = y) := by
  unfold seq
  by_cases h : x = y
  · subst h; simp
  · rw [decide_eq_false h, ByteArray.toList_eq, ByteArray.toList_eq]
    refine Bool.eq_false_iff.2 (fun e => h ?_)
    obtain ⟨a⟩ := x
    obtain ⟨b⟩ := y
    rw [beq_iff_eq] at e
    exact congrArg ByteArray.mk (Array.toList_inj.1 e)
/-! ### Whence states were first come to -/
def FrOk (L : List Nd) : Prop := ∀ (j : Nat) (x : Nd), L[j]? = some x → (j = 0 ∧ x.fr = -1) ∨ (0 < j ∧ 0 ≤ x.fr ∧ x.fr < (j : Int))
theorem add_fr {L : List Nd} (h : FrOk L) {d i : Nat} (hi : i < L.length) (x : api_Pick × Nat) : FrOk (add d i L x) := by
  unfold add
  split
  · exact h
  · intro j y hj
    by_cases hl : j < L.length
    · rw [List.getElem?_append_left hl] at hj; exact h j y hj
    · rw [List.getElem?_append_right (by omega)] at hj
      cases hz : j - L.length with
      | zero => rw [hz] at hj; cases hj; exact .inr ⟨by omega, by show (0 : Int) ≤ (i : Int); omega, by show (i : Int) < (j : Int); omega⟩
      | succ k => rw [hz] at hj; simp at hj
theorem fold_fr {d i : Nat} : ∀ (l : List (api_Pick × Nat)) (L : List Nd), FrOk L → i < L.length → FrOk (l.foldl (add d i) L)
  | [], L, h, _ => h
  | x :: l, L, h, hi => by
    obtain ⟨t, e⟩ := add_pre d i L x
    exact fold_fr l _ (add_fr h hi x) (by rw [e, List.length_append]; omega)
theorem B_fr (n : weirlaw14_Net) : ∀ i, FrOk (B n i)
  | 0 => by
    intro j x hj
    cases j with
    | zero => simp [B] at hj; subst hj; exact .inl ⟨rfl, rfl⟩
    | succ j => simp [B] at hj
  | i + 1 => by
    rw [B]
    split
    · exact B_fr n i
    · rename_i x hx
      exact fold_fr _ _ (B_fr n i) (len_of hx)
def back (n : weirlaw14_Net) : Nat → Nat → List api_Pick
  | 0, _ => []
  | f + 1, j => match (G n)[j]? with
    | none => []
    | some x => if x.fr < 0 then [] else x.by_ :: back n f x.fr.toNat
theorem back_len (n : weirlaw14_Net) : ∀ f j, (back n f j).length ≤ f
  | 0, _ => by simp [back]
  | f + 1, j => by
    unfold back
    split
    · simp
    · split
      · simp
      · have := back_len n f (by assumption : Nd).fr.toNat
        simp; omega
theorem G_first (h0 : 0 ≤ n.Start ∧ n.Start < (n.Next.length : Int)) : (G n)[0]? = some ⟨n.Start.toNat, 0, -1, ⟨0, 0, 0⟩⟩ := G_at (i := 0) (by omega) rfl
theorem way_l0 (hf : Fine n) (h0 : 0 ≤ n.Start ∧ n.Start < (n.Next.length : Int)) {i : Nat} (hi : i ≤ n.Next.length) {K : List (ByteArray × explore_visit)} (hK : Known (B n i) K (vz n)) :
    ∀ (f j : Nat) (x : Nd), (B n i)[j]? = some x → j < f → ∀ (acc : List api_Pick), acc.length + f ≤ 1000000 → explore_way.l0 (nm n.Start.toNat) K (nm x.s) acc = some (acc ++ back n f j) := by
  have h6 := hf.few
  intro f
  induction f with
  | zero => intro j x hj hjf; omega
  | succ f ih =>
    intro j x hj hjf acc hacc
    have hGj := G_at hi hj
    have hGw := G_wf' h0
    rw [explore_way.l0]
    unfold back
    rw [hGj]
    simp only
    rcases B_fr n i j x hj with ⟨rfl, hfr⟩ | ⟨hjp, hfr0, hfrj⟩
    · have e := G_first h0
      rw [hGj] at e
      have ex : x = ⟨n.Start.toNat, 0, -1, ⟨0, 0, 0⟩⟩ := Option.some.inj e
      have hsq : seq (nm x.s) (nm n.Start.toNat) = true := by rw [ex]; exact beq_self_eq_true _
      rw [hsq, if_neg (show ¬ (!true) = true by decide), hfr, if_pos (show (-1 : Int) < 0 by decide), List.append_nil]
    · have hne : seq (nm x.s) (nm n.Start.toNat) = false := by
        cases hsq : seq (nm x.s) (nm n.Start.toNat) with
        | false => rfl
        | true =>
          exfalso
          have e1 : nm x.s = nm n.Start.toNat := by rw [seq_p] at hsq; exact of_decide_eq_true hsq
          have e2 := nm_inj (by have := hGw.lt x.s (ss_mem hGj); omega) (by omega) e1
          have e3 := ss_same hGw hGj (G_first h0) e2
          omega
      rw [hne, if_pos (show (!false) = true from rfl), if_neg (show ¬ x.fr < 0 by omega), hK.1 j x hj, vz_at hGj]
      simp only [Option.getD_some]
      rw [if_pos (by rw [List.length_singleton]; omega), if_neg (show ¬ x.fr < 0 by omega)]
      have hy : (B n i)[x.fr.toNat]? = some ((B n i)[x.fr.toNat]'(by have := len_of hj; omega)) := List.getElem?_eq_getElem (by have := len_of hj; omega)
      generalize (B n i)[x.fr.toNat]'(by have := len_of hj; omega) = y at hy
      have hGy := G_at hi hy
      rw [show ((G n).getD x.fr.toNat default).s = y.s by rw [List.getD_eq_getElem?_getD, hGy]; rfl]
      rw [ih x.fr.toNat y hy (by omega) _ (by simp; omega)]
      simp
theorem dway_l0 (h0 : 0 ≤ n.Start ∧ n.Start < (n.Next.length : Int)) (m : Nat) : ∀ (f j : Nat) (x : Nd), ((G n).take m)[j]? = some x → j < f → ∀ (acc : List api_Pick), acc.length + f ≤ 1000000 → weirref14_Graph__way.l0 (frs ((G n).take m)) (bys ((G n).take m)) (j : Int) acc = some ((back n f j).reverse ++ acc) := by
  intro f
  induction f with
  | zero => intro j x hj hjf; omega
  | succ f ih =>
    intro j x hj hjf acc hacc
    have hjl := len_of hj
    have hjm : j < m := by rw [List.length_take] at hjl; omega
    have hG : (G n)[j]? = some x := by rw [List.getElem?_take, if_pos hjm] at hj; exact hj
    have l1 : (frs ((G n).take m)).length = ((G n).take m).length := by unfold frs; simp
    have l2 : (bys ((G n).take m)).length = ((G n).take m).length := by unfold bys; simp
    have g1 : gt (frs ((G n).take m)) (j : Int) = x.fr := gt_map Nd.fr hj
    have g2 : gt (bys ((G n).take m)) (j : Int) = x.by_ := gt_map Nd.by_ hj
    rw [weirref14_Graph__way.l0, if_pos (by rw [l1]; omega), g1]
    unfold back
    rw [hG]
    simp only
    rcases B_fr n _ j x hG with ⟨rfl, hfr⟩ | ⟨hjp, hfr0, hfrj⟩
    · rw [hfr, if_neg (by decide), if_pos (by decide)]; rfl
    · rw [if_pos (decide_eq_true (by omega)), if_pos (by rw [l2]; omega), g2, if_pos (by simp; omega), if_pos (by rw [l1]; omega), if_neg (by omega)]
      have hy : ((G n).take m)[x.fr.toNat]? = some (((G n).take m)[x.fr.toNat]'(by omega)) := List.getElem?_eq_getElem (by omega)
      generalize ((G n).take m)[x.fr.toNat]'(by omega) = y at hy
      have h := ih x.fr.toNat y hy (by omega) ([x.by_] ++ acc) (by simp; omega)
      rw [Int.toNat_of_nonneg hfr0] at h
      rw [h]; simp
end
/-! ### slices.Reverse -/
theorem rev_l0 (l : List api_Pick) (hl : l.length ≤ 1000000) : ∀ (d i : Nat) (c : List api_Pick), i + d = l.length → c.length = l.length → (∀ k, k < l.length → c[k]? = if k < i ∨ l.length ≤ k + i then l[l.length - 1 - k]? else l[k]?) →
    slices_Reverse___api_Pick_api_Pick.l0 (i : Int) ((l.length : Int) - 1 - (i : Int)) c = some l.reverse := by
  have done : ∀ (i : Nat) (c : List api_Pick), c.length = l.length → l.length ≤ i + i + 1 → (∀ k, k < l.length → c[k]? = if k < i ∨ l.length ≤ k + i then l[l.length - 1 - k]? else l[k]?) → c = l.reverse := by
    intro i c hc hi h
    refine List.ext_getElem? fun k => ?_
    by_cases hk : k < l.length
    · rw [h k hk, List.getElem?_reverse hk]
      split
      · rfl
      · rw [show l.length - 1 - k = k by omega]
    · rw [List.getElem?_eq_none (by omega), List.getElem?_eq_none (by simp; omega)]
  intro d
  induction d with
  | zero =>
    intro i c hi hc h
    rw [slices_Reverse___api_Pick_api_Pick.l0, if_neg (nt (decide_eq_false (by omega))), done i c hc (by omega) h]
  | succ d ih =>
    intro i c hi hc h
    by_cases he : (i : Int) < (l.length : Int) - 1 - (i : Int)
    · rw [slices_Reverse___api_Pick_api_Pick.l0, if_pos (decide_eq_true he), if_pos (by rw [hc]; omega), if_pos (by rw [hc]; omega), if_pos (by rw [hc]; omega), if_pos (by rw [hc]; omega), w1 (by omega)]
      have ej : (l.length : Int) - 1 - (i : Int) = ((l.length - 1 - i : Nat) : Int) := by omega
      have ew : IntKind.i64.wrap ((l.length : Int) - 1 - (i : Int) - 1) = (l.length : Int) - 1 - ((i + 1 : Nat) : Int) := by rw [wi64_id (by omega) (by omega)]; omega
      rw [ew]
      refine ih (i + 1) _ (by omega) (by simp [setl, hc]) fun k hk => ?_
      rw [ej]
      have g1 : ∀ q : Nat, q < l.length → c[q]? = some (gt c (q : Int)) := fun q hq => by
        have := gt_get (xs := c) (i := (q : Int)) (by omega) (by rw [hc]; omega)
        rwa [Int.toNat_natCast] at this
      have a1 := h i (by omega)
      have a2 := h (l.length - 1 - i) (by omega)
      rw [if_neg (by omega), g1 i (by omega)] at a1
      rw [if_neg (by omega), g1 (l.length - 1 - i) (by omega)] at a2
      unfold setl
      rw [Int.toNat_natCast, Int.toNat_natCast, List.getElem?_set, List.length_set]
      by_cases e1 : l.length - 1 - i = k
      · subst e1
        rw [if_pos rfl, if_pos (by omega), a1, if_pos (by omega), show l.length - 1 - (l.length - 1 - i) = i by omega]
      · rw [if_neg e1, List.getElem?_set]
        by_cases e2 : i = k
        · subst e2
          rw [if_pos rfl, if_pos (by omega), a2, if_pos (by omega)]
        · rw [if_neg e2, h k hk]
          by_cases h3 : k < i ∨ l.length ≤ k + i
          · rw [if_pos h3, if_pos (by omega)]
          · rw [if_neg h3, if_neg (by omega)]
    · rw [slices_Reverse___api_Pick_api_Pick.l0, if_neg (nt (decide_eq_false he)), done i c hc (by omega) h]
theorem rev_f (l : List api_Pick) (hl : l.length ≤ 1000000) : slices_Reverse___api_Pick_api_Pick.f l = some l.reverse := by
  unfold slices_Reverse___api_Pick_api_Pick.f
  have h := rev_l0 l hl l.length 0 l (by omega) rfl (fun k hk => by rw [if_neg (by omega)])
  rw [wi64_id (by omega) (by omega)]
  rw [show (l.length : Int) - 1 - ((0 : Nat) : Int) = (l.length : Int) - 1 by omega, show (((0 : Nat)) : Int) = (0 : Int) from rfl] at h
  rw [h]; rfl
end Go.Proofs.Ytfiamlhhhkiiaaa.K
