/- ExploreWay: goals; the document's search; the program's walk. -/
import Derived.Test.YtfiamlhhhkiiaaaEI
import Derived.Test.YtfiamlhhhkiiaaaEP
set_option linter.unusedVariables false
set_option linter.unusedSimpArgs false
namespace Go.Proofs.Ytfiamlhhhkiiaaa.K
open Go Go.RowKit
noncomputable local instance decMem (t : ByteArray) (T : List ByteArray) : Decidable (t ∈ T) := Classical.propDecidable _
/-- The map of goals tells what the list of goals tells. -/
def Goals (T : List ByteArray) (W : List (ByteArray × Int)) : Prop := (∀ t ∈ T, mget W t = some 1) ∧ ∀ t, t ∉ T → mget W t = none
theorem goals_l0 {n : weirlaw14_Net} (a2 : List Int) : ∀ (d i : Nat), i + d = 100 → ∀ (T : List ByteArray) (W : List (ByteArray × Int)), T.length ≤ i → Goals T W →
    ∃ T' W', weirlaw14_ExploreWay.l0 n a2 T (i : Int) W = some (T', W') ∧ T'.length ≤ 100 ∧ Goals T' W' := by
  intro d
  induction d with
  | zero =>
    intro i hi T W hT hG
    rw [weirlaw14_ExploreWay.l0]
    split
    · rw [if_neg (nt (decide_eq_false (by omega)))]; exact ⟨_, _, rfl, by omega, hG⟩
    · exact ⟨_, _, rfl, by omega, hG⟩
  | succ d ih =>
    intro i hi T W hT hG
    rw [weirlaw14_ExploreWay.l0]
    by_cases h1 : (i : Int) < (a2.length : Int)
    · rw [if_pos (decide_eq_true h1), if_pos (decide_eq_true (by omega)), if_pos (by omega), w1 (by omega)]
      by_cases h2 : gt a2 (i : Int) ≥ 0
      · rw [if_pos (decide_eq_true h2), if_pos (by omega)]
        by_cases h3 : gt a2 (i : Int) < (n.Next.length : Int)
        · have hn := name_f (gt a2 (i : Int)).toNat
          rw [Int.toNat_of_nonneg h2] at hn
          rw [if_pos (decide_eq_true h3), if_pos (by omega), hn]
          simp only [Option.bind_eq_bind, Option.bind_some]
          rw [if_pos (by omega), if_pos (by rw [List.length_singleton]; omega)]
          refine ih (i + 1) (by omega) _ _ (by simp; omega) ⟨fun t ht => ?_, fun t ht => ?_⟩
          · rw [mget_mput]
            split
            · rfl
            · rename_i hne
              rcases List.mem_append.1 ht with h | h
              · exact hG.1 t h
              · exact absurd (List.mem_singleton.1 h).symm hne
          · rw [mget_mput, if_neg (fun e => ht (List.mem_append_right _ (List.mem_singleton.2 e.symm)))]
            exact hG.2 t fun h => ht (List.mem_append_left _ h)
        · rw [if_neg (nt (decide_eq_false h3))]; exact ih (i + 1) (by omega) _ _ (by show T.length ≤ _; omega) hG
      · rw [if_neg (nt (decide_eq_false h2))]; exact ih (i + 1) (by omega) _ _ (by show T.length ≤ _; omega) hG
    · rw [if_neg (nt (decide_eq_false h1))]; exact ⟨_, _, rfl, by omega, hG⟩
theorem goal_at {T : List ByteArray} {W : List (ByteArray × Int)} (h : Goals T W) (t : ByteArray) : (((mget W t).getD (0 : Int)) == 1) = decide (t ∈ T) := by
  by_cases ht : t ∈ T
  · rw [h.1 t ht, decide_eq_true ht]; rfl
  · rw [h.2 t ht, decide_eq_false ht]; rfl
section
variable {n : weirlaw14_Net}
theorem dway_l1 (h0 : 0 ≤ n.Start ∧ n.Start < (n.Next.length : Int)) (hg : (G n).length ≤ 60000) (m : Nat) {i : Nat} {x : Nd} (hx : ((G n).take m)[i]? = some x) (T : List ByteArray) (hT : T.length ≤ 100) (t6 : List Int) (t7 : List (List weirref14_Move)) (t8 : List Bool) (t9 : List api_Final) (t12 : Bool) (t13 : List (ByteArray × Int)) (t14 : Bool) (t15 t16 t17 : List (ByteArray × Int)) :
    ∀ (d k : Nat), k + d = T.length → weirref14_Way.l1 T (tx ((G n).take m)) t6 t7 t8 t9 (frs ((G n).take m)) (bys ((G n).take m)) t12 t13 t14 t15 t16 t17 (i : Int) (k : Int) =
      if nm x.s ∈ T.drop k then some (.inr (.inr ((back n (i + 1) i).reverse, ((i + 1 : Nat) : Int), 0, t14, t15, t16, t17))) else some (.inl ()) := by
  have hil := len_of hx
  have hi6 : i < 60000 := by rw [List.length_take] at hil; omega
  have hgx : gt (tx ((G n).take m)) (i : Int) = nm x.s := gt_map (fun x => nm x.s) hx
  intro d
  induction d with
  | zero =>
    intro k hk
    rw [weirref14_Way.l1, if_neg (nt (decide_eq_false (by omega))), if_neg]
    rw [List.drop_eq_nil_of_le (by omega)]; simp
  | succ d ih =>
    intro k hk
    have hkT : T[k]? = some (T[k]'(by omega)) := List.getElem?_eq_getElem (by omega)
    have hgk : gt T (k : Int) = T[k]'(by omega) := by unfold gt; rw [Int.toNat_natCast, List.getD_eq_getElem?_getD, hkT]; rfl
    have hdr : T.drop k = T[k]'(by omega) :: T.drop (k + 1) := List.drop_eq_getElem_cons (by omega)
    rw [weirref14_Way.l1, if_pos (decide_eq_true (by omega)), if_pos (by omega), if_pos (by rw [tx_len]; omega), hgk, hgx, seq_p, hdr]
    by_cases h : T[k]'(by omega) = nm x.s
    · rw [if_pos (decide_eq_true h), if_pos (by rw [h]; exact List.mem_cons_self ..)]
      unfold weirref14_Graph__way.f
      have hw := dway_l0 h0 m (i + 1) i x hx (by omega) [] (by simp; omega)
      rw [hw]
      simp only [Option.bind_eq_bind, Option.bind_some, List.append_nil]
      rw [w1 (by omega)]
    · rw [if_neg (nt (decide_eq_false h)), w1 (by omega), ih (k + 1) (by omega)]
      by_cases h2 : nm x.s ∈ T.drop (k + 1)
      · rw [if_pos h2, if_pos (List.mem_cons_of_mem _ h2)]
      · rw [if_neg h2, if_neg]
        intro h3
        rcases List.mem_cons.1 h3 with h4 | h4
        · exact h h4.symm
        · exact h2 h4
theorem pway (hf : Fine n) (h0 : 0 ≤ n.Start ∧ n.Start < (n.Next.length : Int)) {i : Nat} (hi : i ≤ n.Next.length) {K : List (ByteArray × explore_visit)} (hK : Known (B n i) K (vz n)) {x : Nd} (hx : (B n i)[i]? = some x) :
    explore_way.f (nm n.Start.toNat) (nm x.s) K = some (back n (i + 1) i).reverse := by
  have h6 := hf.few
  have hl := back_len n (i + 1) i
  unfold explore_way.f
  have h := way_l0 hf h0 hi hK (i + 1) i x hx (by omega) [] (by simp; omega)
  rw [h]
  simp only [Option.bind_eq_bind, Option.bind_some, List.nil_append]
  rw [rev_f _ (by omega)]
  simp only [Option.bind_some]
  rw [if_pos (by simp)]
theorem way_walk (hf : Fine n) (h0 : 0 ≤ n.Start ∧ n.Start < (n.Next.length : Int)) {most : Int} {m : Nat} (hmost : ∀ c : Nat, c < 70000 → ((c : Int) ≥ most ↔ m ≤ c)) (y : ByteArray) (p1 : List (ByteArray × Int)) {T : List ByteArray} {W : List (ByteArray × Int)} (hT : T.length ≤ 100) (hGo : Goals T W)
    (t6 : List Int) (t7 : List (List weirref14_Move)) (t8 : List Bool) (t9 : List api_Final) (t12 : Bool) (t13 : List (ByteArray × Int)) (t14 : Bool) (t15 t16 t17 : List (ByteArray × Int)) :
    ∀ (d i : Nat), i + d = n.Next.length → i ≤ (B n i).length → i ≤ m → ∀ (tw : Bool) (p0 p2 : List (ByteArray × Int)) (K : List (ByteArray × explore_visit)), Known (B n i) K (vz n) → Bk n i tw p0 p2 →
    ∃ j p0' p2' r, explore_walk_1.l0 (nm n.Start.toNat) p1 n most W y ((tx (B n i)).drop i) tw p0 p2 (tx ((G n).take i)) [] 0 (i : Int) K = some r ∧ Bk n j false p0' p2' ∧
      ((∃ c w, c < (G n).length ∧ w.length ≤ 60000 ∧ r = .inr (1, false, p0', p2', tx ((G n).take (c + 1)), w, 0, (c : Int)) ∧ weirref14_Way.l0 T (tx ((G n).take m)) t6 t7 t8 t9 (frs ((G n).take m)) (bys ((G n).take m)) t12 t13 t14 t15 t16 t17 (i : Int) = some (.inr (w, ((c + 1 : Nat) : Int), 0, t14, t15, t16, t17)))
        ∨ (weirref14_Way.l0 T (tx ((G n).take m)) t6 t7 t8 t9 (frs ((G n).take m)) (bys ((G n).take m)) t12 t13 t14 t15 t16 t17 (i : Int) = some (.inl ()) ∧
          ((r = .inr (1, false, p0', p2', tx ((G n).take m), [], 1, (m : Int)) ∧ m < (G n).length) ∨ (r = .inl (false, p0', p2', tx (G n), [], 0, ((G n).length : Int)) ∧ (G n).length ≤ m)))) := by
  have h6 := hf.few
  have hg := (G_wf h0).len
  have done : ∀ (i : Nat), i ≤ n.Next.length → (B n i).length = i → i ≤ m → ∀ (tw : Bool) (p0 p2 : List (ByteArray × Int)) (K : List (ByteArray × explore_visit)), Bk n i tw p0 p2 →
    ∃ j p0' p2' r, explore_walk_1.l0 (nm n.Start.toNat) p1 n most W y ((tx (B n i)).drop i) tw p0 p2 (tx ((G n).take i)) [] 0 (i : Int) K = some r ∧ Bk n j false p0' p2' ∧
      ((∃ c w, c < (G n).length ∧ w.length ≤ 60000 ∧ r = .inr (1, false, p0', p2', tx ((G n).take (c + 1)), w, 0, (c : Int)) ∧ weirref14_Way.l0 T (tx ((G n).take m)) t6 t7 t8 t9 (frs ((G n).take m)) (bys ((G n).take m)) t12 t13 t14 t15 t16 t17 (i : Int) = some (.inr (w, ((c + 1 : Nat) : Int), 0, t14, t15, t16, t17)))
        ∨ (weirref14_Way.l0 T (tx ((G n).take m)) t6 t7 t8 t9 (frs ((G n).take m)) (bys ((G n).take m)) t12 t13 t14 t15 t16 t17 (i : Int) = some (.inl ()) ∧
          ((r = .inr (1, false, p0', p2', tx ((G n).take m), [], 1, (m : Int)) ∧ m < (G n).length) ∨ (r = .inl (false, p0', p2', tx (G n), [], 0, ((G n).length : Int)) ∧ (G n).length ≤ m)))) := by
    intro i hi hl him tw p0 p2 K hb
    have htw := hb.1
    subst htw
    have hGl : (G n).length = i := by rw [G_of hi (by omega), hl]
    rw [explore_walk_1.l0, if_neg (nt (decide_eq_false (by rw [List.length_drop, tx_len]; omega)))]
    refine ⟨i, p0, p2, _, rfl, hb, .inr ⟨?_, .inr ⟨?_, by omega⟩⟩⟩
    · rw [weirref14_Way.l0, if_neg (nt (decide_eq_false (by rw [tx_len, List.length_take]; omega)))]
    · rw [List.take_of_length_le (by omega), hGl]
  intro d
  induction d with
  | zero =>
    intro i hi hl him tw p0 p2 K hK hb
    exact done i (by omega) (by have := (B_wf h0 i).len; omega) him _ _ _ _ hb
  | succ d ih =>
    intro i hi hl him tw p0 p2 K hK hb
    by_cases he : (B n i).length = i
    · exact done i (by omega) he him _ _ _ _ hb
    · have hx : (B n i)[i]? = some ((B n i)[i]'(by omega)) := List.getElem?_eq_getElem (by omega)
      generalize (B n i)[i]'(by omega) = x at hx
      have hw := B_wf h0 i
      obtain ⟨c1, c2, c3⟩ := cut1 hx
      have hB := B_step hx
      have hG : ∃ t, G n = (succs n x.s).foldl (add x.d i) (B n i) ++ t := by rw [← hB]; exact G_pre (by omega)
      have hGi := G_at (i := i) (by omega) hx
      have hGl := len_of hGi
      have htw := hb.1
      subst htw
      rw [explore_walk_1.l0, if_pos (decide_eq_true (by omega)), if_pos (by omega), if_pos (by omega), c1]
      unfold explore_Way_r_1.f
      by_cases hm : m ≤ i
      · have em : i = m := by omega
        rw [if_pos (decide_eq_true ((hmost i (by omega)).2 hm))]
        refine ⟨i, p0, p2, _, rfl, hb, .inr ⟨?_, .inl ⟨?_, by omega⟩⟩⟩
        · rw [weirref14_Way.l0, if_neg (nt (decide_eq_false (by rw [tx_len, List.length_take]; omega)))]
        · rw [em]
      · rw [if_neg (nt (decide_eq_false (fun h => hm ((hmost i (by omega)).1 h))))]
        unfold weirlaw14_ExploreWay_1.f
        have htk : tx ((G n).take i) ++ [nm x.s] = tx ((G n).take (i + 1)) := by
          rw [List.take_add_one, hGi, tx_app]; rfl
        rw [if_pos (by rw [tx_len, List.length_take, List.length_singleton]; omega), goal_at hGo, htk]
        have hTx : ((G n).take m)[i]? = some x := by rw [List.getElem?_take, if_pos (by omega)]; exact hGi
        have hl1 := dway_l1 h0 (by omega) m hTx T hT t6 t7 t8 t9 t12 t13 t14 t15 t16 t17 T.length 0 (by omega)
        rw [show (((0 : Nat)) : Int) = (0 : Int) from rfl, List.drop_zero] at hl1
        by_cases hgo : nm x.s ∈ T
        · rw [if_pos (decide_eq_true hgo)]
          rw [if_pos hgo] at hl1
          simp only [Option.bind_eq_bind, Option.bind_some, if_true]
          rw [pway hf h0 (by omega) hK hx]
          simp only [Option.bind_some]
          refine ⟨i, p0, p2, _, rfl, hb, .inl ⟨i, (back n (i + 1) i).reverse, hGl, by rw [List.length_reverse]; have := back_len n (i + 1) i; omega, rfl, ?_⟩⟩
          rw [weirref14_Way.l0, if_pos (decide_eq_true (by rw [tx_len, List.length_take]; omega)), hl1]
          rfl
        · rw [if_neg (nt (decide_eq_false hgo))]
          rw [if_neg hgo] at hl1
          simp only [Option.bind_eq_bind, Option.bind_some, Bool.false_eq_true, if_false, decide_true, if_true]
          obtain ⟨tw', p2', m1, m2⟩ := moves_f hf (hw.lt x.s (ss_mem hx)) y p0 p1 p2 false ((ss (G n)).take i) (not_before h0 hGi (Nat.le_refl _))
          rw [m1, c2]
          simp only [Option.bind_some]
          obtain ⟨K', k1, k2⟩ := walk_1_l1 hf hx hw hG ((tx (B n i)).drop i) c1 (succs n x.s) [] rfl (B n i) rfl K hK
          rw [show (([] : List (api_Pick × Nat)).length : Int) = (0 : Int) from rfl] at k1
          rw [k1]
          simp only [Option.bind_some]
          rw [← hB] at k2 ⊢
          obtain ⟨t, ht⟩ := B_pre1 n i
          rw [w1 (by omega)]
          obtain ⟨j, q0, q2, r, r1, r2, r3⟩ := ih (i + 1) (by omega) (by have := len_of hx; rw [ht, List.length_append]; omega) (by omega) _ _ _ _ k2 (hb.next hf h0 hGi m2)
          refine ⟨j, q0, q2, r, r1, r2, ?_⟩
          have hdoc : weirref14_Way.l0 T (tx ((G n).take m)) t6 t7 t8 t9 (frs ((G n).take m)) (bys ((G n).take m)) t12 t13 t14 t15 t16 t17 (i : Int) = weirref14_Way.l0 T (tx ((G n).take m)) t6 t7 t8 t9 (frs ((G n).take m)) (bys ((G n).take m)) t12 t13 t14 t15 t16 t17 ((i + 1 : Nat) : Int) := by
            rw [weirref14_Way.l0, if_pos (decide_eq_true (by rw [tx_len, List.length_take]; omega)), hl1]
            simp only [Option.bind_eq_bind, Option.bind_some]
            rw [w1 (by omega)]
          rw [hdoc]
          exact r3
end
end Go.Proofs.Ytfiamlhhhkiiaaa.K
