/- ExploreStates: what is handed out, left, gone through again and one within another. -/
import Derived.Test.YtfiamlhhhkiiaaaED
set_option linter.unusedVariables false
set_option linter.unusedSimpArgs false
namespace Go.Proofs.Ytfiamlhhhkiiaaa.K
open Go Go.RowKit
theorem seq_self (x : ByteArray) : seq x x = true := by unfold seq; exact beq_self_eq_true _
theorem tx_len (L : List Nd) : (tx L).length = L.length := by unfold tx; simp
theorem dp_len (L : List Nd) : (dp L).length = L.length := by unfold dp; simp
section
variable {n : weirlaw14_Net}
theorem cut1 {i : Nat} {L : List Nd} {x : Nd} (hx : L[i]? = some x) : gt ((tx L).drop i) 0 = nm x.s ∧ (((tx L).drop i).take ((tx L).drop i).length).drop (1 : Int).toNat = (tx L).drop (i + 1) ∧ 0 < ((tx L).drop i).length := by
  have hl := len_of hx
  refine ⟨?_, ?_, by rw [List.length_drop, tx_len]; omega⟩
  · unfold gt
    rw [List.getD_eq_getElem?_getD, show (0 : Int).toNat = 0 from rfl, List.getElem?_drop]
    unfold tx
    rw [List.getElem?_map, show i + 0 = i from rfl, hx]; rfl
  · rw [List.take_length, List.drop_drop]; rfl
theorem start_known (hf : Fine n) (h0 : 0 ≤ n.Start ∧ n.Start < (n.Next.length : Int)) : Known (B n 0) (mput ([] : List (ByteArray × explore_visit)) (nm n.Start.toNat) ⟨0, ⟨#[]⟩, ⟨0, 0, 0⟩⟩) (vz n) := by
  have h6 := hf.few
  have hG : (G n)[0]? = some ⟨n.Start.toNat, 0, -1, ⟨0, 0, 0⟩⟩ := G_at (i := 0) (by omega) rfl
  have h := Known.start (n := n) (x := ⟨n.Start.toNat, 0, -1, ⟨0, 0, 0⟩⟩) (f := vz n) (by show n.Start.toNat < _; omega)
  rw [vz_at hG] at h
  exact h
/-- One within another: all states, whatever is booked. -/
theorem inner_r (j : Nat) {x : Nd} (hj : (G n)[j]? = some x) (hs : j < 9223372036854775807) (been : List (ByteArray × explore_visit)) (v6 : Bool) (g1 : List Int) (g2 : List (List weirref14_Move)) (g3 : List Bool) (g4 : List api_Final) (g5 : List Int) (g6 : List api_Pick) (g7 : Bool) (g8 : List (ByteArray × Int)) :
    explore_States_1_r_1.f (nm x.s) been v6 (tx (G n)) g1 g2 g3 g4 g5 g6 g7 g8 (j : Int) = some (0, 0, v6, ((j + 1 : Nat) : Int)) := by
  have hl := len_of hj
  have hg : gt (tx (G n)) (j : Int) = nm x.s := gt_map (fun x => nm x.s) hj
  unfold explore_States_1_r_1.f weirlaw14_ExploreStates_r_1.f
  rw [if_neg (nt (decide_eq_false (by rw [tx_len]; omega))), if_pos (by rw [tx_len]; omega), hg, seq_self]
  simp only [Bool.not_true, Bool.false_eq_true, if_false, Option.bind_eq_bind, Option.bind_some, decide_true, if_true]
  rw [w1 hs]
theorem inner_l0 (hf : Fine n) (h0 : 0 ≤ n.Start ∧ n.Start < (n.Next.length : Int)) (y : ByteArray) (p1 : List (ByteArray × Int)) (v6 : Bool) (g1 : List Int) (g2 : List (List weirref14_Move)) (g3 : List Bool) (g4 : List api_Final) (g5 : List Int) (g6 : List api_Pick) (g7 : Bool) (g8 : List (ByteArray × Int)) :
    ∀ (d i : Nat), i + d = n.Next.length → i ≤ (B n i).length → ∀ (tw : Bool) (p0 p2 : List (ByteArray × Int)) (K : List (ByteArray × explore_visit)), Known (B n i) K (vz n) →
    ∃ tw' p0' p2', explore_walk_1_1.l0 (tx (G n)) g1 g2 g3 g4 g5 g6 g7 g8 y p1 n ((tx (B n i)).drop i) 0 v6 (i : Int) tw p0 p2 K = some (.inl (0, v6, ((G n).length : Int), tw', p0', p2')) := by
  have h6 := hf.few
  have done : ∀ (i : Nat), i ≤ n.Next.length → (B n i).length = i → ∀ (tw : Bool) (p0 p2 : List (ByteArray × Int)) (K : List (ByteArray × explore_visit)),
    ∃ tw' p0' p2', explore_walk_1_1.l0 (tx (G n)) g1 g2 g3 g4 g5 g6 g7 g8 y p1 n ((tx (B n i)).drop i) 0 v6 (i : Int) tw p0 p2 K = some (.inl (0, v6, ((G n).length : Int), tw', p0', p2')) := by
    intro i hi hl tw p0 p2 K
    rw [explore_walk_1_1.l0, if_neg (nt (decide_eq_false (by rw [List.length_drop, tx_len]; omega))), G_of hi (by omega), hl]
    exact ⟨_, _, _, rfl⟩
  intro d
  induction d with
  | zero =>
    intro i hi hl tw p0 p2 K hK
    exact done i (by omega) (by have := (B_wf h0 i).len; omega) _ _ _ _
  | succ d ih =>
    intro i hi hl tw p0 p2 K hK
    by_cases he : (B n i).length = i
    · exact done i (by omega) he _ _ _ _
    · have hx : (B n i)[i]? = some ((B n i)[i]'(by omega)) := List.getElem?_eq_getElem (by omega)
      generalize (B n i)[i]'(by omega) = x at hx
      have hw := B_wf h0 i
      obtain ⟨c1, c2, c3⟩ := cut1 hx
      have hB := B_step hx
      have hG : ∃ t, G n = (succs n x.s).foldl (add x.d i) (B n i) ++ t := by rw [← hB]; exact G_pre (by omega)
      have hGi := G_at (i := i) (by omega) hx
      rw [explore_walk_1_1.l0, if_pos (decide_eq_true (by omega)), if_pos (by omega), if_pos (by omega), if_pos rfl, c1, inner_r i hGi (by omega)]
      simp only [Option.bind_eq_bind, Option.bind_some, decide_true, if_true]
      obtain ⟨tw', p2', m1, -⟩ := moves_f hf (hw.lt x.s (ss_mem hx)) y p0 p1 p2 tw [] (by simp)
      rw [m1, c2]
      simp only [Option.bind_some]
      obtain ⟨K', k1, k2⟩ := walk_1_1_l1 hf hx hw hG ((tx (B n i)).drop i) c1 (succs n x.s) [] rfl (B n i) rfl K hK
      rw [show (([] : List (api_Pick × Nat)).length : Int) = (0 : Int) from rfl] at k1
      rw [k1]
      simp only [Option.bind_some]
      rw [← hB] at k2 ⊢
      obtain ⟨t, ht⟩ := B_pre1 n i
      exact ih (i + 1) (by omega) (by have := len_of hx; rw [ht, List.length_append]; omega) _ _ _ _ k2
theorem inner_f (hf : Fine n) (h0 : 0 ≤ n.Start ∧ n.Start < (n.Next.length : Int)) (p0 p1 p2 : List (ByteArray × Int)) (tw : Bool) (v6 : Bool) (g1 : List Int) (g2 : List (List weirref14_Move)) (g3 : List Bool) (g4 : List api_Final) (g5 : List Int) (g6 : List api_Pick) (g7 : Bool) (g8 : List (ByteArray × Int)) :
    ∃ tw' p0' p2', explore_States_1_1.f v6 (tx (G n)) g1 g2 g3 g4 g5 g6 g7 g8 0 (nm n.Start.toNat) p0 p1 p2 tw n = some (0, v6, ((G n).length : Int), tw', p0', p2') := by
  obtain ⟨tw', p0', p2', h⟩ := inner_l0 hf h0 (nm n.Start.toNat) p1 v6 g1 g2 g3 g4 g5 g6 g7 g8 n.Next.length 0 (by omega) (Nat.zero_le _) tw p0 p2 _ (start_known hf h0)
  refine ⟨tw', p0', p2', ?_⟩
  unfold explore_States_1_1.f explore_walk.f explore_walk_1_1.f
  rw [show (((0 : Nat)) : Int) = (0 : Int) from rfl] at h
  simp only [Option.bind_eq_bind, Option.bind_some]
  rw [show explore_walk_1_1.l0 (tx (G n)) g1 g2 g3 g4 g5 g6 g7 g8 (nm n.Start.toNat) p1 n [nm n.Start.toNat] 0 v6 0 tw p0 p2 (mput [] (nm n.Start.toNat) ⟨0, ⟨#[]⟩, ⟨0, 0, 0⟩⟩) = _ from h]
  rfl
end
end Go.Proofs.Ytfiamlhhhkiiaaa.K
