/- ExploreStates: the law. -/
import Derived.Test.YtfiamlhhhkiiaaaEE
set_option linter.unusedVariables false
set_option linter.unusedSimpArgs false
namespace Go.Proofs.Ytfiamlhhhkiiaaa.K
open Go Go.RowKit
section
variable {n : weirlaw14_Net}
theorem r_l0 (p0 p2 : List (ByteArray × Int)) (tw : Bool) (turn : Int) (i : Nat) (hlen : (G n).length ≤ 60000) (h : turn = 0 → ∀ j x, i + 1 ≤ j → (G n)[j]? = some x → mget p0 (nm x.s) = none) :
    ∀ (d k : Nat), k + d = (G n).length → i + 1 ≤ k → weirlaw14_ExploreStates_r.l0 (tx (G n)) p0 p2 tw turn (i : Int) (k : Int) = some (.inl ()) := by
  intro d
  induction d with
  | zero =>
    intro k hk hi
    rw [weirlaw14_ExploreStates_r.l0, if_neg (nt (decide_eq_false (by rw [tx_len]; omega)))]
  | succ d ih =>
    intro k hk hi
    rw [weirlaw14_ExploreStates_r.l0, if_pos (decide_eq_true (by rw [tx_len]; omega))]
    have hn := ih (k + 1) (by omega) (by omega)
    split
    · split
      · rename_i ht
        have hx : (G n)[k]? = some ((G n)[k]'(by omega)) := List.getElem?_eq_getElem (by omega)
        generalize (G n)[k]'(by omega) = x at hx
        have hg : gt (tx (G n)) (k : Int) = nm x.s := gt_map (fun x => nm x.s) hx
        rw [if_pos (by rw [tx_len]; omega), hg, h (by simpa using ht) k x hi hx, if_neg (by decide), w1 (by omega)]
        exact hn
      · rw [w1 (by omega)]; exact hn
    · rfl
theorem G_wf (h0 : 0 ≤ n.Start ∧ n.Start < (n.Next.length : Int)) : Wf n (G n) := B_wf h0 _
/-- A round, at the first time. -/
theorem r_f0 (hf : Fine n) (h0 : 0 ≤ n.Start ∧ n.Start < (n.Next.length : Int)) {i : Nat} {x : Nd} (hx : (G n)[i]? = some x) (lv inn : Int) (v6 : Bool) (g2 : List (List weirref14_Move)) (g3 : List Bool) (g4 : List api_Final) (g5 : List Int) (g6 : List api_Pick) (g7 : Bool) (g8 : List (ByteArray × Int)) (p0 p1 p2 : List (ByteArray × Int)) (tw : Bool) (st : ByteArray)
    (h : ∀ j y, i + 1 ≤ j → (G n)[j]? = some y → mget p0 (nm y.s) = none) :
    weirlaw14_ExploreStates_r.f (nm x.s) (x.d : Int) lv inn v6 (tx (G n)) (dp (G n)) g2 g3 g4 g5 g6 g7 g8 p0 p1 p2 tw st n 0 (i : Int) = some (if ((i + 1 : Nat) : Int) == lv then 2 else 0, v6, tw, p0, p2, ((i + 1 : Nat) : Int)) := by
  have hl := len_of hx
  have hw := (G_wf h0).len
  have h6 := hf.few
  have hg : gt (tx (G n)) (i : Int) = nm x.s := gt_map (fun x => nm x.s) hx
  have hg2 : gt (dp (G n)) (i : Int) = (x.d : Int) := gt_map (fun x => (x.d : Int)) hx
  unfold weirlaw14_ExploreStates_r.f
  rw [if_neg (nt (decide_eq_false (by rw [tx_len]; omega))), if_pos (by rw [tx_len]; omega), hg, seq_self, if_neg (by decide), if_pos (by rw [dp_len]; omega), hg2, if_neg (by simp), w1 (by omega)]
  rw [r_l0 p0 p2 tw 0 i (by omega) (fun _ => h) ((G n).length - (i + 1)) (i + 1) (by omega) (Nat.le_refl _)]
  simp only [Option.bind_eq_bind, Option.bind_some, show ((0 : Int) == 1) = false from rfl, show ((0 : Int) == 0) = true from rfl, Bool.false_eq_true, if_false, if_true]
  split <;> rfl
/-- .. at the second. -/
theorem r_f1 (hf : Fine n) (h0 : 0 ≤ n.Start ∧ n.Start < (n.Next.length : Int)) {i : Nat} {x : Nd} (hx : (G n)[i]? = some x) (lv inn : Int) (v6 : Bool) (g2 : List (List weirref14_Move)) (g3 : List Bool) (g4 : List api_Final) (g5 : List Int) (g6 : List api_Pick) (g7 : Bool) (g8 : List (ByteArray × Int)) (p0 p1 p2 : List (ByteArray × Int)) (tw : Bool) :
    ∃ tw' p0' p2', weirlaw14_ExploreStates_r.f (nm x.s) (x.d : Int) lv inn v6 (tx (G n)) (dp (G n)) g2 g3 g4 g5 g6 g7 g8 p0 p1 p2 tw (nm n.Start.toNat) n 1 (i : Int) = some (0, v6, tw', p0', p2', ((i + 1 : Nat) : Int)) := by
  have hl := len_of hx
  have hw := (G_wf h0).len
  have h6 := hf.few
  have hg : gt (tx (G n)) (i : Int) = nm x.s := gt_map (fun x => nm x.s) hx
  have hg2 : gt (dp (G n)) (i : Int) = (x.d : Int) := gt_map (fun x => (x.d : Int)) hx
  unfold weirlaw14_ExploreStates_r.f
  rw [if_neg (nt (decide_eq_false (by rw [tx_len]; omega))), if_pos (by rw [tx_len]; omega), hg, seq_self, if_neg (by decide), if_pos (by rw [dp_len]; omega), hg2, if_neg (by simp), w1 (by omega)]
  rw [r_l0 p0 p2 tw 1 i (by omega) (fun h => absurd h (by decide)) ((G n).length - (i + 1)) (i + 1) (by omega) (Nat.le_refl _)]
  simp only [Option.bind_eq_bind, Option.bind_some, show ((1 : Int) == 1) = true from rfl, show ((1 : Int) == 0) = false from rfl, Bool.false_eq_true, if_false, if_true]
  by_cases hi : ((i : Int) == inn) = true
  · obtain ⟨tw', p0', p2', h⟩ := inner_f hf h0 p0 p1 p2 tw v6 (dp (G n)) g2 g3 g4 g5 g6 g7 g8
    rw [if_pos hi]
    simp only [Option.bind_some, if_true]
    rw [h]
    simp only [Option.bind_some, decide_true, if_true]
    rw [if_neg (by rw [tx_len]; simp)]
    exact ⟨_, _, _, rfl⟩
  · rw [if_neg hi]
    exact ⟨_, _, _, rfl⟩
/-! ### The walk -/
def Bk (n : weirlaw14_Net) (i : Nat) (tw : Bool) (p0 p2 : List (ByteArray × Int)) : Prop :=
  tw = false ∧ (∀ u, u < 65536 → u ∉ (ss (G n)).take i → mget p0 (nm u) = none) ∧ (∀ kv ∈ p0, ∃ u ∈ ss (G n), kv.1 = nm u) ∧ NoStep ((ss (G n)).take i) 0 0 p2
theorem not_before (h0 : 0 ≤ n.Start ∧ n.Start < (n.Next.length : Int)) {i j : Nat} {x : Nd} (hx : (G n)[j]? = some x) (hij : i ≤ j) : x.s ∉ (ss (G n)).take i := by
  intro hm
  obtain ⟨k, hk⟩ := List.getElem?_of_mem hm
  rw [List.getElem?_take] at hk
  split at hk
  · rename_i hki
    have h1 := ss_at hx
    have := (List.getElem?_inj (len_of hk) (G_wf h0).nodup).1 (hk.trans h1.symm)
    omega
  · cases hk
theorem Bk.next (hf : Fine n) (h0 : 0 ≤ n.Start ∧ n.Start < (n.Next.length : Int)) {i : Nat} {x : Nd} (hx : (G n)[i]? = some x) {tw : Bool} {p0 p2 : List (ByteArray × Int)} (h : Bk n i tw p0 p2) {tw' : Bool} {p2' : List (ByteArray × Int)}
    (hm : tw = false → mget p0 (nm x.s) = none → NoStep ((ss (G n)).take i) x.s 0 p2 → tw' = false ∧ NoStep ((ss (G n)).take i) x.s (row n x.s).length p2') : Bk n (i + 1) tw' (bump p0 (nm x.s)) p2' := by
  obtain ⟨h1, h2, h3, h4⟩ := h
  have h6 := hf.few
  have hxl := (G_wf h0).lt x.s (ss_mem hx)
  have hts : (ss (G n)).take (i + 1) = (ss (G n)).take i ++ [x.s] := by
    rw [List.take_add_one, ss_at hx]; rfl
  obtain ⟨m1, m2⟩ := hm h1 (h2 x.s (by omega) (not_before h0 hx (Nat.le_refl _))) (fun u j hu hj hD _ => h4 u j hu hj hD (by omega))
  refine ⟨m1, fun u hu hn => ?_, fun kv hkv => ?_, fun u j hu hj hD _ => ?_⟩
  · rw [hts, List.mem_append] at hn
    unfold bump
    rw [mget_mput, if_neg]
    · exact h2 u hu fun h => hn (.inl h)
    · intro e; exact hn (.inr (by simp [nm_inj (by omega) hu e]))
  · rcases mput_mem hkv with h | h
    · exact h3 kv h
    · exact ⟨x.s, ss_mem hx, by rw [h]⟩
  · rw [hts, List.mem_append] at hD
    refine m2 u j hu hj (fun h => hD (.inl h)) fun e => hD (.inr ?_)
    simp [e.1]
theorem out0 (hf : Fine n) (h0 : 0 ≤ n.Start ∧ n.Start < (n.Next.length : Int)) (y st : ByteArray) (lv inn : Int) (p1 : List (ByteArray × Int)) (v6 : Bool) (g2 : List (List weirref14_Move)) (g3 : List Bool) (g4 : List api_Final) (g5 : List Int) (g6 : List api_Pick) (g7 : Bool) (g8 : List (ByteArray × Int)) :
    ∀ (d i : Nat), i + d = n.Next.length → i ≤ (B n i).length → ∀ (tw : Bool) (p0 p2 : List (ByteArray × Int)) (K : List (ByteArray × explore_visit)), Known (B n i) K (vz n) → Bk n i tw p0 p2 →
    ∃ j r p0' p2', explore_walk_1.l0 lv inn (tx (G n)) (dp (G n)) g2 g3 g4 g5 g6 g7 g8 p1 st n 0 y ((tx (B n i)).drop i) 0 v6 tw p0 p2 (i : Int) K = some r ∧ Bk n j false p0' p2' ∧ (r = .inl (0, v6, false, p0', p2', ((G n).length : Int)) ∨ r = .inr (1, 2, v6, false, p0', p2', lv)) := by
  have h6 := hf.few
  have done : ∀ (i : Nat), i ≤ n.Next.length → (B n i).length = i → ∀ (tw : Bool) (p0 p2 : List (ByteArray × Int)) (K : List (ByteArray × explore_visit)), Bk n i tw p0 p2 →
    ∃ j r p0' p2', explore_walk_1.l0 lv inn (tx (G n)) (dp (G n)) g2 g3 g4 g5 g6 g7 g8 p1 st n 0 y ((tx (B n i)).drop i) 0 v6 tw p0 p2 (i : Int) K = some r ∧ Bk n j false p0' p2' ∧ (r = .inl (0, v6, false, p0', p2', ((G n).length : Int)) ∨ r = .inr (1, 2, v6, false, p0', p2', lv)) := by
    intro i hi hl tw p0 p2 K hb
    have htw := hb.1
    subst htw
    rw [explore_walk_1.l0, if_neg (nt (decide_eq_false (by rw [List.length_drop, tx_len]; omega)))]
    refine ⟨i, _, _, _, rfl, hb, .inl ?_⟩
    rw [G_of hi (by omega), hl]
  intro d
  induction d with
  | zero =>
    intro i hi hl tw p0 p2 K hK hb
    exact done i (by omega) (by have := (B_wf h0 i).len; omega) _ _ _ _ hb
  | succ d ih =>
    intro i hi hl tw p0 p2 K hK hb
    by_cases he : (B n i).length = i
    · exact done i (by omega) he _ _ _ _ hb
    · have hx : (B n i)[i]? = some ((B n i)[i]'(by omega)) := List.getElem?_eq_getElem (by omega)
      generalize (B n i)[i]'(by omega) = x at hx
      have hw := B_wf h0 i
      obtain ⟨c1, c2, c3⟩ := cut1 hx
      have hB := B_step hx
      have hG : ∃ t, G n = (succs n x.s).foldl (add x.d i) (B n i) ++ t := by rw [← hB]; exact G_pre (by omega)
      have hGi := G_at (i := i) (by omega) hx
      have hdep : ((mget K (nm x.s)).getD (⟨0, ⟨#[]⟩, ⟨0, 0, 0⟩⟩ : explore_visit)).depth = (x.d : Int) := by
        rw [hK.1 i x hx, vz_at hGi]; rfl
      have htw := hb.1
      subst htw
      have hr := r_f0 hf h0 hGi lv inn v6 g2 g3 g4 g5 g6 g7 g8 p0 p1 p2 false st (fun j y hj hy => hb.2.1 y.s (by have := (G_wf h0).lt y.s (ss_mem hy); omega) (not_before h0 hy (by omega)))
      rw [explore_walk_1.l0, if_pos (decide_eq_true (by omega)), if_pos (by omega), if_pos (by omega), if_pos rfl, c1]
      unfold explore_States_1_r.f
      rw [hdep, hr]
      by_cases hlv : (((i + 1 : Nat) : Int) == lv) = true
      · rw [if_pos hlv]
        refine ⟨i, _, p0, p2, rfl, hb, .inr ?_⟩
        rw [eq_of_beq hlv]
      · rw [if_neg hlv]
        simp only [Option.bind_eq_bind, Option.bind_some, decide_true, if_true]
        obtain ⟨tw', p2', m1, m2⟩ := moves_f hf (hw.lt x.s (ss_mem hx)) y p0 p1 p2 false ((ss (G n)).take i) (not_before h0 hGi (Nat.le_refl _))
        rw [m1, c2]
        simp only [Option.bind_some]
        obtain ⟨K', k1, k2⟩ := walk_1_l1 hf hx hw hG ((tx (B n i)).drop i) c1 (succs n x.s) [] rfl (B n i) rfl K hK
        rw [show (([] : List (api_Pick × Nat)).length : Int) = (0 : Int) from rfl] at k1
        rw [k1]
        simp only [Option.bind_some]
        rw [← hB] at k2 ⊢
        obtain ⟨t, ht⟩ := B_pre1 n i
        exact ih (i + 1) (by omega) (by have := len_of hx; rw [ht, List.length_append]; omega) _ _ _ _ k2 (hb.next hf h0 hGi m2)
theorem out1 (hf : Fine n) (h0 : 0 ≤ n.Start ∧ n.Start < (n.Next.length : Int)) (y : ByteArray) (lv inn : Int) (p1 : List (ByteArray × Int)) (v6 : Bool) (g2 : List (List weirref14_Move)) (g3 : List Bool) (g4 : List api_Final) (g5 : List Int) (g6 : List api_Pick) (g7 : Bool) (g8 : List (ByteArray × Int)) :
    ∀ (d i : Nat), i + d = n.Next.length → i ≤ (B n i).length → ∀ (tw : Bool) (p0 p2 : List (ByteArray × Int)) (K : List (ByteArray × explore_visit)), Known (B n i) K (vz n) →
    ∃ tw' p0' p2', explore_walk_1.l0 lv inn (tx (G n)) (dp (G n)) g2 g3 g4 g5 g6 g7 g8 p1 (nm n.Start.toNat) n 1 y ((tx (B n i)).drop i) 0 v6 tw p0 p2 (i : Int) K = some (.inl (0, v6, tw', p0', p2', ((G n).length : Int))) := by
  have h6 := hf.few
  have done : ∀ (i : Nat), i ≤ n.Next.length → (B n i).length = i → ∀ (tw : Bool) (p0 p2 : List (ByteArray × Int)) (K : List (ByteArray × explore_visit)),
    ∃ tw' p0' p2', explore_walk_1.l0 lv inn (tx (G n)) (dp (G n)) g2 g3 g4 g5 g6 g7 g8 p1 (nm n.Start.toNat) n 1 y ((tx (B n i)).drop i) 0 v6 tw p0 p2 (i : Int) K = some (.inl (0, v6, tw', p0', p2', ((G n).length : Int))) := by
    intro i hi hl tw p0 p2 K
    rw [explore_walk_1.l0, if_neg (nt (decide_eq_false (by rw [List.length_drop, tx_len]; omega))), G_of hi (by omega), hl]
    exact ⟨_, _, _, rfl⟩
  intro d
  induction d with
  | zero =>
    intro i hi hl tw p0 p2 K hK
    exact done i (by omega) (by have := (B_wf h0 i).len; omega) _ _ _ _
  | succ d ih =>
    intro i hi hl tw p0 p2 K hK
    by_cases he : (B n i).length = i
    · exact done i (by omega) he _ _ _ _
    · have hx : (B n i)[i]? = some ((B n i)[i]'(by omega)) := List.getElem?_eq_getElem (by omega)
      generalize (B n i)[i]'(by omega) = x at hx
      have hw := B_wf h0 i
      obtain ⟨c1, c2, c3⟩ := cut1 hx
      have hB := B_step hx
      have hG : ∃ t, G n = (succs n x.s).foldl (add x.d i) (B n i) ++ t := by rw [← hB]; exact G_pre (by omega)
      have hGi := G_at (i := i) (by omega) hx
      have hdep : ((mget K (nm x.s)).getD (⟨0, ⟨#[]⟩, ⟨0, 0, 0⟩⟩ : explore_visit)).depth = (x.d : Int) := by
        rw [hK.1 i x hx, vz_at hGi]; rfl
      obtain ⟨tw1, q0, q2, hr⟩ := r_f1 hf h0 hGi lv inn v6 g2 g3 g4 g5 g6 g7 g8 p0 p1 p2 tw
      rw [explore_walk_1.l0, if_pos (decide_eq_true (by omega)), if_pos (by omega), if_pos (by omega), if_pos rfl, c1]
      unfold explore_States_1_r.f
      rw [hdep, hr]
      simp only [Option.bind_eq_bind, Option.bind_some, decide_true, if_true]
      obtain ⟨tw', p2', m1, -⟩ := moves_f hf (hw.lt x.s (ss_mem hx)) y q0 p1 q2 tw1 [] (by simp)
      rw [m1, c2]
      simp only [Option.bind_some]
      obtain ⟨K', k1, k2⟩ := walk_1_l1 hf hx hw hG ((tx (B n i)).drop i) c1 (succs n x.s) [] rfl (B n i) rfl K hK
      rw [show (([] : List (api_Pick × Nat)).length : Int) = (0 : Int) from rfl] at k1
      rw [k1]
      simp only [Option.bind_some]
      rw [← hB] at k2 ⊢
      obtain ⟨t, ht⟩ := B_pre1 n i
      exact ih (i + 1) (by omega) (by have := len_of hx; rw [ht, List.length_append]; omega) _ _ _ _ k2
end
end Go.Proofs.Ytfiamlhhhkiiaaa.K
