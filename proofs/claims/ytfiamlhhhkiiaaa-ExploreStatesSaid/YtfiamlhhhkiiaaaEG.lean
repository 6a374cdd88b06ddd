/- ExploreStates: the law, whole. -/
import Derived.Test.YtfiamlhhhkiiaaaEF
import Derived.Test.YtfiamlhhhkiiaaaNL
import Derived.Test.YtfiamlhhhkiiaaaO
set_option linter.unusedVariables false
set_option linter.unusedSimpArgs false
namespace Go.Proofs.Ytfiamlhhhkiiaaa.K
open Go Go.RowKit
section
variable {n : weirlaw14_Net}
theorem within_l0 (L : List ByteArray) (hL : L.length ≤ 60000) : ∀ (d i : Nat), i + d = L.length → ∀ (K : List (ByteArray × Int)), (∀ j t, j < i → L[j]? = some t → mget K t = some 1) →
    ∃ K', weirlaw14_Book__within.l0 L (i : Int) K = some K' ∧ ∀ t ∈ L, mget K' t = some 1 := by
  intro d
  induction d with
  | zero =>
    intro i hi K hK
    rw [weirlaw14_Book__within.l0, if_neg (nt (decide_eq_false (by omega)))]
    refine ⟨K, rfl, fun t ht => ?_⟩
    obtain ⟨j, hj⟩ := List.getElem?_of_mem ht
    exact hK j t (by have := len_of hj; omega) hj
  | succ d ih =>
    intro i hi K hK
    rw [weirlaw14_Book__within.l0, if_pos (decide_eq_true (by omega)), if_pos (by omega), w1 (by omega)]
    refine ih (i + 1) (by omega) _ fun j t hj ht => ?_
    rw [mget_mput]
    split
    · rfl
    · rename_i hne
      refine hK j t ?_ ht
      rcases Nat.lt_or_ge j i with h | h
      · exact h
      · exfalso
        have e : j = i := by omega
        subst e
        apply hne
        unfold gt
        rw [Int.toNat_natCast, List.getD_eq_getElem?_getD, ht]; rfl
theorem within_f (hf : Fine n) (h0 : 0 ≤ n.Start ∧ n.Start < (n.Next.length : Int)) (p0 p2 : List (ByteArray × Int)) (hk : ∀ kv ∈ p0, ∃ u ∈ ss (G n), kv.1 = nm u) : weirlaw14_Book__within.f p0 [] p2 false (tx (G n)) = some (true, false) := by
  have h6 := hf.few
  have hw := (G_wf h0).len
  obtain ⟨K', k1, k2⟩ := within_l0 (tx (G n)) (by rw [tx_len]; omega) (tx (G n)).length 0 (by omega) [] (fun j t hj => by omega)
  unfold weirlaw14_Book__within.f
  rw [show (((0 : Nat)) : Int) = (0 : Int) from rfl] at k1
  rw [k1, if_neg (by decide)]
  simp only [Option.bind_eq_bind, Option.bind_some]
  have h1 : weirlaw14_Book__within.l1 K' p0 = some (.inl ()) := by
    unfold weirlaw14_Book__within.l1
    rw [rng_all]
    intro e he
    obtain ⟨u, hu, e1⟩ := hk e he
    have hm : nm u ∈ tx (G n) := by
      unfold tx
      obtain ⟨x, hx, e2⟩ := List.mem_map.1 hu
      exact List.mem_map.2 ⟨x, hx, by rw [e2]⟩
    obtain ⟨a, b⟩ := e
    show (if ((mget K' a).getD 0 == 0) = true then _ else _) = _
    rw [show a = nm u from e1, k2 _ hm, if_neg (by decide)]
  have h2 : weirlaw14_Book__within.l2 K' [] = some (.inl ()) := by
    unfold weirlaw14_Book__within.l2
    rw [rng_all]
    intro e he; cases he
  rw [h1, h2]
  rfl
theorem fine_l0 (hb : ∀ s, (row n s).length ≤ 140737488355328) (hl : n.Next.length ≤ 140737488355328) : ∀ (d i : Nat), i + d = n.Next.length → ∀ (t : Nat), t ≤ 140737488555328 →
    ∃ r, weirlaw14_Net__fine.l0 n (t : Int) (i : Int) = some r ∧ ∀ t8, r = .inl t8 → t8 ≤ 200000 → ∀ s, i ≤ s → (row n s).length ≤ 60000 := by
  intro d
  induction d with
  | zero =>
    intro i hi t ht
    rw [weirlaw14_Net__fine.l0, if_neg (nt (decide_eq_false (by omega)))]
    refine ⟨_, rfl, fun t8 _ _ s hs => ?_⟩
    unfold row
    rw [List.getD_eq_getElem?_getD, List.getElem?_eq_none (by omega)]
    exact Nat.zero_le _
  | succ d ih =>
    intro i hi t ht
    have eg : gt n.Next (i : Int) = row n i := by unfold gt row; rw [Int.toNat_natCast]; rfl
    rw [weirlaw14_Net__fine.l0, if_pos (decide_eq_true (by omega))]
    by_cases h2 : (t : Int) ≤ 200000
    · rw [if_pos (decide_eq_true h2), if_pos (by omega), if_pos (by omega), eg]
      by_cases h3 : ((row n i).length : Int) > 60000
      · rw [if_pos (decide_eq_true h3)]
        exact ⟨_, rfl, fun t8 h => by cases h⟩
      · rw [if_neg (nt (decide_eq_false h3)), w1 (by omega)]
        have ew : IntKind.i64.wrap ((t : Int) + ((row n i).length : Int)) = ((t + (row n i).length : Nat) : Int) := by
          rw [wi64_id (by omega) (by have := hb i; omega)]; omega
        rw [ew]
        obtain ⟨r, h4, h5⟩ := ih (i + 1) (by omega) (t + (row n i).length) (by omega)
        refine ⟨r, h4, fun t8 e h s hs => ?_⟩
        rcases Nat.eq_or_lt_of_le hs with rfl | hs
        · omega
        · exact h5 t8 e h s hs
    · rw [if_neg (nt (decide_eq_false h2))]
      refine ⟨_, rfl, fun t8 e h => ?_⟩
      cases e; omega
theorem fine_f (hb : ∀ s, (row n s).length ≤ 140737488355328) (hl : n.Next.length ≤ 140737488355328) : ∃ b, weirlaw14_Net__fine.f n = some b ∧ (b = true → Fine n ∧ 0 ≤ n.Start ∧ n.Start < (n.Next.length : Int)) := by
  obtain ⟨r, h1, h2⟩ := fine_l0 hb hl n.Next.length 0 (by omega) 0 (by omega)
  rw [show (((0 : Nat)) : Int) = (0 : Int) from rfl] at h1
  unfold weirlaw14_Net__fine.f
  rw [h1]
  cases r with
  | inr e =>
    refine ⟨e, rfl, fun he => ?_⟩
    exfalso
    subst he
    -- it leaves the loop with false alone
    have key : ∀ (d i : Nat), i + d = n.Next.length → ∀ (t : Int), weirlaw14_Net__fine.l0 n t (i : Int) ≠ some (.inr true) := by
      intro d
      induction d with
      | zero => intro i hi t h; rw [weirlaw14_Net__fine.l0, if_neg (nt (decide_eq_false (by omega)))] at h; cases h
      | succ d ih =>
        intro i hi t h
        rw [weirlaw14_Net__fine.l0, if_pos (decide_eq_true (by omega))] at h
        split at h
        · rw [if_pos (by omega), if_pos (by omega)] at h
          split at h
          · cases h
          · rw [w1 (by omega)] at h
            exact ih (i + 1) (by omega) _ h
        · cases h
    exact key n.Next.length 0 (by omega) 0 h1
  | inl t8 =>
    simp only [Option.bind_eq_bind, Option.bind_some]
    by_cases a : (n.Next.length : Int) ≤ 60000
    · rw [if_pos (decide_eq_true a)]
      by_cases b : t8 ≤ 200000
      · rw [if_pos (decide_eq_true b)]
        by_cases c : n.Start ≥ 0
        · rw [if_pos (decide_eq_true c)]
          by_cases e : n.Start < (n.Next.length : Int)
          · rw [if_pos (decide_eq_true e)]
            exact ⟨true, rfl, fun _ => ⟨⟨by omega, fun s => h2 t8 rfl b s (Nat.zero_le _)⟩, c, e⟩⟩
          · rw [if_neg (nt (decide_eq_false e))]; exact ⟨false, rfl, fun h => by cases h⟩
        · rw [if_neg (nt (decide_eq_false c))]; exact ⟨false, rfl, fun h => by cases h⟩
      · rw [if_neg (nt (decide_eq_false b))]; exact ⟨false, rfl, fun h => by cases h⟩
    · rw [if_neg (nt (decide_eq_false a))]; exact ⟨false, rfl, fun h => by cases h⟩
theorem machine_f (h0 : 0 ≤ n.Start) : weirlaw14_Net__machine.f n = some (nm n.Start.toNat, [], [], [], false, n) := by
  unfold weirlaw14_Net__machine.f
  have h := name_f n.Start.toNat
  rw [Int.toNat_of_nonneg h0] at h
  rw [h]
  rfl
theorem bk0 (h : (0 : Nat) ≤ 0) : Bk n 0 false [] [] := ⟨rfl, fun u _ _ => rfl, fun kv h => (by cases h), fun u j _ _ _ _ => rfl⟩
theorem states_1_0 (hf : Fine n) (h0 : 0 ≤ n.Start ∧ n.Start < (n.Next.length : Int)) (lv inn : Int) (v6 : Bool) (g2 : List (List weirref14_Move)) (g3 : List Bool) (g4 : List api_Final) (g5 : List Int) (g6 : List api_Pick) (g7 : Bool) (g8 p1 : List (ByteArray × Int)) :
    ∃ j r p0' p2', explore_States_1.f lv inn v6 (tx (G n)) (dp (G n)) g2 g3 g4 g5 g6 g7 g8 [] p1 [] false (nm n.Start.toNat) n 0 0 = some r ∧ Bk n j false p0' p2' ∧ (r = (0, v6, false, p0', p2', ((G n).length : Int)) ∨ r = (2, v6, false, p0', p2', lv)) := by
  obtain ⟨j, r, p0', p2', h1, h2, h3⟩ := out0 hf h0 (nm n.Start.toNat) (nm n.Start.toNat) lv inn p1 v6 g2 g3 g4 g5 g6 g7 g8 n.Next.length 0 (by omega) (Nat.zero_le _) false [] [] _ (start_known hf h0) (bk0 (Nat.le_refl _))
  unfold explore_States_1.f explore_walk.f explore_walk_1.f
  rw [show (((0 : Nat)) : Int) = (0 : Int) from rfl] at h1
  simp only [Option.bind_eq_bind, Option.bind_some]
  rw [show explore_walk_1.l0 lv inn (tx (G n)) (dp (G n)) g2 g3 g4 g5 g6 g7 g8 p1 (nm n.Start.toNat) n 0 (nm n.Start.toNat) [nm n.Start.toNat] 0 v6 false [] [] 0 (mput [] (nm n.Start.toNat) ⟨0, ⟨#[]⟩, ⟨0, 0, 0⟩⟩) = _ from h1]
  rcases h3 with rfl | rfl
  · exact ⟨j, _, p0', p2', rfl, h2, .inl rfl⟩
  · exact ⟨j, _, p0', p2', rfl, h2, .inr rfl⟩
theorem states_1_1 (hf : Fine n) (h0 : 0 ≤ n.Start ∧ n.Start < (n.Next.length : Int)) (lv inn : Int) (v6 : Bool) (g2 : List (List weirref14_Move)) (g3 : List Bool) (g4 : List api_Final) (g5 : List Int) (g6 : List api_Pick) (g7 : Bool) (g8 p0 p1 p2 : List (ByteArray × Int)) (tw : Bool) :
    ∃ tw' p0' p2', explore_States_1.f lv inn v6 (tx (G n)) (dp (G n)) g2 g3 g4 g5 g6 g7 g8 p0 p1 p2 tw (nm n.Start.toNat) n 1 0 = some (0, v6, tw', p0', p2', ((G n).length : Int)) := by
  obtain ⟨tw', p0', p2', h1⟩ := out1 hf h0 (nm n.Start.toNat) lv inn p1 v6 g2 g3 g4 g5 g6 g7 g8 n.Next.length 0 (by omega) (Nat.zero_le _) tw p0 p2 _ (start_known hf h0)
  unfold explore_States_1.f explore_walk.f explore_walk_1.f
  rw [show (((0 : Nat)) : Int) = (0 : Int) from rfl] at h1
  simp only [Option.bind_eq_bind, Option.bind_some]
  rw [show explore_walk_1.l0 lv inn (tx (G n)) (dp (G n)) g2 g3 g4 g5 g6 g7 g8 p1 (nm n.Start.toNat) n 1 (nm n.Start.toNat) [nm n.Start.toNat] 0 v6 tw p0 p2 0 (mput [] (nm n.Start.toNat) ⟨0, ⟨#[]⟩, ⟨0, 0, 0⟩⟩) = _ from h1]
  exact ⟨_, _, _, rfl⟩
theorem law_l0 (hf : Fine n) (h0 : 0 ≤ n.Start ∧ n.Start < (n.Next.length : Int)) (lv inn : Int) (g2 : List (List weirref14_Move)) (g3 : List Bool) (g4 : List api_Final) (g5 : List Int) (g6 : List api_Pick) (g7 : Bool) (g8 : List (ByteArray × Int)) :
    weirlaw14_ExploreStates.l0 lv inn (tx (G n)) (dp (G n)) g2 g3 g4 g5 g6 g7 g8 [] n (nm n.Start.toNat) 0 false false [] [] = some (.inl false) := by
  have last : ∀ (tw : Bool) (p0 p2 : List (ByteArray × Int)), weirlaw14_ExploreStates.l0 lv inn (tx (G n)) (dp (G n)) g2 g3 g4 g5 g6 g7 g8 [] n (nm n.Start.toNat) 1 false tw p0 p2 = some (.inl false) := by
    intro tw p0 p2
    obtain ⟨tw', p0', p2', h⟩ := states_1_1 hf h0 lv inn false g2 g3 g4 g5 g6 g7 g8 p0 [] p2 tw
    rw [weirlaw14_ExploreStates.l0, if_pos (by decide), h]
    simp only [Option.bind_eq_bind, Option.bind_some, decide_true, if_true, show ((1 : Int) == 0) = false from rfl, Bool.false_eq_true, if_false, tx_len, bne_self_eq_false]
    rw [show IntKind.i64.wrap (1 + 1) = 2 by decide, weirlaw14_ExploreStates.l0, if_neg (by decide)]
  obtain ⟨j, r, p0', p2', h1, h2, h3⟩ := states_1_0 hf h0 lv inn false g2 g3 g4 g5 g6 g7 g8 []
  have hwi := within_f hf h0 p0' p2' h2.2.2.1
  rw [weirlaw14_ExploreStates.l0, if_pos (by decide), h1]
  simp only [Option.bind_eq_bind, Option.bind_some]
  rcases h3 with rfl | rfl
  · simp only [decide_true, if_true, show ((0 : Int) == 0) = true from rfl, hwi, Option.bind_some, Bool.not_true, Bool.false_eq_true, if_false, tx_len, bne_self_eq_false]
    rw [show IntKind.i64.wrap (0 + 1) = 1 by decide]
    exact last _ _ _
  · simp only [show decide ((2 : Int) = 0) = false from rfl, show decide ((2 : Int) = 1) = false from rfl, if_true, show ((0 : Int) == 0) = true from rfl, show ((0 : Int) == 1) = false from rfl, hwi, Option.bind_some, Bool.not_true, Bool.false_eq_true, if_false, tx_len, bne_self_eq_false, ite_self]
    rw [show IntKind.i64.wrap (0 + 1) = 1 by decide]
    exact last _ _ _
end
theorem states_law (n : weirlaw14_Net) (lv inn : Int) (hn : ok_weirlaw14_Net n) (h1 : (Lit.int .i64 lv).wf = true) (h2 : (Lit.int .i64 inn).wf = true) : weirlaw14_ExploreStates.f n lv inn = some true := by
  have hb : bnd ≤ 140737488355328 := by decide
  have hrow : ∀ s, (row n s).length ≤ 140737488355328 := by
    intro s
    unfold row
    rw [List.getD_eq_getElem?_getD]
    cases h : n.Next[s]? with
    | none => exact Nat.zero_le _
    | some x => have := (hn.1.2 x (List.mem_of_getElem? h)).1; show x.length ≤ _; omega
  obtain ⟨b, f1, f2⟩ := fine_f (n := n) hrow (by have := hn.1.1; omega)
  unfold weirlaw14_ExploreStates.f
  rw [f1]
  simp only [Option.bind_eq_bind, Option.bind_some]
  cases b with
  | false => rfl
  | true =>
    obtain ⟨hf, h0⟩ := f2 rfl
    rw [if_neg (by decide), machine_f h0.1]
    simp only [Option.bind_some]
    obtain ⟨tw', p0', p1', p2', K', M', g1, -⟩ := lay_f hf h0 (a1 := 70000) (by have := hf.few; omega) [] [] [] false
    rw [g1]
    simp only [Option.bind_some]
    unfold explore_States.f
    simp only [Option.bind_some]
    rw [law_l0 hf h0]
    rfl
end Go.Proofs.Ytfiamlhhhkiiaaa.K
