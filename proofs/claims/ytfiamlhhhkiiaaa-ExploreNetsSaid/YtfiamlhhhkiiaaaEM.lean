/- ExploreNets: the law. -/
import Derived.Test.YtfiamlhhhkiiaaaEL
import Derived.Test.YtfiamlhhhkiiaaaFE
import Derived.Test.YtfiamlhhhkiiaaaNL
import Derived.Test.YtfiamlhhhkiiaaaO
set_option linter.unusedVariables false
set_option linter.unusedSimpArgs false
namespace Go.Proofs.Ytfiamlhhhkiiaaa.K
open Go Go.RowKit
theorem same_finals (w : List api_Final) (hw : w.length ≤ 60000) : weirlaw14_sameFinals.f w w = some true := by
  have h : ∀ (d k : Nat), k + d = w.length → weirlaw14_sameFinals.l0 w w (k : Int) = some (.inl ()) := by
    intro d
    induction d with
    | zero => intro k hk; rw [weirlaw14_sameFinals.l0, if_neg (nt (decide_eq_false (by omega)))]
    | succ d ih =>
      intro k hk
      rw [weirlaw14_sameFinals.l0, if_pos (decide_eq_true (by omega)), if_pos (by omega), if_pos (by omega), if_neg (by simp), w1 (by omega)]
      exact ih (k + 1) (by omega)
  unfold weirlaw14_sameFinals.f
  rw [if_neg (by simp)]
  have := h w.length 0 (by omega)
  rw [show (((0 : Nat)) : Int) = (0 : Int) from rfl] at this
  rw [this]; rfl
section
variable {n : weirlaw14_Net}
theorem expl (hf : Fine n) (h0 : 0 ≤ n.Start ∧ n.Start < (n.Next.length : Int)) {D : List (List weirref14_Move)} (hD : MvOk n (G n) (G n).length 0 D) {M : List (ByteArray × List explore_edge)} (hM : KMoves n (G n).length M) (p0 p2 : List (ByteArray × Int)) :
    ∀ (d i : Nat), i + d = (G n).length → ∀ (fin : List api_Final) (tl : api_Tally) (p1 : List (ByteArray × Int)), fin.length ≤ i → EBk n i p1 →
    ∃ F TL p1', explore_Explore.l0 n (tx (G n)) M p0 p2 fin (i : Int) false p1 tl = some (F, TL, false, p1') ∧ weirref14_Explore.l0 (tx (G n)) D (ens n (G n)) (fis n (G n)) fin (i : Int) tl = some (F, TL) ∧ F.length ≤ (G n).length ∧ ∀ kv ∈ p1', ∃ u ∈ ss (G n), kv.1 = nm u := by
  have h6 := hf.few
  have hw := G_wf h0
  have hg := hw.len
  have l1 : (ens n (G n)).length = (G n).length := by unfold ens; simp
  have l2 : (fis n (G n)).length = (G n).length := by unfold fis; simp
  intro d
  induction d with
  | zero =>
    intro i hi fin tl p1 hfin hE
    rw [explore_Explore.l0, if_neg (nt (decide_eq_false (by rw [tx_len]; omega))), weirref14_Explore.l0, if_neg (nt (decide_eq_false (by rw [tx_len]; omega)))]
    exact ⟨_, _, _, rfl, rfl, by omega, hE.2⟩
  | succ d ih =>
    intro i hi fin tl p1 hfin hE
    have hx : (G n)[i]? = some ((G n)[i]'(by omega)) := List.getElem?_eq_getElem (by omega)
    generalize (G n)[i]'(by omega) = x at hx
    have hxs := hw.lt x.s (ss_mem hx)
    have g1 : gt (tx (G n)) (i : Int) = nm x.s := gt_map (fun x => nm x.s) hx
    have g2 : gt (ens n (G n)) (i : Int) = (mEnd n x.s).2 := gt_map (fun x => (mEnd n x.s).2) hx
    have g3 : gt (fis n (G n)) (i : Int) = (mEnd n x.s).1 := by
      unfold fis gt; rw [Int.toNat_natCast, List.getD_eq_getElem?_getD, List.getElem?_map, hx]; rfl
    have g4 : (gt D (i : Int)).length = (succs n x.s).length := by
      have := hD.2 i x hx
      rw [if_pos (by omega)] at this
      unfold gt
      rw [Int.toNat_natCast, List.getD_eq_getElem?_getD, this]
      show (mvTo n x.s _).length = _
      unfold mvTo succs; rw [List.length_map]
    have g5 : ((mget M (nm x.s)).getD []).length = (succs n x.s).length := by
      rw [hM i x hx (by omega)]; simp
    obtain ⟨t1, t2⟩ := hE.next hf h0 hx
    have hDl := hD.1
    rw [explore_Explore.l0, if_pos (decide_eq_true (by rw [tx_len]; omega)), if_pos (by rw [tx_len]; omega), g1, m3_g hf hxs, t1]
    rw [weirref14_Explore.l0, if_pos (decide_eq_true (by rw [tx_len]; omega)), if_pos (by rw [hDl]; omega), if_pos (by rw [l1]; omega), g2]
    simp only [Option.bind_eq_bind, Option.bind_some, g4, g5]
    rw [w1 (by omega)]
    cases he : (mEnd n x.s).2 with
    | true =>
      simp only [if_true]
      rw [if_pos (by rw [List.length_singleton]; omega), if_pos (by rw [l2]; omega), g3, if_pos (by rw [List.length_singleton]; omega)]
      exact ih (i + 1) (by omega) _ _ _ (by simp; omega) t2
    | false =>
      simp only [Bool.false_eq_true, if_false]
      rw [if_pos (show 0 ≤ (i : Int) ∧ (i : Int) < (D.length : Int) by rw [hDl]; omega)]
      by_cases hz : (((succs n x.s).length : Int) == 0) = true
      · rw [if_pos hz, if_pos hz]
        exact ih (i + 1) (by omega) _ _ _ (by show fin.length ≤ _; omega) t2
      · rw [if_neg hz, if_neg hz]
        exact ih (i + 1) (by omega) _ _ _ (by show fin.length ≤ _; omega) t2
theorem nets (hf : Fine n) (h0 : 0 ≤ n.Start ∧ n.Start < (n.Next.length : Int)) (a1 : Int) :
    ∃ (s : List api_Final) (TL : api_Tally) (e : Int) (p0' p1' p2' : List (ByteArray × Int)) (tw : Bool) (q0 q1 q2 : List (ByteArray × Int)), s.length ≤ 60000 ∧ (∀ kv ∈ p0', ∃ u ∈ ss (G n), kv.1 = nm u) ∧ (∀ kv ∈ p1', ∃ u ∈ ss (G n), kv.1 = nm u) ∧
      explore_Explore.f (nm n.Start.toNat) [] [] [] false n a1 = some (s, TL, e, false, p0', p1', p2') ∧
      weirref14_Explore.f (nm n.Start.toNat) [] [] [] false n (bmin a1 70000) = some (s, TL, e, tw, q0, q1, q2) := by
  have h6 := hf.few
  have hg := (G_wf h0).len
  have ha : ∀ c : Nat, (c : Int) ≥ bmin a1 70000 ↔ (bmin a1 70000).toNat ≤ c := by intro c; omega
  have hmost : ∀ c : Nat, c < 70000 → ((c : Int) ≥ a1 ↔ (bmin a1 70000).toNat ≤ c) := by
    intro c hc
    unfold bmin
    split <;> omega
  obtain ⟨tw, q0, q1, q2, Kk, D, l1, -, l3⟩ := lay_tf hf h0 ha [] [] [] false
  obtain ⟨p0', p2', M, hk, hc⟩ := all_f hf h0 hmost
  unfold explore_Explore.f weirref14_Explore.f
  rw [l1]
  simp only [Option.bind_eq_bind, Option.bind_some]
  rcases hc with ⟨hm, hM, he⟩ | ⟨hm, he⟩
  · rw [he, decide_eq_true hm, List.take_of_length_le hm]
    simp only [Option.bind_some, Bool.not_true, Bool.false_eq_true, if_false]
    obtain ⟨F, TL, p1', e1, e2, e3, e4⟩ := expl hf h0 (l3 hm) hM p0' p2' (G n).length 0 (by omega) [] ⟨((tx (G n)).length : Int), 0, 0, 0⟩ [] (Nat.le_refl _) ⟨fun u _ _ => rfl, fun kv h => (by cases h)⟩
    rw [show (((0 : Nat)) : Int) = (0 : Int) from rfl] at e1 e2
    rw [e1, e2]
    simp only [Option.bind_some]
    obtain ⟨s, s1, s2, s3⟩ := sorts F (by omega)
    rw [s1, s2]
    exact ⟨s, TL, 0, p0', p1', p2', tw, q0, q1, q2, by omega, hk, e4, rfl, rfl⟩
  · rw [he, decide_eq_false (by omega)]
    exact ⟨[], ⟨0, 0, 0, 0⟩, 1, p0', [], p2', tw, q0, q1, q2, by simp, hk, fun kv h => (by cases h), rfl, rfl⟩
end
theorem nets_law (n : weirlaw14_Net) (most : Int) (hn : ok_weirlaw14_Net n) (h1 : (Lit.int .i64 most).wf = true) : weirlaw14_ExploreNets.f n most = some true := by
  have hb : bnd ≤ 140737488355328 := by decide
  have hrow : ∀ s, (row n s).length ≤ 140737488355328 := by
    intro s
    unfold row
    rw [List.getD_eq_getElem?_getD]
    cases h : n.Next[s]? with
    | none => exact Nat.zero_le _
    | some x => have := (hn.1.2 x (List.mem_of_getElem? h)).1; show x.length ≤ _; omega
  obtain ⟨b, f1, f2⟩ := fine_f (n := n) hrow (by have := hn.1.1; omega)
  unfold weirlaw14_ExploreNets.f
  rw [f1]
  simp only [Option.bind_eq_bind, Option.bind_some]
  cases b with
  | false => rfl
  | true =>
    obtain ⟨hf, h0⟩ := f2 rfl
    obtain ⟨s, TL, e, p0', p1', p2', tw, q0, q1, q2, hs, hk, hk1, e1, e2⟩ := nets hf h0 most
    rw [if_neg (by decide), machine_f h0.1]
    simp only [Option.bind_some]
    rw [e1]
    simp only [Option.bind_some]
    rw [reach_f hf h0]
    simp only [Option.bind_some]
    rw [within_g hf h0 p0' p1' p2' hk hk1]
    simp only [Option.bind_some]
    rw [e2]
    simp only [Option.bind_some, if_true]
    rw [same_finals s hs]
    simp only [Option.bind_some, if_true, decide_true]
    unfold weirlaw14_num.f
    simp only [Option.bind_some, beq_self_eq_true, if_true]
end Go.Proofs.Ytfiamlhhhkiiaaa.K
