/- ExploreWay: the law. -/
import Derived.Test.YtfiamlhhhkiiaaaEJ
import Derived.Test.YtfiamlhhhkiiaaaNL
import Derived.Test.YtfiamlhhhkiiaaaO
set_option linter.unusedVariables false
set_option linter.unusedSimpArgs false
namespace Go.Proofs.Ytfiamlhhhkiiaaa.K
open Go Go.RowKit
theorem same_picks (w : List api_Pick) (hw : w.length ≤ 60000) : weirlaw11_SamePicks.f w w = some true := by
  have h : ∀ (d k : Nat), k + d = w.length → weirlaw11_SamePicks.l0 w w (k : Int) = some (.inl ()) := by
    intro d
    induction d with
    | zero => intro k hk; rw [weirlaw11_SamePicks.l0, if_neg (nt (decide_eq_false (by omega)))]
    | succ d ih =>
      intro k hk
      rw [weirlaw11_SamePicks.l0, if_pos (decide_eq_true (by omega)), if_pos (by omega), if_pos (by omega), if_neg (by simp), w1 (by omega)]
      exact ih (k + 1) (by omega)
  unfold weirlaw11_SamePicks.f
  rw [if_neg (by simp)]
  have := h w.length 0 (by omega)
  rw [show (((0 : Nat)) : Int) = (0 : Int) from rfl] at this
  rw [this]; rfl
section
variable {n : weirlaw14_Net}
theorem asked_l1 (c : Nat) (hc : c ≤ (G n).length) (hg : (G n).length ≤ 60000) : ∀ (d k : Nat), k + d = c → weirlaw14_ExploreWay.l1 (tx ((G n).take c)) (tx (G n)) (c : Int) (k : Int) = some (.inl ()) := by
  intro d
  induction d with
  | zero => intro k hk; rw [weirlaw14_ExploreWay.l1, if_neg (nt (decide_eq_false (by omega)))]
  | succ d ih =>
    intro k hk
    have hx : (G n)[k]? = some ((G n)[k]'(by omega)) := List.getElem?_eq_getElem (by omega)
    generalize (G n)[k]'(by omega) = x at hx
    have hT : ((G n).take c)[k]? = some x := by rw [List.getElem?_take, if_pos (by omega)]; exact hx
    have g1 : gt (tx (G n)) (k : Int) = nm x.s := gt_map (fun x => nm x.s) hx
    have g2 : gt (tx ((G n).take c)) (k : Int) = nm x.s := gt_map (fun x => nm x.s) hT
    rw [weirlaw14_ExploreWay.l1, if_pos (decide_eq_true (by omega)), if_pos (by rw [tx_len, List.length_take]; omega), if_pos (by rw [tx_len]; omega), g1, g2, seq_self, if_neg (by decide), w1 (by omega)]
    exact ih (k + 1) (by omega)
theorem reach_f (hf : Fine n) (h0 : 0 ≤ n.Start ∧ n.Start < (n.Next.length : Int)) : weirlaw14_reachable.f n = some (tx (G n)) := by
  unfold weirlaw14_reachable.f
  rw [machine_f h0.1]
  simp only [Option.bind_eq_bind, Option.bind_some]
  obtain ⟨tw', p0', p1', p2', K', M', g1, -⟩ := lay_f hf h0 (a1 := 70000) (by have := hf.few; omega) [] [] [] false
  rw [g1]
  rfl
/-- The program's Way and the document's: alike. -/
theorem ways (hf : Fine n) (h0 : 0 ≤ n.Start ∧ n.Start < (n.Next.length : Int)) (a1 : Int) {T : List ByteArray} {W : List (ByteArray × Int)} (hT : T.length ≤ 100) (hGo : Goals T W) :
    ∃ (c : Nat) (w : List api_Pick) (e : Int) (p0' p2' : List (ByteArray × Int)) (tw : Bool) (q0 q1 q2 : List (ByteArray × Int)), c ≤ (G n).length ∧ w.length ≤ 60000 ∧ (∀ kv ∈ p0', ∃ u ∈ ss (G n), kv.1 = nm u) ∧
      explore_Way.f (nm n.Start.toNat) [] [] [] false n a1 [] W = some (w, e, false, p0', p2', tx ((G n).take c)) ∧
      weirref14_Way.f (nm n.Start.toNat) [] [] [] false n (bmin a1 70000) T = some (w, (c : Int), e, tw, q0, q1, q2) := by
  have h6 := hf.few
  have hg := (G_wf h0).len
  have ha : ∀ c : Nat, (c : Int) ≥ bmin a1 70000 ↔ (bmin a1 70000).toNat ≤ c := by intro c; omega
  have hmost : ∀ c : Nat, c < 70000 → ((c : Int) ≥ a1 ↔ (bmin a1 70000).toNat ≤ c) := by
    intro c hc
    unfold bmin
    split <;> omega
  obtain ⟨tw, q0, q1, q2, Kk, M, l1, -⟩ := lay_tf hf h0 ha [] [] [] false
  obtain ⟨j, p0', p2', r, r1, r2, r3⟩ := way_walk hf h0 hmost (nm n.Start.toNat) [] hT hGo (dp ((G n).take (bmin a1 70000).toNat)) M (ens n ((G n).take (bmin a1 70000).toNat)) (fis n ((G n).take (bmin a1 70000).toNat)) (decide ((G n).length ≤ (bmin a1 70000).toNat)) Kk tw q0 q1 q2 n.Next.length 0 (by omega) (Nat.zero_le _) (Nat.zero_le _) false [] [] _ (start_known hf h0) (bk0 (Nat.le_refl _))
  rw [show (((0 : Nat)) : Int) = (0 : Int) from rfl] at r1 r3
  have hp : explore_walk_1.l0 (nm n.Start.toNat) [] n a1 W (nm n.Start.toNat) [nm n.Start.toNat] false [] [] [] [] 0 0 (mput [] (nm n.Start.toNat) ⟨0, ⟨#[]⟩, ⟨0, 0, 0⟩⟩) = some r := r1
  unfold explore_Way.f explore_walk.f explore_walk_1.f weirref14_Way.f
  rw [l1]
  simp only [Option.bind_eq_bind, Option.bind_some]
  rw [hp]
  rcases r3 with ⟨c, w, hc, hw, rfl, hd⟩ | ⟨hd, hr⟩
  · rw [hd]
    exact ⟨c + 1, w, 0, p0', p2', tw, q0, q1, q2, by omega, hw, r2.2.2.1, rfl, rfl⟩
  · rw [hd]
    rcases hr with ⟨rfl, hm⟩ | ⟨rfl, hm⟩
    · refine ⟨(bmin a1 70000).toNat, [], 1, p0', p2', tw, q0, q1, q2, by omega, by simp, r2.2.2.1, rfl, ?_⟩
      simp only [Option.bind_some]
      rw [decide_eq_false (by omega), if_pos (show (!false) = true from rfl), tx_len, List.length_take, Nat.min_eq_left (by omega)]
    · refine ⟨(G n).length, [], 3, p0', p2', tw, q0, q1, q2, by omega, by simp, r2.2.2.1, ?_, ?_⟩
      · rw [List.take_length]; rfl
      · simp only [Option.bind_some]
        rw [decide_eq_true hm, if_neg (show ¬ (!true) = true by decide), tx_len, List.length_take, Nat.min_eq_right hm]
end
theorem way_law (n : weirlaw14_Net) (most : Int) (goals : List Int) (hn : ok_weirlaw14_Net n) (h1 : (Lit.int .i64 most).wf = true) (h2 : goals.length * 8 ≤ bnd ∧ ∀ x ∈ goals, (Lit.int .i64 x).wf = true) : weirlaw14_ExploreWay.f n most goals = some true := by
  have hb : bnd ≤ 140737488355328 := by decide
  have hrow : ∀ s, (row n s).length ≤ 140737488355328 := by
    intro s
    unfold row
    rw [List.getD_eq_getElem?_getD]
    cases h : n.Next[s]? with
    | none => exact Nat.zero_le _
    | some x => have := (hn.1.2 x (List.mem_of_getElem? h)).1; show x.length ≤ _; omega
  obtain ⟨b, f1, f2⟩ := fine_f (n := n) hrow (by have := hn.1.1; omega)
  unfold weirlaw14_ExploreWay.f
  rw [f1]
  simp only [Option.bind_eq_bind, Option.bind_some]
  cases b with
  | false => rfl
  | true =>
    obtain ⟨hf, h0⟩ := f2 rfl
    have h6 := hf.few
    have hg := (G_wf h0).len
    obtain ⟨T, W, g1, hT, hGo⟩ := goals_l0 (n := n) goals 100 0 (by omega) [] [] (Nat.le_refl _) ⟨fun t h => (by cases h), fun t _ => rfl⟩
    rw [show (((0 : Nat)) : Int) = (0 : Int) from rfl] at g1
    rw [if_neg (by decide), g1]
    simp only [Option.bind_some]
    rw [machine_f h0.1]
    simp only [Option.bind_some]
    obtain ⟨c, w, e, p0', p2', tw, q0, q1, q2, hc, hw, hk, e1, e2⟩ := ways hf h0 most hT hGo
    rw [e1]
    simp only [Option.bind_some]
    rw [reach_f hf h0]
    simp only [Option.bind_some]
    rw [within_f hf h0 p0' p2' hk]
    simp only [Option.bind_some, Bool.not_true, Bool.false_eq_true, if_false]
    rw [e2]
    simp only [Option.bind_some]
    rw [same_picks w hw]
    simp only [Option.bind_some, Bool.not_true, Bool.false_eq_true, if_false]
    unfold weirlaw14_num.f
    simp only [Option.bind_some, bne_self_eq_false, Bool.false_eq_true, if_false]
    have hl := asked_l1 c hc (by omega) c 0 (by omega)
    rw [show (((0 : Nat)) : Int) = (0 : Int) from rfl] at hl
    rw [tx_len, List.length_take, Nat.min_eq_left hc, if_neg (by simp), hl]
    rfl
end Go.Proofs.Ytfiamlhhhkiiaaa.K
