/- explore.all: the graph, or that it is too much. -/
import Derived.Test.YtfiamlhhhkiiaaaEN
import Derived.Test.YtfiamlhhhkiiaaaEP
set_option linter.unusedVariables false
set_option linter.unusedSimpArgs false
namespace Go.Proofs.Ytfiamlhhhkiiaaa.K
open Go Go.RowKit
section
variable {n : weirlaw14_Net}
/-- Of the first states the moves are known. -/
def KMoves (n : weirlaw14_Net) (i : Nat) (M : List (ByteArray × List explore_edge)) : Prop := ∀ (j : Nat) (x : Nd), (G n)[j]? = some x → j < i → mget M (nm x.s) = some ((succs n x.s).map eg)
theorem KMoves.next (hf : Fine n) (h0 : 0 ≤ n.Start ∧ n.Start < (n.Next.length : Int)) {i : Nat} {x : Nd} (hx : (G n)[i]? = some x) {M : List (ByteArray × List explore_edge)} (h : KMoves n i M) : KMoves n (i + 1) (mput M (nm x.s) ((succs n x.s).map eg)) := by
  have h6 := hf.few
  intro j y hy hj
  rw [mget_mput]
  by_cases e : j = i
  · subst e
    rw [hx] at hy; cases hy
    rw [if_pos rfl]
  · rw [if_neg]
    · exact h j y hy (by omega)
    · intro e2
      have hw := G_wf h0
      have e3 := nm_inj (by have := hw.lt x.s (ss_mem hx); omega) (by have := hw.lt y.s (ss_mem hy); omega) e2
      exact e (ss_same hw hy hx e3.symm)
theorem all_l0 (hf : Fine n) (h0 : 0 ≤ n.Start ∧ n.Start < (n.Next.length : Int)) {most : Int} {m : Nat} (hmost : ∀ c : Nat, c < 70000 → ((c : Int) ≥ most ↔ m ≤ c)) (y : ByteArray) (p1 : List (ByteArray × Int)) (b : Bool) :
    ∀ (d i : Nat), i + d = n.Next.length → i ≤ (B n i).length → i ≤ m → ∀ (tw : Bool) (p0 p2 : List (ByteArray × Int)) (K : List (ByteArray × explore_visit)) (M : List (ByteArray × List explore_edge)), Known (B n i) K (vz n) → Bk n i tw p0 p2 → KMoves n i M →
    ∃ j p0' p2' M' r, explore_walk_1.l0 most y p1 n ((tx (B n i)).drop i) b (tx ((G n).take i)) M tw p0 p2 K = some r ∧ Bk n j false p0' p2' ∧
      ((r = .inr (1, false, tx ((G n).take m), M', false, p0', p2') ∧ m < (G n).length) ∨ (r = .inl (b, tx (G n), M', false, p0', p2') ∧ (G n).length ≤ m ∧ KMoves n (G n).length M')) := by
  have h6 := hf.few
  have hg := (G_wf h0).len
  have done : ∀ (i : Nat), i ≤ n.Next.length → (B n i).length = i → i ≤ m → ∀ (tw : Bool) (p0 p2 : List (ByteArray × Int)) (K : List (ByteArray × explore_visit)) (M : List (ByteArray × List explore_edge)), Bk n i tw p0 p2 → KMoves n i M →
    ∃ j p0' p2' M' r, explore_walk_1.l0 most y p1 n ((tx (B n i)).drop i) b (tx ((G n).take i)) M tw p0 p2 K = some r ∧ Bk n j false p0' p2' ∧
      ((r = .inr (1, false, tx ((G n).take m), M', false, p0', p2') ∧ m < (G n).length) ∨ (r = .inl (b, tx (G n), M', false, p0', p2') ∧ (G n).length ≤ m ∧ KMoves n (G n).length M')) := by
    intro i hi hl him tw p0 p2 K M hb hM
    have htw := hb.1
    subst htw
    have hGl : (G n).length = i := by rw [G_of hi (by omega), hl]
    rw [explore_walk_1.l0, if_neg (nt (decide_eq_false (by rw [List.length_drop, tx_len]; omega)))]
    refine ⟨i, p0, p2, M, _, rfl, hb, .inr ⟨?_, by omega, by rw [hGl]; exact hM⟩⟩
    rw [List.take_of_length_le (by omega)]
  intro d
  induction d with
  | zero =>
    intro i hi hl him tw p0 p2 K M hK hb hM
    exact done i (by omega) (by have := (B_wf h0 i).len; omega) him _ _ _ _ _ hb hM
  | succ d ih =>
    intro i hi hl him tw p0 p2 K M hK hb hM
    by_cases he : (B n i).length = i
    · exact done i (by omega) he him _ _ _ _ _ hb hM
    · have hx : (B n i)[i]? = some ((B n i)[i]'(by omega)) := List.getElem?_eq_getElem (by omega)
      generalize (B n i)[i]'(by omega) = x at hx
      have hw := B_wf h0 i
      obtain ⟨c1, c2, c3⟩ := cut1 hx
      have hB := B_step hx
      have hG : ∃ t, G n = (succs n x.s).foldl (add x.d i) (B n i) ++ t := by rw [← hB]; exact G_pre (by omega)
      have hGi := G_at (i := i) (by omega) hx
      have hGl := len_of hGi
      have htw := hb.1
      subst htw
      rw [explore_walk_1.l0, if_pos (decide_eq_true (by omega)), if_pos (by omega), if_pos (by omega), c1]
      unfold explore_all_r_1.f
      have hlen : (tx ((G n).take i)).length = i := by rw [tx_len, List.length_take]; omega
      rw [hlen]
      by_cases hm : m ≤ i
      · have em : i = m := by omega
        rw [if_pos (decide_eq_true ((hmost i (by omega)).2 hm))]
        refine ⟨i, p0, p2, M, _, rfl, hb, .inl ⟨?_, by omega⟩⟩
        rw [em]
      · rw [if_neg (nt (decide_eq_false (fun h => hm ((hmost i (by omega)).1 h))))]
        have htk : tx ((G n).take i) ++ [nm x.s] = tx ((G n).take (i + 1)) := by
          rw [List.take_add_one, hGi, tx_app]; rfl
        rw [if_pos (by rw [List.length_singleton]; omega), htk]
        simp only [Option.bind_eq_bind, Option.bind_some, decide_true, if_true]
        obtain ⟨tw', p2', m1, m2⟩ := moves_f hf (hw.lt x.s (ss_mem hx)) y p0 p1 p2 false ((ss (G n)).take i) (not_before h0 hGi (Nat.le_refl _))
        rw [m1, c2]
        unfold explore_all_1_1.f
        simp only [Option.bind_some]
        obtain ⟨K', k1, k2⟩ := walk_1_l1 hf hx hw hG ((tx (B n i)).drop i) c1 (succs n x.s) [] rfl (B n i) rfl K hK
        rw [show (([] : List (api_Pick × Nat)).length : Int) = (0 : Int) from rfl] at k1
        rw [k1]
        simp only [Option.bind_some]
        rw [← hB] at k2 ⊢
        obtain ⟨t, ht⟩ := B_pre1 n i
        exact ih (i + 1) (by omega) (by have := len_of hx; rw [ht, List.length_append]; omega) (by omega) _ _ _ _ _ k2 (hb.next hf h0 hGi m2) (hM.next hf h0 hGi)
theorem all_f (hf : Fine n) (h0 : 0 ≤ n.Start ∧ n.Start < (n.Next.length : Int)) {most : Int} {m : Nat} (hmost : ∀ c : Nat, c < 70000 → ((c : Int) ≥ most ↔ m ≤ c)) :
    ∃ p0' p2' M, (∀ kv ∈ p0', ∃ u ∈ ss (G n), kv.1 = nm u) ∧ (((G n).length ≤ m ∧ KMoves n (G n).length M ∧ explore_all.f (nm n.Start.toNat) [] [] [] false n most = some (tx (G n), M, true, false, p0', p2')) ∨ (m < (G n).length ∧ explore_all.f (nm n.Start.toNat) [] [] [] false n most = some ([], [], false, false, p0', p2'))) := by
  obtain ⟨j, p0', p2', M', r, r1, r2, r3⟩ := all_l0 hf h0 hmost (nm n.Start.toNat) [] false n.Next.length 0 (by omega) (Nat.zero_le _) (Nat.zero_le _) false [] [] _ [] (start_known hf h0) (bk0 (Nat.le_refl _)) (fun j x _ hj => absurd hj (by omega))
  have hp : explore_walk_1.l0 most (nm n.Start.toNat) [] n [nm n.Start.toNat] false [] [] false [] [] (mput [] (nm n.Start.toNat) ⟨0, ⟨#[]⟩, ⟨0, 0, 0⟩⟩) = some r := r1
  refine ⟨p0', p2', M', r2.2.2.1, ?_⟩
  unfold explore_all.f explore_walk.f explore_walk_1.f
  simp only [Option.bind_eq_bind, Option.bind_some]
  rw [hp]
  rcases r3 with ⟨rfl, hm⟩ | ⟨rfl, hm, hk⟩
  · exact .inr ⟨hm, rfl⟩
  · exact .inl ⟨hm, hk, rfl⟩
/-! ### The book of ends -/
def EBk (n : weirlaw14_Net) (i : Nat) (p1 : List (ByteArray × Int)) : Prop :=
  (∀ u, u < 65536 → u ∉ (ss (G n)).take i → mget p1 (nm u) = none) ∧ (∀ kv ∈ p1, ∃ u ∈ ss (G n), kv.1 = nm u)
theorem EBk.next (hf : Fine n) (h0 : 0 ≤ n.Start ∧ n.Start < (n.Next.length : Int)) {i : Nat} {x : Nd} (hx : (G n)[i]? = some x) {p1 : List (ByteArray × Int)} (h : EBk n i p1) : twice p1 (nm x.s) false = false ∧ EBk n (i + 1) (bump p1 (nm x.s)) := by
  have h6 := hf.few
  have hxl := (G_wf h0).lt x.s (ss_mem hx)
  have hts : (ss (G n)).take (i + 1) = (ss (G n)).take i ++ [x.s] := by
    rw [List.take_add_one, ss_at hx]; rfl
  refine ⟨twice_no (h.1 x.s (by omega) (not_before h0 hx (Nat.le_refl _))), fun u hu hn => ?_, fun kv hkv => ?_⟩
  · rw [hts, List.mem_append] at hn
    unfold bump
    rw [mget_mput, if_neg]
    · exact h.1 u hu fun h => hn (.inl h)
    · intro e; exact hn (.inr (by simp [nm_inj (by omega) hu e]))
  · rcases mput_mem hkv with h1 | h1
    · exact h.2 kv h1
    · exact ⟨x.s, ss_mem hx, by rw [h1]⟩
theorem within_g (hf : Fine n) (h0 : 0 ≤ n.Start ∧ n.Start < (n.Next.length : Int)) (p0 p1 p2 : List (ByteArray × Int)) (hk : ∀ kv ∈ p0, ∃ u ∈ ss (G n), kv.1 = nm u) (hk1 : ∀ kv ∈ p1, ∃ u ∈ ss (G n), kv.1 = nm u) : weirlaw14_Book__within.f p0 p1 p2 false (tx (G n)) = some (true, false) := by
  have h6 := hf.few
  have hw := (G_wf h0).len
  obtain ⟨K', k1, k2⟩ := within_l0 (tx (G n)) (by rw [tx_len]; omega) (tx (G n)).length 0 (by omega) [] (fun j t hj => by omega)
  unfold weirlaw14_Book__within.f
  rw [show (((0 : Nat)) : Int) = (0 : Int) from rfl] at k1
  rw [k1, if_neg (by decide)]
  simp only [Option.bind_eq_bind, Option.bind_some]
  have key : ∀ u ∈ ss (G n), mget K' (nm u) = some 1 := by
    intro u hu
    refine k2 _ ?_
    unfold tx
    obtain ⟨x, hx, e2⟩ := List.mem_map.1 hu
    exact List.mem_map.2 ⟨x, hx, by rw [e2]⟩
  have h1 : weirlaw14_Book__within.l1 K' p0 = some (.inl ()) := by
    unfold weirlaw14_Book__within.l1
    rw [rng_all]
    intro e he
    obtain ⟨u, hu, e1⟩ := hk e he
    obtain ⟨a, b⟩ := e
    show (if ((mget K' a).getD 0 == 0) = true then _ else _) = _
    rw [show a = nm u from e1, key u hu, if_neg (by decide)]
  have h2 : weirlaw14_Book__within.l2 K' p1 = some (.inl ()) := by
    unfold weirlaw14_Book__within.l2
    rw [rng_all]
    intro e he
    obtain ⟨u, hu, e1⟩ := hk1 e he
    obtain ⟨a, b⟩ := e
    show (if ((mget K' a).getD 0 == 0) = true then _ else _) = _
    rw [show a = nm u from e1, key u hu, if_neg (by decide)]
  rw [h1, h2]
  rfl
theorem reach_f (hf : Fine n) (h0 : 0 ≤ n.Start ∧ n.Start < (n.Next.length : Int)) : weirlaw14_reachable.f n = some (tx (G n)) := by
  unfold weirlaw14_reachable.f
  rw [machine_f h0.1]
  simp only [Option.bind_eq_bind, Option.bind_some]
  obtain ⟨tw', p0', p1', p2', K', M', g1, -⟩ := lay_f hf h0 (a1 := 70000) (by have := hf.few; omega) [] [] [] false
  rw [g1]
  rfl
end
end Go.Proofs.Ytfiamlhhhkiiaaa.K
