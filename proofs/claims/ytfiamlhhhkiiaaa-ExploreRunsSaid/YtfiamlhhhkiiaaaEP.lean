/- What the laws of Explore share: cuts of the queue, the book, what is fine. -/
import Derived.Test.YtfiamlhhhkiiaaaED
set_option linter.unusedVariables false
set_option linter.unusedSimpArgs false
namespace Go.Proofs.Ytfiamlhhhkiiaaa.K
open Go Go.RowKit
theorem seq_self (x : ByteArray) : seq x x = true := by unfold seq; exact beq_self_eq_true _
theorem tx_len (L : List Nd) : (tx L).length = L.length := by unfold tx; simp
theorem dp_len (L : List Nd) : (dp L).length = L.length := by unfold dp; simp
section
variable {n : weirlaw14_Net}
theorem cut1 {i : Nat} {L : List Nd} {x : Nd} (hx : L[i]? = some x) : gt ((tx L).drop i) 0 = nm x.s ∧ (((tx L).drop i).take ((tx L).drop i).length).drop (1 : Int).toNat = (tx L).drop (i + 1) ∧ 0 < ((tx L).drop i).length := by
  have hl := len_of hx
  refine ⟨?_, ?_, by rw [List.length_drop, tx_len]; omega⟩
  · unfold gt
    rw [List.getD_eq_getElem?_getD, show (0 : Int).toNat = 0 from rfl, List.getElem?_drop]
    unfold tx
    rw [List.getElem?_map, show i + 0 = i from rfl, hx]; rfl
  · rw [List.take_length, List.drop_drop]; rfl
theorem start_known (hf : Fine n) (h0 : 0 ≤ n.Start ∧ n.Start < (n.Next.length : Int)) : Known (B n 0) (mput ([] : List (ByteArray × explore_visit)) (nm n.Start.toNat) ⟨0, ⟨#[]⟩, ⟨0, 0, 0⟩⟩) (vz n) := by
  have h6 := hf.few
  have hG : (G n)[0]? = some ⟨n.Start.toNat, 0, -1, ⟨0, 0, 0⟩⟩ := G_at (i := 0) (by omega) rfl
  have h := Known.start (n := n) (x := ⟨n.Start.toNat, 0, -1, ⟨0, 0, 0⟩⟩) (f := vz n) (by show n.Start.toNat < _; omega)
  rw [vz_at hG] at h
  exact h
theorem G_wf (h0 : 0 ≤ n.Start ∧ n.Start < (n.Next.length : Int)) : Wf n (G n) := B_wf h0 _
def Bk (n : weirlaw14_Net) (i : Nat) (tw : Bool) (p0 p2 : List (ByteArray × Int)) : Prop :=
  tw = false ∧ (∀ u, u < 65536 → u ∉ (ss (G n)).take i → mget p0 (nm u) = none) ∧ (∀ kv ∈ p0, ∃ u ∈ ss (G n), kv.1 = nm u) ∧ NoStep ((ss (G n)).take i) 0 0 p2
theorem not_before (h0 : 0 ≤ n.Start ∧ n.Start < (n.Next.length : Int)) {i j : Nat} {x : Nd} (hx : (G n)[j]? = some x) (hij : i ≤ j) : x.s ∉ (ss (G n)).take i := by
  intro hm
  obtain ⟨k, hk⟩ := List.getElem?_of_mem hm
  rw [List.getElem?_take] at hk
  split at hk
  · rename_i hki
    have h1 := ss_at hx
    have := (List.getElem?_inj (len_of hk) (G_wf h0).nodup).1 (hk.trans h1.symm)
    omega
  · cases hk
theorem Bk.next (hf : Fine n) (h0 : 0 ≤ n.Start ∧ n.Start < (n.Next.length : Int)) {i : Nat} {x : Nd} (hx : (G n)[i]? = some x) {tw : Bool} {p0 p2 : List (ByteArray × Int)} (h : Bk n i tw p0 p2) {tw' : Bool} {p2' : List (ByteArray × Int)}
    (hm : tw = false → mget p0 (nm x.s) = none → NoStep ((ss (G n)).take i) x.s 0 p2 → tw' = false ∧ NoStep ((ss (G n)).take i) x.s (row n x.s).length p2') : Bk n (i + 1) tw' (bump p0 (nm x.s)) p2' := by
  obtain ⟨h1, h2, h3, h4⟩ := h
  have h6 := hf.few
  have hxl := (G_wf h0).lt x.s (ss_mem hx)
  have hts : (ss (G n)).take (i + 1) = (ss (G n)).take i ++ [x.s] := by
    rw [List.take_add_one, ss_at hx]; rfl
  obtain ⟨m1, m2⟩ := hm h1 (h2 x.s (by omega) (not_before h0 hx (Nat.le_refl _))) (fun u j hu hj hD _ => h4 u j hu hj hD (by omega))
  refine ⟨m1, fun u hu hn => ?_, fun kv hkv => ?_, fun u j hu hj hD _ => ?_⟩
  · rw [hts, List.mem_append] at hn
    unfold bump
    rw [mget_mput, if_neg]
    · exact h2 u hu fun h => hn (.inl h)
    · intro e; exact hn (.inr (by simp [nm_inj (by omega) hu e]))
  · rcases mput_mem hkv with h | h
    · exact h3 kv h
    · exact ⟨x.s, ss_mem hx, by rw [h]⟩
  · rw [hts, List.mem_append] at hD
    refine m2 u j hu hj (fun h => hD (.inl h)) fun e => hD (.inr ?_)
    simp [e.1]
theorem within_l0 (L : List ByteArray) (hL : L.length ≤ 60000) : ∀ (d i : Nat), i + d = L.length → ∀ (K : List (ByteArray × Int)), (∀ j t, j < i → L[j]? = some t → mget K t = some 1) →
    ∃ K', weirlaw14_Book__within.l0 L (i : Int) K = some K' ∧ ∀ t ∈ L, mget K' t = some 1 := by
  intro d
  induction d with
  | zero =>
    intro i hi K hK
    rw [weirlaw14_Book__within.l0, if_neg (nt (decide_eq_false (by omega)))]
    refine ⟨K, rfl, fun t ht => ?_⟩
    obtain ⟨j, hj⟩ := List.getElem?_of_mem ht
    exact hK j t (by have := len_of hj; omega) hj
  | succ d ih =>
    intro i hi K hK
    rw [weirlaw14_Book__within.l0, if_pos (decide_eq_true (by omega)), if_pos (by omega), w1 (by omega)]
    refine ih (i + 1) (by omega) _ fun j t hj ht => ?_
    rw [mget_mput]
    split
    · rfl
    · rename_i hne
      refine hK j t ?_ ht
      rcases Nat.lt_or_ge j i with h | h
      · exact h
      · exfalso
        have e : j = i := by omega
        subst e
        apply hne
        unfold gt
        rw [Int.toNat_natCast, List.getD_eq_getElem?_getD, ht]; rfl
theorem within_f (hf : Fine n) (h0 : 0 ≤ n.Start ∧ n.Start < (n.Next.length : Int)) (p0 p2 : List (ByteArray × Int)) (hk : ∀ kv ∈ p0, ∃ u ∈ ss (G n), kv.1 = nm u) : weirlaw14_Book__within.f p0 [] p2 false (tx (G n)) = some (true, false) := by
  have h6 := hf.few
  have hw := (G_wf h0).len
  obtain ⟨K', k1, k2⟩ := within_l0 (tx (G n)) (by rw [tx_len]; omega) (tx (G n)).length 0 (by omega) [] (fun j t hj => by omega)
  unfold weirlaw14_Book__within.f
  rw [show (((0 : Nat)) : Int) = (0 : Int) from rfl] at k1
  rw [k1, if_neg (by decide)]
  simp only [Option.bind_eq_bind, Option.bind_some]
  have h1 : weirlaw14_Book__within.l1 K' p0 = some (.inl ()) := by
    unfold weirlaw14_Book__within.l1
    rw [rng_all]
    intro e he
    obtain ⟨u, hu, e1⟩ := hk e he
    have hm : nm u ∈ tx (G n) := by
      unfold tx
      obtain ⟨x, hx, e2⟩ := List.mem_map.1 hu
      exact List.mem_map.2 ⟨x, hx, by rw [e2]⟩
    obtain ⟨a, b⟩ := e
    show (if ((mget K' a).getD 0 == 0) = true then _ else _) = _
    rw [show a = nm u from e1, k2 _ hm, if_neg (by decide)]
  have h2 : weirlaw14_Book__within.l2 K' [] = some (.inl ()) := by
    unfold weirlaw14_Book__within.l2
    rw [rng_all]
    intro e he; cases he
  rw [h1, h2]
  rfl
theorem fine_l0 (hb : ∀ s, (row n s).length ≤ 140737488355328) (hl : n.Next.length ≤ 140737488355328) : ∀ (d i : Nat), i + d = n.Next.length → ∀ (t : Nat), t ≤ 140737488555328 →
    ∃ r, weirlaw14_Net__fine.l0 n (t : Int) (i : Int) = some r ∧ ∀ t8, r = .inl t8 → t8 ≤ 200000 → ∀ s, i ≤ s → (row n s).length ≤ 60000 := by
  intro d
  induction d with
  | zero =>
    intro i hi t ht
    rw [weirlaw14_Net__fine.l0, if_neg (nt (decide_eq_false (by omega)))]
    refine ⟨_, rfl, fun t8 _ _ s hs => ?_⟩
    unfold row
    rw [List.getD_eq_getElem?_getD, List.getElem?_eq_none (by omega)]
    exact Nat.zero_le _
  | succ d ih =>
    intro i hi t ht
    have eg : gt n.Next (i : Int) = row n i := by unfold gt row; rw [Int.toNat_natCast]; rfl
    rw [weirlaw14_Net__fine.l0, if_pos (decide_eq_true (by omega))]
    by_cases h2 : (t : Int) ≤ 200000
    · rw [if_pos (decide_eq_true h2), if_pos (by omega), if_pos (by omega), eg]
      by_cases h3 : ((row n i).length : Int) > 60000
      · rw [if_pos (decide_eq_true h3)]
        exact ⟨_, rfl, fun t8 h => by cases h⟩
      · rw [if_neg (nt (decide_eq_false h3)), w1 (by omega)]
        have ew : IntKind.i64.wrap ((t : Int) + ((row n i).length : Int)) = ((t + (row n i).length : Nat) : Int) := by
          rw [wi64_id (by omega) (by have := hb i; omega)]; omega
        rw [ew]
        obtain ⟨r, h4, h5⟩ := ih (i + 1) (by omega) (t + (row n i).length) (by omega)
        refine ⟨r, h4, fun t8 e h s hs => ?_⟩
        rcases Nat.eq_or_lt_of_le hs with rfl | hs
        · omega
        · exact h5 t8 e h s hs
    · rw [if_neg (nt (decide_eq_false h2))]
      refine ⟨_, rfl, fun t8 e h => ?_⟩
      cases e; omega
theorem fine_f (hb : ∀ s, (row n s).length ≤ 140737488355328) (hl : n.Next.length ≤ 140737488355328) : ∃ b, weirlaw14_Net__fine.f n = some b ∧ (b = true → Fine n ∧ 0 ≤ n.Start ∧ n.Start < (n.Next.length : Int)) := by
  obtain ⟨r, h1, h2⟩ := fine_l0 hb hl n.Next.length 0 (by omega) 0 (by omega)
  rw [show (((0 : Nat)) : Int) = (0 : Int) from rfl] at h1
  unfold weirlaw14_Net__fine.f
  rw [h1]
  cases r with
  | inr e =>
    refine ⟨e, rfl, fun he => ?_⟩
    exfalso
    subst he
    -- it leaves the loop with false alone
    have key : ∀ (d i : Nat), i + d = n.Next.length → ∀ (t : Int), weirlaw14_Net__fine.l0 n t (i : Int) ≠ some (.inr true) := by
      intro d
      induction d with
      | zero => intro i hi t h; rw [weirlaw14_Net__fine.l0, if_neg (nt (decide_eq_false (by omega)))] at h; cases h
      | succ d ih =>
        intro i hi t h
        rw [weirlaw14_Net__fine.l0, if_pos (decide_eq_true (by omega))] at h
        split at h
        · rw [if_pos (by omega), if_pos (by omega)] at h
          split at h
          · cases h
          · rw [w1 (by omega)] at h
            exact ih (i + 1) (by omega) _ h
        · cases h
    exact key n.Next.length 0 (by omega) 0 h1
  | inl t8 =>
    simp only [Option.bind_eq_bind, Option.bind_some]
    by_cases a : (n.Next.length : Int) ≤ 60000
    · rw [if_pos (decide_eq_true a)]
      by_cases b : t8 ≤ 200000
      · rw [if_pos (decide_eq_true b)]
        by_cases c : n.Start ≥ 0
        · rw [if_pos (decide_eq_true c)]
          by_cases e : n.Start < (n.Next.length : Int)
          · rw [if_pos (decide_eq_true e)]
            exact ⟨true, rfl, fun _ => ⟨⟨by omega, fun s => h2 t8 rfl b s (Nat.zero_le _)⟩, c, e⟩⟩
          · rw [if_neg (nt (decide_eq_false e))]; exact ⟨false, rfl, fun h => by cases h⟩
        · rw [if_neg (nt (decide_eq_false c))]; exact ⟨false, rfl, fun h => by cases h⟩
      · rw [if_neg (nt (decide_eq_false b))]; exact ⟨false, rfl, fun h => by cases h⟩
    · rw [if_neg (nt (decide_eq_false a))]; exact ⟨false, rfl, fun h => by cases h⟩
theorem machine_f (h0 : 0 ≤ n.Start) : weirlaw14_Net__machine.f n = some (nm n.Start.toNat, [], [], [], false, n) := by
  unfold weirlaw14_Net__machine.f
  have h := name_f n.Start.toNat
  rw [Int.toNat_of_nonneg h0] at h
  rw [h]
  rfl
theorem bk0 (h : (0 : Nat) ≤ 0) : Bk n 0 false [] [] := ⟨rfl, fun u _ _ => rfl, fun kv h => (by cases h), fun u j _ _ _ _ => rfl⟩
end
end Go.Proofs.Ytfiamlhhhkiiaaa.K
