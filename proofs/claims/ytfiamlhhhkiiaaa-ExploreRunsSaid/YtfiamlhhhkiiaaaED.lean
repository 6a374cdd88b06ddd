/- The document's Lay, whole; the program's moves and how it comes to know states. -/
import Derived.Test.YtfiamlhhhkiiaaaEC
set_option linter.unusedVariables false
set_option linter.unusedSimpArgs false
namespace Go.Proofs.Ytfiamlhhhkiiaaa.K
open Go Go.RowKit
section
variable {n : weirlaw14_Net}
theorem lay_l0 (hf : Fine n) (h0 : 0 ≤ n.Start ∧ n.Start < (n.Next.length : Int)) {a1 : Int} (ha : (n.Next.length : Int) ≤ a1) (y43 : ByteArray) (wh : Bool) :
    ∀ (d i : Nat), i + d = n.Next.length → ∀ (tw : Bool) (p0 p1 p2 K : List (ByteArray × Int)) (M : List (List weirref14_Move)), Known (B n i) K (fun j => (j : Int)) → MvOk n (B n i) i 0 M →
    ∃ tw' p0' p1' p2' K' M', weirref14_Lay.l0 y43 n a1 (i : Int) tw p0 p1 p2 K (tx (B n i)) (dp (B n i)) M (ens n (B n i)) (fis n (B n i)) (frs (B n i)) (bys (B n i)) wh = some (tx (G n), dp (G n), M', ens n (G n), fis n (G n), frs (G n), bys (G n), wh, K', tw', p0', p1', p2') ∧ MvOk n (G n) (G n).length 0 M' := by
  have h6 := hf.few
  have done : ∀ (i : Nat), i ≤ n.Next.length → (B n i).length ≤ i → ∀ (tw : Bool) (p0 p1 p2 K : List (ByteArray × Int)) (M : List (List weirref14_Move)), MvOk n (B n i) i 0 M →
    ∃ tw' p0' p1' p2' K' M', weirref14_Lay.l0 y43 n a1 (i : Int) tw p0 p1 p2 K (tx (B n i)) (dp (B n i)) M (ens n (B n i)) (fis n (B n i)) (frs (B n i)) (bys (B n i)) wh = some (tx (G n), dp (G n), M', ens n (G n), fis n (G n), frs (G n), bys (G n), wh, K', tw', p0', p1', p2') ∧ MvOk n (G n) (G n).length 0 M' := by
    intro i hi hl tw p0 p1 p2 K M hM
    have e1 : (tx (B n i)).length = (B n i).length := by unfold tx; simp
    rw [weirref14_Lay.l0, if_neg (nt (decide_eq_false (by rw [e1]; omega))), G_of hi hl]
    refine ⟨_, _, _, _, _, _, rfl, hM.1, fun j y hj => ?_⟩
    have hjl := len_of hj
    rw [hM.2 j y hj, if_pos (by omega), if_pos (by omega)]
  intro d
  induction d with
  | zero =>
    intro i hi tw p0 p1 p2 K M hK hM
    exact done i (by omega) (Nat.le_trans (B_wf h0 i).len (by omega)) _ _ _ _ _ _ hM
  | succ d ih =>
    intro i hi tw p0 p1 p2 K M hK hM
    by_cases hl : (B n i).length ≤ i
    · exact done i (by omega) hl _ _ _ _ _ _ hM
    · have hx : (B n i)[i]? = some ((B n i)[i]'(by omega)) := List.getElem?_eq_getElem (by omega)
      generalize (B n i)[i]'(by omega) = x at hx
      have hw := B_wf h0 i
      have e1 : (tx (B n i)).length = (B n i).length := by unfold tx; simp
      have g1 : gt (tx (B n i)) (i : Int) = nm x.s := gt_map (fun x => nm x.s) hx
      have hB := B_step hx
      have hG : ∃ t, G n = (succs n x.s).foldl (add x.d i) (B n i) ++ t := by rw [← hB]; exact G_pre (by omega)
      rw [weirref14_Lay.l0, if_pos (decide_eq_true (by rw [e1]; omega)), if_pos (by rw [e1]; omega), g1, m1_f hf (hw.lt x.s (ss_mem hx))]
      simp only [Option.bind_eq_bind, Option.bind_some]
      obtain ⟨tw', p1', p2', K', M', h1, h2, h3⟩ := lay_l1 hf h0 ha hx hw hG y43 (bump p0 (nm x.s)) wh (row n x.s).length 0 (by omega) (B n i) rfl (twice p0 (nm x.s) tw) p2 p1 K M hK hM
      rw [show (((0 : Nat)) : Int) = (0 : Int) from rfl] at h1
      rw [h1]
      simp only [Option.bind_some]
      rw [← hB] at h2 h3 ⊢
      rw [w1 (by omega)]
      exact ih (i + 1) (by omega) _ _ _ _ _ _ h2 h3
theorem lay_f (hf : Fine n) (h0 : 0 ≤ n.Start ∧ n.Start < (n.Next.length : Int)) {a1 : Int} (ha : (n.Next.length : Int) ≤ a1) (p0 p1 p2 : List (ByteArray × Int)) (tw : Bool) :
    ∃ tw' p0' p1' p2' K' M', weirref14_Lay.f (nm n.Start.toNat) p0 p1 p2 tw n a1 = some (tx (G n), dp (G n), M', ens n (G n), fis n (G n), frs (G n), bys (G n), true, K', tw', p0', p1', p2') ∧ MvOk n (G n) (G n).length 0 M' := by
  have h6 := hf.few
  unfold weirref14_Lay.f
  have hp := put_new hf (n := n) (L := []) (K := []) (u := n.Start.toNat) (by omega) rfl (by simp) (M := []) rfl (a2 := a1) (by simp; omega) true (nm n.Start.toNat) p0 p1 p2 tw 0 (-1) ⟨0, 0, 0⟩
  simp only [Option.bind_eq_bind]
  refine (?_ : ∃ tw' p0' p1' p2' K' M', Option.bind _ _ = _ ∧ _)
  rw [show weirref14_Graph__put.f ([] : List ByteArray) ([] : List Int) ([] : List (List weirref14_Move)) ([] : List Bool) ([] : List api_Final) ([] : List Int) ([] : List api_Pick) true ([] : List (ByteArray × Int)) (nm n.Start.toNat) p0 p1 p2 tw n a1 (nm n.Start.toNat) 0 (-1) (⟨0, 0, 0⟩ : api_Pick) = _ from hp]
  simp only [Option.bind_some]
  obtain ⟨tw', p0', p1', p2', K', M', h1, h2⟩ := lay_l0 hf h0 ha (nm n.Start.toNat) true n.Next.length 0 (by omega) (twice p1 (nm n.Start.toNat) tw) p0 (bump p1 (nm n.Start.toNat)) p2 (mput [] (nm n.Start.toNat) 0) [[]] (Known.start (x := ⟨n.Start.toNat, 0, -1, ⟨0, 0, 0⟩⟩) (f := fun j => (j : Int)) (n := n) (by show n.Start.toNat < _; omega)) ⟨rfl, fun j y hj => by
    cases j with
    | zero => simp [B] at hj; subst hj; rfl
    | succ j => simp [B] at hj⟩
  refine ⟨tw', p0', p1', p2', K', M', ?_, h2⟩
  rw [show (((0 : Nat)) : Int) = (0 : Int) from rfl] at h1
  exact (congrArg (fun r => Option.bind r _) h1)
/-! ### The book -/
theorem twice_no {m : List (ByteArray × Int)} {t : ByteArray} (h : mget m t = none) : twice m t false = false := by
  unfold twice bump
  rw [mget_mput, if_pos rfl, h]
  decide
theorem nm2_inj {u k u' k' : Nat} (hu : u < 65536) (hk : k < 65536) (hu' : u' < 65536) (hk' : k' < 65536) (h : nm u ++ nm k = nm u' ++ nm k') : u = u' ∧ k = k' := by
  have b : ∀ a c : Nat, byt (nm a ++ nm c) 1 = ((a / 256 % 256 : Nat) : Int) ∧ byt (nm a ++ nm c) 2 = ((a % 256 : Nat) : Int) ∧ byt (nm a ++ nm c) 4 = ((c / 256 % 256 : Nat) : Int) ∧ byt (nm a ++ nm c) 5 = ((c % 256 : Nat) : Int) := by
    intro a c
    refine ⟨?_, ?_, ?_, ?_⟩
    · show (((UInt8.ofNat (a / 256)).toNat : Nat) : Int) = _; simp
    · show (((UInt8.ofNat a).toNat : Nat) : Int) = _; simp
    · show (((UInt8.ofNat (c / 256)).toNat : Nat) : Int) = _; simp
    · show (((UInt8.ofNat c).toNat : Nat) : Int) = _; simp
  obtain ⟨a1, a2, a3, a4⟩ := b u k
  obtain ⟨c1, c2, c3, c4⟩ := b u' k'
  rw [h] at a1 a2 a3 a4
  have e1 := a1.symm.trans c1
  have e2 := a2.symm.trans c2
  have e3 := a3.symm.trans c3
  have e4 := a4.symm.trans c4
  omega
/-- Of which states, and of which of their picks, Step was not asked. -/
def NoStep (D : List Nat) (s k : Nat) (p2 : List (ByteArray × Int)) : Prop := ∀ u j, u < 65536 → j < 65536 → u ∉ D → ¬ (u = s ∧ j < k) → mget p2 (nm u ++ nm j) = none
theorem NoStep.next {D : List Nat} {s k : Nat} {p2 : List (ByteArray × Int)} (h : NoStep D s k p2) (hs : s < 65536) (hk : k < 65536) : NoStep D s (k + 1) (bump p2 (nm s ++ nm k)) := by
  intro u j hu hj hD hn
  unfold bump
  rw [mget_mput, if_neg]
  · exact h u j hu hj hD fun e => hn ⟨e.1, by omega⟩
  · intro e
    obtain ⟨e1, e2⟩ := nm2_inj hs hk hu hj e
    exact hn ⟨e1.symm, by omega⟩
/-! ### The program's moves -/
def eg (x : api_Pick × Nat) : explore_edge := ⟨x.1, nm x.2⟩
theorem moves_l0 (hf : Fine n) {s : Nat} (hs : s < n.Next.length) (p1 p0 : List (ByteArray × Int)) (D : List Nat) (hD : s ∉ D) : ∀ (d k : Nat), k + d = (row n s).length → ∀ (tw : Bool) (p2 : List (ByteArray × Int)),
    ∃ tw' p2', explore_moves.l0 p1 n (nm s) (pks n s) p0 ((sto n s k).map eg) (k : Int) tw p2 = some ((succs n s).map eg, tw', p2') ∧ (tw = false ∧ NoStep D s k p2 → tw' = false ∧ NoStep D s (row n s).length p2') := by
  have h6 := hf.few
  have hr := hf.row s
  have hlp : (pks n s).length = (row n s).length := by unfold pks; simp
  intro d
  induction d with
  | zero =>
    intro k hk tw p2
    rw [explore_moves.l0, if_neg (nt (decide_eq_false (by rw [hlp]; omega)))]
    refine ⟨_, _, by rw [show k = (row n s).length by omega]; rfl, fun h => ⟨h.1, by rw [show (row n s).length = k by omega]; exact h.2⟩⟩
  | succ d ih =>
    intro k hk tw p2
    have g3 : gt (pks n s) (k : Int) = pk s k := by
      unfold gt pks; rw [Int.toNat_natCast, List.getD_eq_getElem?_getD, List.getElem?_map, List.getElem?_range (by omega)]; rfl
    rw [explore_moves.l0, if_pos (decide_eq_true (by rw [hlp]; omega)), if_pos (by rw [hlp]; omega), g3, m2_f hf hs (by omega)]
    have hsk := sto_succ n s k
    have hsl := sto_len n s k
    obtain ⟨tw', p2', h1, h2⟩ := ih (k + 1) (by omega) (twice p2 (nm s ++ nm k) tw) (bump p2 (nm s ++ nm k))
    have hgo : tw = false ∧ NoStep D s k p2 → twice p2 (nm s ++ nm k) tw = false ∧ NoStep D s (k + 1) (bump p2 (nm s ++ nm k)) := by
      rintro ⟨rfl, h⟩
      exact ⟨twice_no (h s k (by omega) (by omega) hD (by omega)), h.next (by omega) (by omega)⟩
    refine ⟨tw', p2', ?_, fun h => h2 (hgo h)⟩
    cases hsc : sc n s k with
    | none =>
      rw [hsc] at hsk
      simp only [Option.bind_eq_bind, Option.bind_some, Bool.false_eq_true, if_false, id]
      rw [w1 (by omega), ← h1, hsk]; simp
    | some q =>
      obtain ⟨p, u⟩ := q
      rw [hsc] at hsk
      have hp : p = pk s k := by
        unfold sc at hsc; split at hsc
        · cases hsc; rfl
        · cases hsc
      simp only [Option.bind_eq_bind, Option.bind_some, if_true]
      rw [if_pos (by simp; omega), w1 (by omega), ← h1, hsk, hp]; simp [eg]
theorem moves_f (hf : Fine n) {s : Nat} (hs : s < n.Next.length) (y : ByteArray) (p0 p1 p2 : List (ByteArray × Int)) (tw : Bool) (D : List Nat) (hD : s ∉ D) :
    ∃ tw' p2', explore_moves.f y p0 p1 p2 tw n (nm s) = some ((succs n s).map eg, tw', bump p0 (nm s), p2') ∧ (tw = false → mget p0 (nm s) = none → NoStep D s 0 p2 → tw' = false ∧ NoStep D s (row n s).length p2') := by
  unfold explore_moves.f
  rw [m1_f hf hs]
  simp only [Option.bind_eq_bind, Option.bind_some]
  obtain ⟨tw', p2', h1, h2⟩ := moves_l0 hf hs p1 (bump p0 (nm s)) D hD (row n s).length 0 (by omega) (twice p0 (nm s) tw) p2
  rw [show (((0 : Nat)) : Int) = (0 : Int) from rfl] at h1
  rw [show (sto n s 0).map eg = [] from rfl] at h1
  rw [h1]
  exact ⟨tw', p2', rfl, fun h3 h4 h5 => h2 ⟨by rw [h3]; exact twice_no h4, h5⟩⟩
/-! ### States come to be known -/
def vz (n : weirlaw14_Net) (j : Nat) : explore_visit := ⟨((((G n).getD j default).d : Nat) : Int), if ((G n).getD j default).fr < 0 then ⟨#[]⟩ else nm ((G n).getD ((G n).getD j default).fr.toNat default).s, ((G n).getD j default).by_⟩
theorem vz_at {j : Nat} {y : Nd} (h : (G n)[j]? = some y) : vz n j = ⟨(y.d : Int), if y.fr < 0 then ⟨#[]⟩ else nm ((G n).getD y.fr.toNat default).s, y.by_⟩ := by
  unfold vz
  rw [List.getD_eq_getElem?_getD, h]
  rfl
theorem walk_1_l1 (hf : Fine n) {i : Nat} {L0 : List Nd} {x : Nd} (hx : L0[i]? = some x) (hw : Wf n L0) (hG : ∃ t, G n = (succs n x.s).foldl (add x.d i) L0 ++ t) (t28 : List ByteArray) (hq : gt t28 0 = nm x.s) :
    ∀ (r l : List (api_Pick × Nat)), l ++ r = succs n x.s → ∀ (L : List Nd), L = l.foldl (add x.d i) L0 → ∀ (K : List (ByteArray × explore_visit)), Known L K (vz n) →
    ∃ K', explore_walk_1.l1 t28 ((succs n x.s).map eg) ((tx L).drop (i + 1)) (l.length : Int) K = some ((tx ((succs n x.s).foldl (add x.d i) L0)).drop (i + 1), K') ∧ Known ((succs n x.s).foldl (add x.d i) L0) K' (vz n) := by
  have h6 := hf.few
  have hr := hf.row x.s
  have hd := hw.dep i x hx
  have hil := len_of hx
  have hsl : (succs n x.s).length ≤ (row n x.s).length := sto_len ..
  intro r
  induction r with
  | nil =>
    intro l hl L hL K hK
    rw [List.append_nil] at hl
    rw [explore_walk_1.l1, if_neg (nt (decide_eq_false (by rw [List.length_map, hl]; omega)))]
    rw [← hl, ← hL]
    exact ⟨_, rfl, hK⟩
  | cons q r ih =>
    intro l hl L hL K hK
    obtain ⟨p, u⟩ := q
    have hlen : l.length < (succs n x.s).length := by rw [← hl]; simp
    have hg : gt ((succs n x.s).map eg) (l.length : Int) = eg (p, u) := by
      unfold gt
      rw [Int.toNat_natCast, List.getD_eq_getElem?_getD, List.getElem?_map, ← hl]; simp
    have hu : u < n.Next.length := by
      have : (p, u) ∈ succs n x.s := by rw [← hl]; simp
      exact sto_lt this
    have hlt : ∀ y ∈ l, y.2 < n.Next.length := fun y hy => sto_lt (s := x.s) (k := (row n x.s).length) (by show y ∈ succs n x.s; rw [← hl]; exact List.mem_append_left _ hy)
    obtain ⟨t0, et0⟩ := fold_pre x.d i l L0
    have hLx : L[i]? = some x := by rw [hL, et0, List.getElem?_append_left hil]; exact hx
    have hwL : Wf n L := by rw [hL]; exact fold_wf hd _ _ hw hil hlt
    have hLl := hwL.len
    have hiL := len_of hLx
    have hL2 : add x.d i L (p, u) = (l ++ [(p, u)]).foldl (add x.d i) L0 := by rw [List.foldl_append, ← hL]; rfl
    have hl2 : (l ++ [(p, u)]) ++ r = succs n x.s := by rw [← hl]; simp
    have ek : (((l ++ [(p, u)]).length : Nat) : Int) = ((l.length + 1 : Nat) : Int) := by simp
    have h := ih (l ++ [(p, u)]) hl2
    rw [ek] at h
    rw [explore_walk_1.l1, if_pos (decide_eq_true (by rw [List.length_map]; omega)), if_pos (by rw [List.length_map]; omega), hg, hq]
    rw [show (eg (p, u)).to = nm u from rfl, show (eg (p, u)).by_ = p from rfl]
    by_cases hm : u ∈ ss L
    · obtain ⟨j, y, hj, hy, hgK⟩ := hK.old hm
      have ea : add x.d i L (p, u) = L := by unfold add; rw [if_pos hm]
      rw [ea] at hL2
      rw [hgK]
      simp only [Option.isSome_some, if_true, Option.bind_eq_bind, Option.bind_some, Bool.not_true, Bool.false_eq_true, if_false, id]
      rw [w1 (by omega)]
      exact h L hL2 K hK
    · have ea : add x.d i L (p, u) = L ++ [⟨u, x.d + 1, (i : Int), p⟩] := by unfold add; rw [if_neg hm]
      have hw2 : Wf n (add x.d i L (p, u)) := add_wf hwL hu hd hiL
      rw [ea] at hL2 hw2
      have hlw := hw2.len
      have hpre : ∃ t, G n = (L ++ [⟨u, x.d + 1, (i : Int), p⟩]) ++ t := by
        obtain ⟨t, ht⟩ := hG
        obtain ⟨v, hv⟩ := fold_pre x.d i r (L ++ [⟨u, x.d + 1, (i : Int), p⟩])
        refine ⟨v ++ t, ?_⟩
        rw [ht, ← hl2, List.foldl_append, ← hL2, hv, List.append_assoc]
      obtain ⟨t, ht⟩ := hpre
      have hGi : (G n)[i]? = some x := by rw [ht, List.append_assoc, List.getElem?_append_left hiL]; exact hLx
      have hGl : (G n)[L.length]? = some ⟨u, x.d + 1, (i : Int), p⟩ := by rw [ht]; simp
      rw [hK.2 u (by omega) hm, hK.1 i x hLx]
      simp only [Option.isSome_none, Bool.false_eq_true, if_false, Option.bind_eq_bind, Option.bind_some, Bool.not_false, if_true, Option.getD_some]
      have e1 : (tx L).length = L.length := by unfold tx; simp
      simp at hlw
      rw [if_pos (by rw [List.length_drop, e1]; simp; omega), w1 (by omega)]
      have eq1 : (tx L).drop (i + 1) ++ [nm u] = (tx (L ++ [⟨u, x.d + 1, (i : Int), p⟩])).drop (i + 1) := by
        rw [tx_app, List.drop_append_of_le_length (by rw [e1]; omega)]; rfl
      have eq2 : (⟨IntKind.i64.wrap ((vz n i).depth + 1), nm x.s, p⟩ : explore_visit) = vz n L.length := by
        rw [vz_at hGl, vz_at hGi]
        show (⟨IntKind.i64.wrap ((x.d : Int) + 1), nm x.s, p⟩ : explore_visit) = ⟨((x.d + 1 : Nat) : Int), if (i : Int) < 0 then _ else _, p⟩
        rw [w1 (by omega), if_neg (by omega)]
        congr 2
        show x.s = ((G n).getD (i : Int).toNat default).s
        rw [Int.toNat_natCast, List.getD_eq_getElem?_getD, hGi]; rfl
      rw [eq1, eq2]
      exact h _ hL2 _ (hK.more h6 hwL (x := ⟨u, x.d + 1, (i : Int), p⟩) hm hu)
end
end Go.Proofs.Ytfiamlhhhkiiaaa.K
