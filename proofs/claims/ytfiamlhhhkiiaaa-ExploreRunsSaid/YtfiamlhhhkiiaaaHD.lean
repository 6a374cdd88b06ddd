/- graph.ordered, whole. -/
import Derived.Test.YtfiamlhhhkiiaaaHC
set_option linter.unusedVariables false
set_option linter.unusedSimpArgs false
namespace Go.Proofs.Ytfiamlhhhkiiaaa.K
open Go Go.RowKit
section
variable {n : weirlaw14_Net}
def incr (w : Nat → Nat) (r : List Nat) : Nat → Nat := fun t => w t + r.count t
theorem incr_cons (w : Nat → Nat) (u : Nat) (r : List Nat) : incr (upn w u (w u + 1)) r = incr w (u :: r) := by
  funext t
  unfold incr upn
  split
  · rename_i e; subst e; rw [List.count_cons_self]; omega
  · rename_i e; rw [List.count_cons_of_ne (Ne.symm e)]
theorem ord_l3 (hf : Fine n) (h0 : 0 ≤ n.Start ∧ n.Start < (n.Next.length : Int)) {i : Nat} {x : Nd} (hx : (G n)[i]? = some x) {M : List (ByteArray × List explore_edge)} (hM : mget M (nm x.s) = some ((succs n x.s).map eg)) :
    ∀ (r l : List (api_Pick × Nat)), l ++ r = succs n x.s → ∀ (w : Nat → Nat) (W : List (ByteArray × Int)), WOk n W w → (∀ t, w t + r.length ≤ 4000000000) →
    ∃ W', explore_graph__ordered.l3 (tx (G n)) M (i : Int) (l.length : Int) W = some W' ∧ WOk n W' (incr w (r.map (pl n))) := by
  have hsl : (succs n x.s).length ≤ (row n x.s).length := sto_len ..
  have hr := hf.row x.s
  have hq : gt (tx (G n)) (i : Int) = nm x.s := gt_map (fun x => nm x.s) hx
  intro r
  induction r with
  | nil =>
    intro l hl w W hW hb
    rw [List.append_nil] at hl
    rw [explore_graph__ordered.l3, hq, hM, Option.getD_some, if_neg (nt (decide_eq_false (by rw [List.length_map, hl]; omega)))]
    refine ⟨W, rfl, ?_⟩
    have : incr w (([] : List (api_Pick × Nat)).map (pl n)) = w := by funext t; simp [incr]
    rw [this]; exact hW
  | cons y r ih =>
    intro l hl w W hW hb
    have hlen : l.length < (succs n x.s).length := by rw [← hl]; simp
    have hg : gt ((succs n x.s).map eg) (l.length : Int) = eg y := by
      unfold gt
      rw [Int.toNat_natCast, List.getD_eq_getElem?_getD, List.getElem?_map, ← hl]; simp
    have hym : y ∈ succs n x.s := by rw [← hl]; simp
    obtain ⟨z, hz, hzs⟩ := idx_get (G_closed h0 hx hym)
    have hz' : (G n)[pl n y]? = some z := hz
    have hv : (mget W (nm y.2)).getD 0 = (w (pl n y) : Int) := by rw [← hzs]; exact hW.1 _ z hz'
    have hbt := hb (pl n y)
    simp at hbt
    have hl2 : (l ++ [y]) ++ r = succs n x.s := by rw [← hl]; simp
    have ek : (((l ++ [y]).length : Nat) : Int) = ((l.length + 1 : Nat) : Int) := by simp
    have hstep := ih (l ++ [y]) hl2
    rw [ek] at hstep
    rw [explore_graph__ordered.l3, hq, hM, Option.getD_some, if_pos (decide_eq_true (by rw [List.length_map]; omega)), if_pos (by rw [List.length_map]; omega), hg]
    rw [show (eg y).to = nm y.2 from rfl, hv, w1 (by omega), w1 (by omega), List.map_cons, ← incr_cons]
    have hput := hW.put hf h0 hz' (w (pl n y) + 1)
    rw [hzs] at hput
    refine hstep _ _ hput fun t => ?_
    have := hb t
    simp at this
    unfold upn
    split
    · rename_i e; subst e; omega
    · omega
/-- What the first i states lead to. -/
def cto (n : weirlaw14_Net) (i t : Nat) : Nat := ((List.range i).map fun j => (adj n j).count t).sum
theorem cto_succ (i t : Nat) : cto n (i + 1) t = cto n i t + (adj n i).count t := by unfold cto; rw [List.range_succ]; simp
theorem adj_pl {j : Nat} {x : Nd} (hx : (G n)[j]? = some x) : adj n j = (succs n x.s).map (pl n) := adj_at hx
theorem adj_len (hf : Fine n) (j : Nat) : (adj n j).length ≤ 60000 := by
  unfold adj
  split
  · simp
  · rename_i x _
    rw [List.length_map]
    exact Nat.le_trans (sto_len ..) (hf.row x.s)
theorem cto_le (hf : Fine n) (i t : Nat) : cto n i t ≤ i * 60000 := by
  induction i with
  | zero => simp [cto]
  | succ i ih =>
    rw [cto_succ]
    have := List.count_le_length (a := t) (l := adj n i)
    have := adj_len hf i
    omega
theorem ord_l0 (hf : Fine n) (h0 : 0 ≤ n.Start ∧ n.Start < (n.Next.length : Int)) {M : List (ByteArray × List explore_edge)} (hM : KMoves n (G n).length M) :
    ∀ (d i : Nat), i + d = (G n).length → ∀ (W : List (ByteArray × Int)), WOk n W (cto n i) → ∃ W', explore_graph__ordered.l0 (tx (G n)) M (i : Int) W = some W' ∧ WOk n W' (cto n (G n).length) := by
  have h6 := hf.few
  have hg := (G_wf h0).len
  intro d
  induction d with
  | zero =>
    intro i hi W hW
    rw [explore_graph__ordered.l0, if_neg (nt (decide_eq_false (by rw [tx_len]; omega)))]
    exact ⟨W, rfl, by rw [show (G n).length = i by omega]; exact hW⟩
  | succ d ih =>
    intro i hi W hW
    have hx : (G n)[i]? = some ((G n)[i]'(by omega)) := List.getElem?_eq_getElem (by omega)
    generalize (G n)[i]'(by omega) = x at hx
    have hsl : (succs n x.s).length ≤ (row n x.s).length := sto_len ..
    have hr := hf.row x.s
    obtain ⟨W', e1, e2⟩ := ord_l3 hf h0 hx (hM i x hx (by omega)) (succs n x.s) [] rfl (cto n i) W hW (fun t => by have := cto_le hf i t; omega)
    rw [show (([] : List (api_Pick × Nat)).length : Int) = (0 : Int) from rfl] at e1
    rw [explore_graph__ordered.l0, if_pos (decide_eq_true (by rw [tx_len]; omega)), if_pos (by rw [tx_len]; omega), e1]
    simp only [Option.bind_eq_bind, Option.bind_some]
    rw [w1 (by omega)]
    refine ih (i + 1) (by omega) W' ?_
    have : incr (cto n i) ((succs n x.s).map (pl n)) = cto n (i + 1) := by
      funext t; unfold incr; rw [cto_succ, adj_pl hx]
    rw [← this]; exact e2
theorem cto_cin (t : Nat) : cto n (G n).length t = cin (adj n) (G n).length [] t := by
  unfold cto cin
  congr 1
theorem ord_l1 (hf : Fine n) (h0 : 0 ≤ n.Start ∧ n.Start < (n.Next.length : Int)) {M : List (ByteArray × List explore_edge)} (hM : KMoves n (G n).length M) :
    ∀ (d : Nat) (out R : List Nat) (w : Nat → Nat) (W : List (ByteArray × Int)), out.length + d = (G n).length + 1 → KInv (adj n) (G n).length out R w → WOk n W w → (∀ t, w t ≤ 4000000000) →
    ∃ out' w', explore_graph__ordered.l1 M (RT n out) (RT n R) W = some (RT n out') ∧ KInv (adj n) (G n).length out' [] w' := by
  have h6 := hf.few
  have hg := (G_wf h0).len
  intro d
  induction d with
  | zero =>
    intro out R w W hd hI hW hb
    have := nodup_few (G n).length out (List.nodup_append.1 hI.nodup).1 (fun x hx => hI.lt x (List.mem_append_left _ hx))
    omega
  | succ d ih =>
    intro out R w W hd hI hW hb
    have hRl : ∀ R : List Nat, (RT n R).length = R.length := fun R => by unfold RT; simp
    rcases List.eq_nil_or_concat R with rfl | ⟨R', j, rfl⟩
    · rw [explore_graph__ordered.l1, if_neg (nt (decide_eq_false (by rw [hRl]; simp)))]
      exact ⟨out, w, rfl, hI⟩
    · rw [List.concat_eq_append] at hI ⊢
      have hjm : j ∈ out ++ (R' ++ [j]) := by simp
      have hj := hI.lt j hjm
      have hx : (G n)[j]? = some ((G n)[j]'hj) := List.getElem?_eq_getElem hj
      generalize (G n)[j]'hj = x at hx
      obtain ⟨hS, hc⟩ := hI.step (fun j t h => adj_lt h0 h)
      have hlen : (out ++ (R' ++ [j])).length ≤ (G n).length := nodup_few _ _ hI.nodup hI.lt
      simp at hlen
      have hL : (R' ++ [j]).length = R'.length + 1 := by simp
      have hwl : IntKind.i64.wrap (((RT n (R' ++ [j])).length : Int) - 1) = (R'.length : Int) := by
        rw [hRl, hL, wi64_id (by omega) (by omega)]; omega
      have hq : gt (RT n (R' ++ [j])) (R'.length : Int) = nm x.s := by
        unfold gt RT
        rw [Int.toNat_natCast, List.getD_eq_getElem?_getD, List.getElem?_map, List.getElem?_append_right (Nat.le_refl _)]
        simp [txt_at hx]
      have hsl : (succs n x.s).length ≤ (row n x.s).length := sto_len ..
      have hr := hf.row x.s
      obtain ⟨W', e1, e2⟩ := ord_l2 hf h0 hx (hM j x hx hj) (RT n (R' ++ [j])) (by rw [hwl]; exact hq) (succs n x.s) [] rfl R' w W hW (fun t => by rw [← adj_pl hx]; exact hc t) hb (by omega)
      rw [← adj_pl hx] at e1 e2
      rw [show (([] : List (api_Pick × Nat)).length : Int) = (0 : Int) from rfl] at e1
      rw [explore_graph__ordered.l1, if_pos (decide_eq_true (by rw [hRl, hL]; omega)), hwl, if_pos (by rw [hRl, hL]; omega), if_pos (by rw [hRl, hL]; omega), hq, if_pos (by rw [hRl, List.length_singleton]; omega)]
      have hcut : ((RT n (R' ++ [j])).take ((R'.length : Int)).toNat).drop 0 = RT n R' := by
        rw [List.drop_zero, Int.toNat_natCast]
        unfold RT
        rw [List.map_append, List.take_append_of_le_length (by simp), List.take_of_length_le (by simp)]
      rw [hcut, e1]
      simp only [Option.bind_eq_bind, Option.bind_some]
      have hout : RT n out ++ [nm x.s] = RT n (out ++ [j]) := by unfold RT; rw [List.map_append, List.map_singleton, txt_at hx]
      rw [hout]
      refine ih _ _ _ _ (by simp; omega) hS e2 fun t => ?_
      obtain ⟨i1, -⟩ := foldK (adj n j) R' w hc
      rw [i1]
      have := hb t
      omega
/-- All but the first are led to. -/
theorem led (h0 : 0 ≤ n.Start ∧ n.Start < (n.Next.length : Int)) {t : Nat} (ht : t < (G n).length) (h : 0 < t) : ∃ k, k < (G n).length ∧ t ∈ adj n k := by
  have hx : (G n)[t]? = some ((G n)[t]'ht) := List.getElem?_eq_getElem ht
  generalize (G n)[t]'ht = x at hx
  obtain ⟨k, k1, z, k2, k3⟩ := from_adj h0 n.Next.length t x hx h
  refine ⟨k, len_of k2, ?_⟩
  rw [adj_at (show (G n)[k]? = some z from k2)]
  obtain ⟨y, hy, e⟩ := List.mem_map.1 k3
  refine List.mem_map.2 ⟨y, hy, ?_⟩
  rw [e]
  obtain ⟨q, hq, hqs⟩ := idx_get (ss_mem hx)
  exact ss_same (G_wf h0) hq hx hqs
theorem ordered_f (hf : Fine n) (h0 : 0 ≤ n.Start ∧ n.Start < (n.Next.length : Int)) {M : List (ByteArray × List explore_edge)} (hM : KMoves n (G n).length M) :
    ∃ out w, explore_graph__ordered.f (tx (G n)) M = some (RT n out, decide (out.length = (G n).length)) ∧ KInv (adj n) (G n).length out [] w := by
  have h6 := hf.few
  have hg := (G_wf h0).len
  have hG0 : (G n)[0]? = some ⟨n.Start.toNat, 0, -1, ⟨0, 0, 0⟩⟩ := G_at (i := 0) (by omega) rfl
  have hl := len_of hG0
  have hq : gt (tx (G n)) ((0 : Nat) : Int) = nm n.Start.toNat := gt_map (fun x => nm x.s) hG0
  rw [show (((0 : Nat)) : Int) = (0 : Int) from rfl] at hq
  obtain ⟨W, e1, e2⟩ := ord_l0 hf h0 hM (G n).length 0 (by omega) [] ⟨fun j x _ => by simp [mget, cto], List.nodup_nil⟩
  rw [show (((0 : Nat)) : Int) = (0 : Int) from rfl] at e1
  have hbnd : ∀ t, cto n (G n).length t ≤ 4000000000 := fun t => by have := cto_le hf (G n).length t; omega
  have hv : (mget W (nm n.Start.toNat)).getD 0 = (cto n (G n).length 0 : Int) := e2.1 0 _ hG0
  have hRl : ∀ R : List Nat, (RT n R).length = R.length := fun R => by unfold RT; simp
  have hpos : ∀ t, t < (G n).length → cto n (G n).length t = 0 → t = 0 := by
    intro t ht hz
    rcases Nat.eq_zero_or_pos t with h | h
    · exact h
    · exfalso
      obtain ⟨k, k1, k2⟩ := led h0 ht h
      rw [cto_cin, cin_zero] at hz
      exact hz k k1 (by simp) k2
  have hKI : KInv (adj n) (G n).length [] (if cto n (G n).length 0 = 0 then [0] else []) (cto n (G n).length) := by
    refine ⟨?_, ?_, fun t _ => cto_cin t, ?_, ?_, List.Pairwise.nil, fun t h => by cases h⟩
    · split <;> simp
    · intro t ht
      split at ht
      · simp at ht; subst ht; exact hl
      · simp at ht
    · intro t ht
      split at ht
      · rename_i hz; simp at ht; subst ht; exact hz
      · simp at ht
    · intro t ht hz
      have := hpos t ht hz
      subst this
      rw [if_pos hz]; simp
  obtain ⟨out, w, r1, r2⟩ := ord_l1 hf h0 hM ((G n).length + 1) [] _ _ W (by simp) hKI e2 hbnd
  refine ⟨out, w, ?_, r2⟩
  unfold explore_graph__ordered.f
  rw [e1]
  simp only [Option.bind_eq_bind, Option.bind_some]
  rw [if_pos (by rw [tx_len]; omega), hq, hv]
  have fin : (if (((RT n out).length : Int) == ((tx (G n)).length : Int)) = true then some (RT n out, true) else some (RT n out, false)) = some (RT n out, decide (out.length = (G n).length)) := by
    rw [hRl, tx_len]
    by_cases h : out.length = (G n).length
    · rw [h, if_pos (by simp), decide_eq_true rfl]
    · rw [if_neg (by simp; omega), decide_eq_false h]
  by_cases hz : cto n (G n).length 0 = 0
  · rw [if_pos hz] at r1
    rw [if_pos (by rw [hz]; rfl), if_pos (by rw [tx_len]; omega), if_pos (by simp)]
    simp only [Option.bind_some, List.nil_append]
    rw [show ([nm n.Start.toNat] : List ByteArray) = RT n [0] by unfold RT; rw [List.map_singleton, txt_at hG0]]
    rw [show explore_graph__ordered.l1 M [] (RT n [0]) W = _ from r1]
    simp only [Option.bind_some]
    exact fin
  · rw [if_neg hz] at r1
    rw [if_neg (by simp; omega)]
    simp only [Option.bind_some]
    rw [show explore_graph__ordered.l1 M [] [] W = _ from r1]
    simp only [Option.bind_some]
    exact fin
end
end Go.Proofs.Ytfiamlhhhkiiaaa.K
