/- ExploreRuns: the law. -/
import Derived.Test.YtfiamlhhhkiiaaaHH
import Derived.Test.YtfiamlhhhkiiaaaNL
import Derived.Test.YtfiamlhhhkiiaaaO
set_option linter.unusedVariables false
set_option linter.unusedSimpArgs false
namespace Go.Proofs.Ytfiamlhhhkiiaaa.K
open Go Go.RowKit
section
variable {n : weirlaw14_Net}
theorem gt_rep {α : Type} [Inhabited α] (N : Nat) (v : α) {j : Nat} (hj : j < N) : gt (List.replicate N v) (j : Int) = v := by
  unfold gt
  rw [Int.toNat_natCast, List.getD_eq_getElem?_getD, List.getElem?_replicate, if_pos hj]; rfl
theorem dall {dn : List Bool} (h : dn.count false = 0) {j : Nat} (hj : j < dn.length) : gt dn (j : Int) = true := by
  have hn := List.count_eq_zero.1 h
  unfold gt
  rw [Int.toNat_natCast, List.getD_eq_getElem?_getD, List.getElem?_eq_getElem hj, Option.getD_some]
  cases hb : dn[j] with
  | true => rfl
  | false => exact absurd (by rw [← hb]; exact List.getElem_mem hj) hn
theorem druns_l0 (hf : Fine n) (h0 : 0 ≤ n.Start ∧ n.Start < (n.Next.length : Int)) {D : List (List weirref14_Move)} (hD : MvOk n (G n) (G n).length 0 D) (tw : Bool) (q0 q1 q2 : List (ByteArray × Int)) :
    ∀ (k : Nat) (dn : List Bool) (ws : List Int) (bg : List Bool) (τ : Nat → Nat), dn.count false ≤ k → DInv n dn ws bg τ →
    ∃ r, weirref14_Runs.l0 (tx (G n)) D (ens n (G n)) tw q0 q1 q2 (dn.count false : Int) dn ws bg = some r ∧
      ((∃ ws' bg' dn' τ', r = .inl (ws', bg') ∧ DInv n dn' ws' bg' τ' ∧ ∀ j : Nat, j < (G n).length → gt dn' (j : Int) = true) ∨
        (r = .inr (0, 30, tw, q0, q1, q2) ∧ ∃ dn' : List Bool, (∃ j : Nat, j < (G n).length ∧ gt dn' (j : Int) = false) ∧ ∀ i : Nat, i < (G n).length → gt dn' (i : Int) = false → ∃ t ∈ adj n i, gt dn' (t : Int) = false)) := by
  have h6 := hf.few
  have hg := (G_wf h0).len
  have stop : ∀ (dn : List Bool) (ws : List Int) (bg : List Bool) (τ : Nat → Nat), dn.count false = 0 → DInv n dn ws bg τ → ∃ r, weirref14_Runs.l0 (tx (G n)) D (ens n (G n)) tw q0 q1 q2 (dn.count false : Int) dn ws bg = some r ∧
      ((∃ ws' bg' dn' τ', r = .inl (ws', bg') ∧ DInv n dn' ws' bg' τ' ∧ ∀ j : Nat, j < (G n).length → gt dn' (j : Int) = true) ∨
        (r = .inr (0, 30, tw, q0, q1, q2) ∧ ∃ dn' : List Bool, (∃ j : Nat, j < (G n).length ∧ gt dn' (j : Int) = false) ∧ ∀ i : Nat, i < (G n).length → gt dn' (i : Int) = false → ∃ t ∈ adj n i, gt dn' (t : Int) = false)) := by
    intro dn ws bg τ hz h
    have l1 := h.l1
    rw [weirref14_Runs.l0, if_neg (nt (decide_eq_false (by omega)))]
    exact ⟨_, rfl, .inl ⟨ws, bg, dn, τ, rfl, h, fun j hj => dall hz (by omega)⟩⟩
  intro k
  induction k with
  | zero => intro dn ws bg τ hk h; exact stop dn ws bg τ (by omega) h
  | succ k ih =>
    intro dn ws bg τ hk h
    by_cases hz : dn.count false = 0
    · exact stop dn ws bg τ hz h
    · have l1 := h.l1
      obtain ⟨dn', ws', bg', τ', e1, e2, e3⟩ := pass hf h0 hD (G n).length (Nat.le_refl _) dn ws bg τ h
      rw [weirref14_Runs.l0, if_pos (decide_eq_true (by omega)), tx_len, wi64_id (by omega) (by omega), e1]
      simp only [Option.bind_eq_bind, Option.bind_some]
      rcases e3 with e3 | ⟨e3, e4⟩
      · rw [if_neg (by simp; omega)]
        exact ih dn' ws' bg' τ' (by omega) e2
      · subst e3
        rw [if_pos (by simp)]
        refine ⟨_, rfl, .inr ⟨rfl, dn', ?_, e4⟩⟩
        have hm := List.count_pos_iff.1 (Nat.pos_of_ne_zero hz)
        obtain ⟨j, hj, hje⟩ := List.getElem_of_mem hm
        refine ⟨j, by omega, ?_⟩
        unfold gt
        rw [Int.toNat_natCast, List.getD_eq_getElem?_getD, List.getElem?_eq_getElem hj]
        exact hje
/-- With an order, the document is not stuck; without, it does not come to an end. -/
theorem not_stuck (h0 : 0 ≤ n.Start ∧ n.Start < (n.Next.length : Int)) {out : List Nat} (ht : Topo n out) {dn : List Bool} (h : ∀ i : Nat, i < (G n).length → gt dn (i : Int) = false → ∃ t ∈ adj n i, gt dn (t : Int) = false) :
    ∀ (m i : Nat), (G n).length - out.idxOf i < m → i < (G n).length → gt dn (i : Int) = true := by
  intro m
  induction m with
  | zero => intro i hm; omega
  | succ m ih =>
    intro i hm hi
    cases hb : gt dn (i : Int) with
    | true => rfl
    | false =>
      exfalso
      obtain ⟨t, t1, t2⟩ := h i hi hb
      have hr := ht.rank h0 i t t1
      have := ih t (by omega) (adj_lt h0 t1)
      rw [t2] at this; cases this
theorem not_done (h0 : 0 ≤ n.Start ∧ n.Start < (n.Next.length : Int)) {out : List Nat} {w : Nat → Nat} (hI : KInv (adj n) (G n).length out [] w) (hl : out.length ≠ (G n).length) {τ : Nat → Nat} (h : ∀ j : Nat, j < (G n).length → ∀ t ∈ adj n j, τ t < τ j) : False := by
  have hnd : out.Nodup := by have := hI.nodup; rwa [List.append_nil] at this
  have hlt : ∀ x ∈ out, x < (G n).length := fun x hx => hI.lt x (List.mem_append_left _ hx)
  have hle := nodup_few _ out hnd hlt
  have hs : ∃ s, s < (G n).length ∧ s ∉ out := by
    refine Classical.byContradiction fun hc => ?_
    have hall : ∀ s ∈ List.range (G n).length, s ∈ out := fun s hs => Classical.byContradiction fun h2 => hc ⟨s, List.mem_range.1 hs, h2⟩
    have := List.nodup_range (n := (G n).length) |>.length_le_of_subset hall
    rw [List.length_range] at this
    omega
  have grow : ∀ k, ∃ s, s < (G n).length ∧ s ∉ out ∧ k ≤ τ s := by
    intro k
    induction k with
    | zero => obtain ⟨s, s1, s2⟩ := hs; exact ⟨s, s1, s2, Nat.zero_le _⟩
    | succ k ih =>
      obtain ⟨s, s1, s2, s3⟩ := ih
      have hw : w s ≠ 0 := fun hz => s2 (by have := hI.all s s1 hz; rwa [List.append_nil] at this)
      rw [hI.cnt s s1] at hw
      have : ∃ j, j < (G n).length ∧ j ∉ out ∧ s ∈ adj n j := by
        refine Classical.byContradiction fun hc => hw (cin_zero.2 fun j hj ho hm => hc ⟨j, hj, ho, hm⟩)
      obtain ⟨j, j1, j2, j3⟩ := this
      exact ⟨j, j1, j2, by have := h j j1 s j3; omega⟩
  obtain ⟨s, s1, -, s3⟩ := grow (mx τ (List.range (G n).length) + 1)
  have := le_mx τ (List.mem_range.2 s1)
  omega
theorem druns_f (hf : Fine n) (h0 : 0 ≤ n.Start ∧ n.Start < (n.Next.length : Int)) {a1 : Int} {m : Nat} (ha : ∀ c : Nat, (c : Int) ≥ a1 ↔ m ≤ c) :
    ∃ (c e : Int) (tw : Bool) (q0 q1 q2 : List (ByteArray × Int)), weirref14_Runs.f (nm n.Start.toNat) [] [] [] false n a1 = some (c, e, tw, q0, q1, q2) ∧
      ((m < (G n).length → c = 0 ∧ e = 1) ∧ ((G n).length ≤ m → (∃ out, Topo n out) → (c, e) = if (worth n 0).2 = true then (0, 30) else ((worth n 0).1, 0)) ∧ ((G n).length ≤ m → (∃ out w, KInv (adj n) (G n).length out [] w ∧ out.length ≠ (G n).length) → c = 0 ∧ e = 30)) := by
  have h6 := hf.few
  have hg := (G_wf h0).len
  have hG0 : (G n)[0]? = some ⟨n.Start.toNat, 0, -1, ⟨0, 0, 0⟩⟩ := G_at (i := 0) (by omega) rfl
  have hpos := len_of hG0
  obtain ⟨tw, q0, q1, q2, Kk, D, l1, -, l3⟩ := lay_tf hf h0 ha [] [] [] false
  unfold weirref14_Runs.f
  rw [l1]
  simp only [Option.bind_eq_bind, Option.bind_some]
  by_cases hm : (G n).length ≤ m
  · rw [decide_eq_true hm, if_neg (show ¬ (!true) = true by decide), List.take_of_length_le hm, tx_len]
    rw [if_pos (by omega), if_pos (by omega), if_pos (by omega), Int.toNat_natCast]
    have hinit : DInv n (List.replicate (G n).length false) (List.replicate (G n).length (0 : Int)) (List.replicate (G n).length false) (fun _ => 0) := by
      refine ⟨by simp, by simp, by simp, fun j hj _ => ⟨gt_rep _ _ hj, gt_rep _ _ hj⟩, fun j hj hd => ?_, fun j hj hd => ?_, fun j hj hd => ?_⟩ <;> (rw [gt_rep _ _ hj] at hd; cases hd)
    obtain ⟨r, r1, r2⟩ := druns_l0 hf h0 (l3 hm) tw q0 q1 q2 (G n).length (List.replicate (G n).length false) _ _ _ (by rw [List.count_replicate_self]; exact Nat.le_refl _) hinit
    rw [List.count_replicate_self] at r1
    rw [r1]
    rcases r2 with ⟨ws', bg', dn', τ', rfl, hI, hall⟩ | ⟨rfl, dn', ⟨j, j1, j2⟩, hst⟩
    · simp only [Option.bind_some]
      have w2 := hI.l2
      have w3 := hI.l3
      have nod : ∀ out w, KInv (adj n) (G n).length out [] w → out.length ≠ (G n).length → False := fun out w hK hl => not_done h0 hK hl (fun j hj t ht => (hI.suc j hj (hall j hj) t ht).2)
      have hwo : ∀ out, Topo n out → worth n 0 = (gt ws' ((0 : Nat) : Int), gt bg' ((0 : Nat) : Int)) := by
        intro out ht
        have hv := hI.val 0 hpos (hall 0 hpos) (τ' 0 + 1 + (G n).length + 1) (by omega)
        rw [← hv]
        unfold worth
        exact val_rank (r := fun j => (G n).length - out.idxOf j) (ht.rank h0) ((G n).length + 1) _ _ 0 (by show (G n).length - out.idxOf 0 < _; omega) (Nat.le_refl _) (by omega)
      rw [show (((0 : Nat)) : Int) = (0 : Int) from rfl] at hwo
      rw [if_pos (by omega)]
      by_cases hb : gt bg' (0 : Int) = true
      · rw [if_pos hb]
        refine ⟨0, 30, tw, q0, q1, q2, rfl, fun h => by omega, fun _ ⟨out, ht⟩ => ?_, fun _ ⟨out, w, hK, hl⟩ => (nod out w hK hl).elim⟩
        rw [hwo out ht, if_pos hb]
      · rw [if_neg hb, if_pos (by omega)]
        refine ⟨gt ws' (0 : Int), 0, tw, q0, q1, q2, rfl, fun h => by omega, fun _ ⟨out, ht⟩ => ?_, fun _ ⟨out, w, hK, hl⟩ => (nod out w hK hl).elim⟩
        rw [hwo out ht, if_neg hb]
    · simp only [Option.bind_some]
      refine ⟨0, 30, tw, q0, q1, q2, rfl, fun h => by omega, fun _ ⟨out, ht⟩ => ?_, fun _ _ => ⟨rfl, rfl⟩⟩
      exfalso
      have := not_stuck h0 ht hst ((G n).length - out.idxOf j + 1) j (by omega) j1
      rw [j2] at this; cases this
  · rw [decide_eq_false hm, if_pos (show (!false) = true from rfl)]
    exact ⟨0, 1, tw, q0, q1, q2, rfl, fun _ => ⟨rfl, rfl⟩, fun h => by omega, fun h => by omega⟩
end
theorem runs_law (n : weirlaw14_Net) (most : Int) (hn : ok_weirlaw14_Net n) (h1 : (Lit.int .i64 most).wf = true) : weirlaw14_ExploreRuns.f n most = some true := by
  have hb : bnd ≤ 140737488355328 := by decide
  have hrow : ∀ s, (row n s).length ≤ 140737488355328 := by
    intro s
    unfold row
    rw [List.getD_eq_getElem?_getD]
    cases h : n.Next[s]? with
    | none => exact Nat.zero_le _
    | some x => have := (hn.1.2 x (List.mem_of_getElem? h)).1; show x.length ≤ _; omega
  obtain ⟨b, f1, f2⟩ := fine_f (n := n) hrow (by have := hn.1.1; omega)
  unfold weirlaw14_ExploreRuns.f
  rw [f1]
  simp only [Option.bind_eq_bind, Option.bind_some]
  cases b with
  | false => rfl
  | true =>
    obtain ⟨hf, h0⟩ := f2 rfl
    rw [if_neg (by decide)]
    by_cases hbig : decide ((n.Next.length : Int) > 2000) = true
    · rw [if_pos hbig]
    · rw [if_neg hbig, machine_f h0.1]
      simp only [Option.bind_some]
      have ha : ∀ c : Nat, (c : Int) ≥ bmin most 70000 ↔ (bmin most 70000).toNat ≤ c := by intro c; omega
      have hmost : ∀ c : Nat, c < 70000 → ((c : Int) ≥ most ↔ (bmin most 70000).toNat ≤ c) := by
        intro c hc
        unfold bmin
        split <;> omega
      obtain ⟨c, e, p0', p1', p2', hk, hk1, e1, e2⟩ := runs_f hf h0 hmost
      obtain ⟨c2, e3, tw, q0, q1, q2, d1, d2, d3, d4⟩ := druns_f hf h0 ha
      have hce : c = c2 ∧ e = e3 := by
        rcases e2 with ⟨hm, rfl, rfl⟩ | ⟨hm, ht, he⟩ | ⟨hm, ht, rfl, rfl⟩
        · obtain ⟨a, b⟩ := d2 hm; exact ⟨a.symm, b.symm⟩
        · have := d3 hm ht; rw [← he] at this; cases this; exact ⟨rfl, rfl⟩
        · obtain ⟨a, b⟩ := d4 hm ht; exact ⟨a.symm, b.symm⟩
      obtain ⟨rfl, rfl⟩ := hce
      rw [e1]
      simp only [Option.bind_some]
      rw [reach_f hf h0]
      simp only [Option.bind_some]
      rw [within_g hf h0 p0' p1' p2' hk hk1]
      simp only [Option.bind_some]
      rw [d1]
      simp only [Option.bind_some, if_true, beq_self_eq_true]
      unfold weirlaw14_num.f
      simp only [Option.bind_some, beq_self_eq_true, if_true]
end Go.Proofs.Ytfiamlhhhkiiaaa.K
