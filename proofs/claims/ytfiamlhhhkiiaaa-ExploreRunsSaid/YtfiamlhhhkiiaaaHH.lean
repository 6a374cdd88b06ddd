/- The document's Runs: passes. -/
import Derived.Test.YtfiamlhhhkiiaaaHG
set_option linter.unusedVariables false
set_option linter.unusedSimpArgs false
namespace Go.Proofs.Ytfiamlhhhkiiaaa.K
open Go Go.RowKit
section
variable {n : weirlaw14_Net}
structure DInv (n : weirlaw14_Net) (dn : List Bool) (ws : List Int) (bg : List Bool) (τ : Nat → Nat) : Prop where
  l1 : dn.length = (G n).length
  l2 : ws.length = (G n).length
  l3 : bg.length = (G n).length
  no : ∀ j : Nat, j < (G n).length → gt dn (j : Int) = false → gt ws (j : Int) = 0 ∧ gt bg (j : Int) = false
  rng : ∀ j : Nat, j < (G n).length → gt dn (j : Int) = true → 0 ≤ gt ws (j : Int) ∧ gt ws (j : Int) < 18446744073709551616
  suc : ∀ j : Nat, j < (G n).length → gt dn (j : Int) = true → ∀ t ∈ adj n j, gt dn (t : Int) = true ∧ τ t < τ j
  val : ∀ j : Nat, j < (G n).length → gt dn (j : Int) = true → ∀ f, τ j < f → K.val (isEnd n) (adj n) f j = (gt ws (j : Int), gt bg (j : Int))
def mx (τ : Nat → Nat) (l : List Nat) : Nat := l.foldr (fun t m => max (τ t) m) 0
theorem le_mx (τ : Nat → Nat) : ∀ {l : List Nat} {t : Nat}, t ∈ l → τ t ≤ mx τ l
  | [], _, h => by cases h
  | u :: l, t, h => by
    show τ t ≤ max (τ u) (mx τ l)
    rcases List.mem_cons.1 h with rfl | h
    · exact Nat.le_max_left ..
    · exact Nat.le_trans (le_mx τ h) (Nat.le_max_right ..)
theorem DInv.do (h0 : 0 ≤ n.Start ∧ n.Start < (n.Next.length : Int)) {dn : List Bool} {ws : List Int} {bg : List Bool} {τ : Nat → Nat} (h : DInv n dn ws bg τ) {i : Nat} (hi : i < (G n).length) (hn : gt dn (i : Int) = false) (ha : ∀ t ∈ adj n i, gt dn (t : Int) = true) {p : Int × Bool}
    (hp : p = (adj n i).foldl (fun p (t : Nat) => stp p (gt ws (t : Int), gt bg (t : Int))) (if isEnd n i then 1 else 0, false)) (hr : 0 ≤ p.1 ∧ p.1 < 18446744073709551616) :
    DInv n (setl dn (i : Int) true) (setl ws (i : Int) p.1) (setl bg (i : Int) p.2) (fun k => if k = i then 1 + mx τ (adj n i) else τ k) := by
  have l1 := h.l1
  have l2 := h.l2
  have l3 := h.l3
  have hne : ∀ t : Nat, gt dn (t : Int) = true → ¬ t = i := fun t ht e => by subst e; rw [hn] at ht; cases ht
  have d1 : ∀ j : Nat, gt (setl dn (i : Int) true) (j : Int) = if j = i then true else gt dn (j : Int) := by
    intro j; rw [gt_setl']
    by_cases e : j = i
    · rw [if_pos ⟨e.symm, by omega⟩, if_pos e]
    · rw [if_neg fun a => e a.1.symm, if_neg e]
  have d2 : ∀ j : Nat, gt (setl ws (i : Int) p.1) (j : Int) = if j = i then p.1 else gt ws (j : Int) := by
    intro j; rw [gt_setl']
    by_cases e : j = i
    · rw [if_pos ⟨e.symm, by omega⟩, if_pos e]
    · rw [if_neg fun a => e a.1.symm, if_neg e]
  have d3 : ∀ j : Nat, gt (setl bg (i : Int) p.2) (j : Int) = if j = i then p.2 else gt bg (j : Int) := by
    intro j; rw [gt_setl']
    by_cases e : j = i
    · rw [if_pos ⟨e.symm, by omega⟩, if_pos e]
    · rw [if_neg fun a => e a.1.symm, if_neg e]
  refine ⟨by rw [setl_len, l1], by rw [setl_len, l2], by rw [setl_len, l3], fun j hj hd => ?_, fun j hj hd => ?_, fun j hj hd t ht => ?_, fun j hj hd f hf => ?_⟩
  · rw [d1] at hd
    split at hd
    · cases hd
    · rename_i e
      rw [d2, d3, if_neg e, if_neg e]
      exact h.no j hj hd
  · rw [d1] at hd
    rw [d2]
    split
    · exact hr
    · rename_i e
      rw [if_neg e] at hd
      exact h.rng j hj hd
  · rw [d1] at hd ⊢
    by_cases e : j = i
    · subst e
      have h2 := ha t ht
      rw [if_neg (hne t h2)]
      refine ⟨h2, ?_⟩
      rw [if_neg (hne t h2), if_pos rfl]
      have := le_mx τ ht
      omega
    · rw [if_neg e] at hd
      obtain ⟨h2, h3⟩ := h.suc j hj hd t ht
      rw [if_neg (hne t h2)]
      refine ⟨h2, ?_⟩
      rw [if_neg (hne t h2), if_neg e]; exact h3
  · rw [d1] at hd
    rw [d2, d3]
    by_cases e : j = i
    · subst e
      rw [if_pos rfl, if_pos rfl]
      simp only [if_true] at hf
      obtain ⟨g, rfl⟩ : ∃ g, f = g + 1 := ⟨f - 1, by omega⟩
      show K.val (isEnd n) (adj n) (g + 1) j = p
      rw [K.val, hp]
      refine foldl_eq _ _ fun b t ht => ?_
      have := le_mx τ ht
      rw [h.val t (adj_lt h0 ht) (ha t ht) g (by omega)]
    · rw [if_neg e] at hd
      rw [if_neg e, if_neg e]
      rw [if_neg e] at hf
      exact h.val j hj hd f hf
theorem count_do {dn : List Bool} {i : Nat} (hi : i < dn.length) (hn : gt dn (i : Int) = false) : (setl dn (i : Int) true).count false + 1 = dn.count false := by
  unfold gt at hn
  unfold setl
  rw [Int.toNat_natCast] at hn ⊢
  rw [List.getD_eq_getElem?_getD, List.getElem?_eq_getElem hi, Option.getD_some] at hn
  have hpos : 0 < dn.count false := List.count_pos_iff.2 (by rw [← hn]; exact List.getElem_mem hi)
  rw [List.count_set hi]
  simp [hn]
  omega
theorem pass (hf : Fine n) (h0 : 0 ≤ n.Start ∧ n.Start < (n.Next.length : Int)) {D : List (List weirref14_Move)} (hD : MvOk n (G n) (G n).length 0 D) :
    ∀ (c : Nat), c ≤ (G n).length → ∀ (dn : List Bool) (ws : List Int) (bg : List Bool) (τ : Nat → Nat), DInv n dn ws bg τ →
    ∃ dn' ws' bg' τ', weirref14_Runs.l1 D (ens n (G n)) (dn.count false : Int) ((c : Int) - 1) dn ws bg = some ((dn'.count false : Int), dn', ws', bg') ∧ DInv n dn' ws' bg' τ' ∧
      ((dn'.count false < dn.count false) ∨ (dn' = dn ∧ ∀ i, i < c → gt dn (i : Int) = false → ∃ t ∈ adj n i, gt dn (t : Int) = false)) := by
  have h6 := hf.few
  have hg := (G_wf h0).len
  have hel : (ens n (G n)).length = (G n).length := by unfold ens; simp
  intro c
  induction c with
  | zero =>
    intro hc dn ws bg τ h
    rw [weirref14_Runs.l1, if_neg (nt (decide_eq_false (by omega)))]
    exact ⟨dn, ws, bg, τ, rfl, h, .inr ⟨rfl, fun i hi => by omega⟩⟩
  | succ i ih =>
    intro hc dn ws bg τ h
    have hi : i < (G n).length := by omega
    have hx : (G n)[i]? = some ((G n)[i]'hi) := List.getElem?_eq_getElem hi
    generalize (G n)[i]'hi = x at hx
    have l1 := h.l1
    have l2 := h.l2
    have l3 := h.l3
    have hcl : dn.count false ≤ dn.length := List.count_le_length
    have hrd := ready_l2 hf h0 hD hx dn l1 (succs n x.s) [] rfl (!gt dn (i : Int))
    rw [show (([] : List (api_Pick × Nat)).length : Int) = (0 : Int) from rfl, ← adj_pl hx] at hrd
    rw [show (((i + 1 : Nat) : Int) - 1) = (i : Int) by omega, weirref14_Runs.l1, if_pos (decide_eq_true (by omega)), if_pos (by rw [l1]; omega)]
    have hb : (if gt dn (i : Int) = true then some false else some true) = some (!gt dn (i : Int)) := by cases gt dn (i : Int) <;> rfl
    rw [hb]
    simp only [Option.bind_eq_bind, Option.bind_some]
    rw [hrd]
    simp only [Option.bind_some]
    have hwi : IntKind.i64.wrap ((i : Int) - 1) = (i : Int) - 1 := wi64_id (by omega) (by omega)
    rw [hwi]
    cases hr : (!gt dn (i : Int) && (adj n i).all fun t => gt dn (t : Int)) with
    | false =>
      rw [if_pos (show (!false) = true from rfl)]
      obtain ⟨dn', ws', bg', τ', e1, e2, e3⟩ := ih (by omega) dn ws bg τ h
      refine ⟨dn', ws', bg', τ', e1, e2, ?_⟩
      rcases e3 with e3 | ⟨e3, e4⟩
      · exact .inl e3
      · refine .inr ⟨e3, fun k hk hd => ?_⟩
        rcases Nat.eq_or_lt_of_le (Nat.lt_succ_iff.1 hk) with rfl | hk
        · rw [hd] at hr
          simp at hr
          exact hr
        · exact e4 k hk hd
    | true =>
      rw [if_neg (show ¬ (!true) = true by decide), if_pos (by rw [hel]; omega)]
      rw [Bool.and_eq_true] at hr
      have hn : gt dn (i : Int) = false := by simpa using hr.1
      have ha : ∀ t ∈ adj n i, gt dn (t : Int) = true := by simpa using hr.2
      have hself : i ∉ adj n i := fun hm => by have := ha i hm; rw [hn] at this; cases this
      obtain ⟨n1, n2⟩ := h.no i hi hn
      have hbi : (0 ≤ (i : Int) ∧ (i : Int) < (ws.length : Int)) := by omega
      have hbj : (0 ≤ (i : Int) ∧ (i : Int) < (bg.length : Int)) := by omega
      have he : gt (ens n (G n)) (i : Int) = isEnd n i := by rw [isEnd_at hx]; exact gt_map (fun x => (mEnd n x.s).2) hx
      have hw0 : (if gt (ens n (G n)) (i : Int) = true then (if 0 ≤ (i : Int) ∧ (i : Int) < (ws.length : Int) then some (setl ws (i : Int) 1) else none) else some ws) = some (setl ws (i : Int) (if isEnd n i then 1 else 0)) := by
        rw [he, if_pos hbi]
        cases isEnd n i with
        | true => rfl
        | false =>
          rw [if_neg (by decide)]
          have := setl_self (ts := ws) hbi
          rw [n1] at this
          show some ws = some (setl ws (i : Int) 0)
          rw [this]
      rw [hw0]
      simp only [Option.bind_some]
      obtain ⟨p, p1, p2, p3⟩ := worth_l3 hf h0 hD hx ws bg l2 l3 hself (fun t ht => h.rng t (adj_lt h0 ht) (ha t ht)) (succs n x.s) [] rfl (if isEnd n i then 1 else 0, false) (by cases isEnd n i <;> decide)
      rw [show (([] : List (api_Pick × Nat)).length : Int) = (0 : Int) from rfl] at p3
      rw [← adj_pl hx] at p1
      have hb0 : setl bg (i : Int) false = bg := by have := setl_self (ts := bg) hbj; rw [n2] at this; exact this
      simp only [hb0] at p3
      rw [p3]
      simp only [Option.bind_some]
      rw [if_pos (by rw [l1]; omega)]
      have hdo := h.do h0 hi hn ha p1 p2
      have hcd := count_do (dn := dn) (i := i) (by omega) hn
      rw [show IntKind.i64.wrap ((dn.count false : Int) - 1) = ((setl dn (i : Int) true).count false : Int) by rw [wi64_id (by omega) (by omega)]; omega]
      obtain ⟨dn', ws', bg', τ', e1, e2, e3⟩ := ih (by omega) _ _ _ _ hdo
      refine ⟨dn', ws', bg', τ', e1, e2, .inl ?_⟩
      rcases e3 with e3 | ⟨e3, -⟩
      · omega
      · rw [e3]; omega
end
end Go.Proofs.Ytfiamlhhhkiiaaa.K
