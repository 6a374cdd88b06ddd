/- The document's Runs: one state's readiness and worth. -/
import Derived.Test.YtfiamlhhhkiiaaaHF
set_option linter.unusedVariables false
set_option linter.unusedSimpArgs false
namespace Go.Proofs.Ytfiamlhhhkiiaaa.K
open Go Go.RowKit
section
variable {n : weirlaw14_Net}
theorem gt_setl' {α : Type} [Inhabited α] (M : List α) (i j : Nat) (v : α) : gt (setl M (i : Int) v) (j : Int) = if i = j ∧ i < M.length then v else gt M (j : Int) := by
  unfold gt setl
  rw [Int.toNat_natCast, Int.toNat_natCast, List.getD_eq_getElem?_getD, List.getD_eq_getElem?_getD, List.getElem?_set]
  by_cases h : i = j
  · by_cases h2 : i < M.length
    · rw [if_pos h, if_pos h2, if_pos ⟨h, h2⟩]; rfl
    · rw [if_pos h, if_neg h2, if_neg (fun a => h2 a.2), List.getElem?_eq_none (by omega)]
  · rw [if_neg h, if_neg (fun a => h a.1)]
theorem setl_setl {α : Type} (M : List α) (i : Nat) (a b : α) : setl (setl M (i : Int) a) (i : Int) b = setl M (i : Int) b := by
  unfold setl; rw [List.set_set]
theorem dmv {D : List (List weirref14_Move)} (hD : MvOk n (G n) (G n).length 0 D) {i : Nat} {x : Nd} (hx : (G n)[i]? = some x) : gt D (i : Int) = (succs n x.s).map fun y => (⟨(pl n y : Int), y.1⟩ : weirref14_Move) := by
  have := hD.2 i x hx
  rw [if_pos (len_of hx)] at this
  unfold gt
  rw [Int.toNat_natCast, List.getD_eq_getElem?_getD, this]
  rfl
theorem gt_at {α : Type} [Inhabited α] {l r : List (api_Pick × Nat)} {y : api_Pick × Nat} {L : List (api_Pick × Nat)} (h : l ++ y :: r = L) (g : api_Pick × Nat → α) : gt (L.map g) (l.length : Int) = g y := by
  unfold gt
  rw [Int.toNat_natCast, List.getD_eq_getElem?_getD, List.getElem?_map, ← h]; simp
theorem ready_l2 (hf : Fine n) (h0 : 0 ≤ n.Start ∧ n.Start < (n.Next.length : Int)) {D : List (List weirref14_Move)} (hD : MvOk n (G n) (G n).length 0 D) {i : Nat} {x : Nd} (hx : (G n)[i]? = some x) (dn : List Bool) (hdn : dn.length = (G n).length) :
    ∀ (r l : List (api_Pick × Nat)), l ++ r = succs n x.s → ∀ (b : Bool), weirref14_Runs.l2 D (i : Int) dn b (l.length : Int) = some (b && (r.map (pl n)).all fun t => gt dn (t : Int)) := by
  have hsl : (succs n x.s).length ≤ (row n x.s).length := sto_len ..
  have hr := hf.row x.s
  have hil := len_of hx
  have hDl := hD.1
  intro r
  induction r with
  | nil =>
    intro l hl b
    rw [List.append_nil] at hl
    rw [weirref14_Runs.l2, if_pos (by rw [hDl]; omega), dmv hD hx, if_neg (nt (decide_eq_false (by rw [List.length_map, hl]; omega)))]
    simp
  | cons y r ih =>
    intro l hl b
    have hlen : l.length < (succs n x.s).length := by rw [← hl]; simp
    have hg := gt_at hl fun y => (⟨(pl n y : Int), y.1⟩ : weirref14_Move)
    have hym : y ∈ succs n x.s := by rw [← hl]; simp
    have hpl : pl n y < (G n).length := adj_lt h0 (j := i) (by rw [adj_pl hx]; exact List.mem_map.2 ⟨y, hym, rfl⟩)
    have hl2 : (l ++ [y]) ++ r = succs n x.s := by rw [← hl]; simp
    have ek : (((l ++ [y]).length : Nat) : Int) = ((l.length + 1 : Nat) : Int) := by simp
    have hstep := ih (l ++ [y]) hl2
    rw [ek] at hstep
    rw [weirref14_Runs.l2, if_pos (by rw [hDl]; omega), dmv hD hx, if_pos (decide_eq_true (by rw [List.length_map]; omega)), w1 (by omega)]
    rw [List.map_cons, List.all_cons]
    cases b with
    | false =>
      rw [if_neg (by decide), hstep]
      simp
    | true =>
      rw [if_pos rfl, if_pos (by rw [hDl]; omega), if_pos (by rw [List.length_map]; omega), hg, if_pos (show 0 ≤ (pl n y : Int) ∧ (pl n y : Int) < (dn.length : Int) by rw [hdn]; omega)]
      cases hb : gt dn (pl n y : Int) with
      | true => rw [if_pos rfl, hstep]; simp
      | false => rw [if_neg (by decide), hstep]; simp
theorem u64 {a b : Int} (ha : 0 ≤ a ∧ a < 18446744073709551616) (hb : 0 ≤ b ∧ b < 18446744073709551616) : IntKind.u64.wrap (a + b) = addS a b ∧ (decide (IntKind.u64.wrap (a + b) < a) = decide (addC a b > 0)) ∧ 0 ≤ addS a b ∧ addS a b < 18446744073709551616 := by
  have e : IntKind.u64.wrap (a + b) = (a + b) % 18446744073709551616 := rfl
  have e1 : addS a b = (a + b) % 18446744073709551616 := by
    unfold addS
    show ((((a.toNat + b.toNat + 0) % 18446744073709551616 : Nat)) : Int) = _
    omega
  have e2 : addC a b = (a + b) / 18446744073709551616 := by
    unfold addC
    show ((((a.toNat + b.toNat + 0) / 18446744073709551616 : Nat)) : Int) = _
    omega
  refine ⟨e.trans e1.symm, ?_, by omega, by omega⟩
  rw [e, e2]
  by_cases h : a + b < 18446744073709551616
  · rw [decide_eq_false (by omega), decide_eq_false (by omega)]
  · rw [decide_eq_true (by omega), decide_eq_true (by omega)]
theorem worth_l3 (hf : Fine n) (h0 : 0 ≤ n.Start ∧ n.Start < (n.Next.length : Int)) {D : List (List weirref14_Move)} (hD : MvOk n (G n) (G n).length 0 D) {i : Nat} {x : Nd} (hx : (G n)[i]? = some x) (ws : List Int) (bg : List Bool) (hws : ws.length = (G n).length) (hbg : bg.length = (G n).length) (hself : i ∉ adj n i) (hrng : ∀ t ∈ adj n i, 0 ≤ gt ws (t : Int) ∧ gt ws (t : Int) < 18446744073709551616) :
    ∀ (r l : List (api_Pick × Nat)), l ++ r = succs n x.s → ∀ (p : Int × Bool), 0 ≤ p.1 ∧ p.1 < 18446744073709551616 →
    ∃ p' : Int × Bool, p' = (r.map (pl n)).foldl (fun p (t : Nat) => stp p (gt ws (t : Int), gt bg (t : Int))) p ∧ (0 ≤ p'.1 ∧ p'.1 < 18446744073709551616) ∧
      weirref14_Runs.l3 D (i : Int) (l.length : Int) (setl ws (i : Int) p.1) (setl bg (i : Int) p.2) = some (setl ws (i : Int) p'.1, setl bg (i : Int) p'.2) := by
  have hsl : (succs n x.s).length ≤ (row n x.s).length := sto_len ..
  have hr := hf.row x.s
  have hil := len_of hx
  have hDl := hD.1
  intro r
  induction r with
  | nil =>
    intro l hl p hp
    rw [List.append_nil] at hl
    rw [weirref14_Runs.l3, if_pos (by rw [hDl]; omega), dmv hD hx, if_neg (nt (decide_eq_false (by rw [List.length_map, hl]; omega)))]
    exact ⟨p, rfl, hp, rfl⟩
  | cons y r ih =>
    intro l hl p hp
    have hlen : l.length < (succs n x.s).length := by rw [← hl]; simp
    have hg := gt_at hl fun y => (⟨(pl n y : Int), y.1⟩ : weirref14_Move)
    have hym : y ∈ succs n x.s := by rw [← hl]; simp
    have hin : pl n y ∈ adj n i := by rw [adj_pl hx]; exact List.mem_map.2 ⟨y, hym, rfl⟩
    have hpl : pl n y < (G n).length := adj_lt h0 hin
    have hne : ¬ (i = pl n y ∧ i < ws.length) := fun h => hself (h.1 ▸ hin)
    have hne2 : ¬ (i = pl n y ∧ i < bg.length) := fun h => hself (h.1 ▸ hin)
    have hl2 : (l ++ [y]) ++ r = succs n x.s := by rw [← hl]; simp
    have ek : (((l ++ [y]).length : Nat) : Int) = ((l.length + 1 : Nat) : Int) := by simp
    have g1 : gt (setl ws (i : Int) p.1) (i : Int) = p.1 := by rw [gt_setl', if_pos ⟨rfl, by omega⟩]
    have g2 : gt (setl bg (i : Int) p.2) (i : Int) = p.2 := by rw [gt_setl', if_pos ⟨rfl, by omega⟩]
    have g3 : gt (setl ws (i : Int) p.1) (pl n y : Int) = gt ws (pl n y : Int) := by rw [gt_setl', if_neg hne]
    have g4 : gt (setl bg (i : Int) p.2) (pl n y : Int) = gt bg (pl n y : Int) := by rw [gt_setl', if_neg hne2]
    have s1 : (setl ws (i : Int) p.1).length = (G n).length := by rw [setl_len, hws]
    have s2 : (setl bg (i : Int) p.2).length = (G n).length := by rw [setl_len, hbg]
    obtain ⟨u1, u2, u3, u4⟩ := u64 hp (hrng _ hin)
    rw [u1] at u2
    obtain ⟨p', i1, i2, i3⟩ := ih (l ++ [y]) hl2 (stp p (gt ws (pl n y : Int), gt bg (pl n y : Int))) ⟨u3, u4⟩
    rw [ek] at i3
    refine ⟨p', by rw [i1, List.map_cons, List.foldl_cons], i2, ?_⟩
    rw [weirref14_Runs.l3, if_pos (by rw [hDl]; omega), dmv hD hx, if_pos (decide_eq_true (by rw [List.length_map]; omega)), if_pos (by rw [hDl]; omega), if_pos (by rw [List.length_map]; omega), hg]
    simp only [s1, s2, g1, g2, g3, g4, u1, u2, setl_setl, Option.bind_eq_bind]
    have b1 : (0 ≤ (i : Int) ∧ (i : Int) < ((G n).length : Int)) := by omega
    have b2 : (0 ≤ (pl n y : Int) ∧ (pl n y : Int) < ((G n).length : Int)) := by omega
    simp only [if_pos b1, if_pos b2]
    rw [w1 (by omega)]
    have hbig : (if p.2 = true then some (setl bg (i : Int) true) else if gt bg (pl n y : Int) = true then some (setl bg (i : Int) true) else if decide (addC p.1 (gt ws (pl n y : Int)) > 0) = true then some (setl bg (i : Int) true) else some (setl bg (i : Int) false)) = some (setl bg (i : Int) (stp p (gt ws (pl n y : Int), gt bg (pl n y : Int))).2) := by
      unfold stp
      cases p.2 <;> cases gt bg (pl n y : Int) <;> cases decide (addC p.1 (gt ws (pl n y : Int)) > 0) <;> rfl
    rw [hbig]
    exact i3
end
end Go.Proofs.Ytfiamlhhhkiiaaa.K
