/- The program's order of states: what graph.ordered answers. -/
import Derived.Test.YtfiamlhhhkiiaaaHB
set_option linter.unusedVariables false
set_option linter.unusedSimpArgs false
namespace Go.Proofs.Ytfiamlhhhkiiaaa.K
open Go Go.RowKit
section
variable {κ ν : Type} [DecidableEq κ]
theorem mput_key {m : List (κ × ν)} {k : κ} {v : ν} : ∀ {x : κ}, x ∈ (mput m k v).map (·.1) ↔ x ∈ m.map (·.1) ∨ x = k := by
  induction m with
  | nil => intro x; simp [mput]
  | cons p r ih =>
    intro x
    unfold mput
    split
    · rename_i e
      simp only [List.map_cons, List.mem_cons]
      constructor
      · rintro (h | h)
        · exact .inr h
        · exact .inl (.inr h)
      · rintro ((h | h) | h)
        · exact .inl (h.trans e)
        · exact .inr h
        · exact .inl h
    · simp only [List.map_cons, List.mem_cons, ih]
      constructor
      · rintro (h | h | h)
        · exact .inl (.inl h)
        · exact .inl (.inr h)
        · exact .inr h
      · rintro ((h | h) | h)
        · exact .inl h
        · exact .inr (.inl h)
        · exact .inr (.inr h)
theorem mput_nodup {m : List (κ × ν)} {k : κ} {v : ν} (h : (m.map (·.1)).Nodup) : ((mput m k v).map (·.1)).Nodup := by
  induction m with
  | nil => simp [mput]
  | cons p r ih =>
    have h2 : p.1 ∉ r.map (·.1) ∧ (r.map (·.1)).Nodup := List.nodup_cons.1 h
    unfold mput
    split
    · rename_i e
      rw [List.map_cons]
      exact List.nodup_cons.2 ⟨by rw [← e]; exact h2.1, h2.2⟩
    · rename_i e
      rw [List.map_cons]
      refine List.nodup_cons.2 ⟨fun hm => ?_, ih (h2.2)⟩
      rcases mput_key.1 hm with h3 | h3
      · exact h2.1 h3
      · exact e h3
theorem mdel_key {m : List (κ × ν)} {k : κ} : ∀ {x : κ}, x ∈ (mdel m k).map (·.1) → x ∈ m.map (·.1) := by
  induction m with
  | nil => intro x h; simp [mdel] at h
  | cons p r ih =>
    intro x h
    unfold mdel at h
    split at h
    · rw [List.map_cons]; exact List.mem_cons_of_mem _ h
    · rw [List.map_cons] at h ⊢
      rcases List.mem_cons.1 h with h1 | h1
      · exact List.mem_cons.2 (.inl h1)
      · exact List.mem_cons_of_mem _ (ih h1)
theorem mdel_nodup {m : List (κ × ν)} {k : κ} (h : (m.map (·.1)).Nodup) : ((mdel m k).map (·.1)).Nodup := by
  induction m with
  | nil => simp [mdel]
  | cons p r ih =>
    have h2 : p.1 ∉ r.map (·.1) ∧ (r.map (·.1)).Nodup := List.nodup_cons.1 h
    unfold mdel
    split
    · exact h2.2
    · rw [List.map_cons]
      exact List.nodup_cons.2 ⟨fun hm => h2.1 (mdel_key hm), ih (h2.2)⟩
theorem mget_no {m : List (κ × ν)} {k : κ} (h : k ∉ m.map (·.1)) : mget m k = none := by
  induction m with
  | nil => rfl
  | cons p r ih =>
    rw [List.map_cons, List.mem_cons] at h
    unfold mget
    rw [if_neg fun e => h (.inl e.symm)]
    exact ih fun h2 => h (.inr h2)
theorem mget_mdel {m : List (κ × ν)} {k k' : κ} (h : (m.map (·.1)).Nodup) : mget (mdel m k) k' = if k = k' then none else mget m k' := by
  induction m with
  | nil => simp [mdel, mget]
  | cons p r ih =>
    have h2 : p.1 ∉ r.map (·.1) ∧ (r.map (·.1)).Nodup := List.nodup_cons.1 h
    unfold mdel
    by_cases e : p.1 = k
    · rw [if_pos e]
      by_cases e2 : k = k'
      · rw [if_pos e2]
        refine mget_no ?_
        rw [← e2, ← e]; exact h2.1
      · rw [if_neg e2]
        show _ = (if p.1 = k' then some p.2 else mget r k')
        rw [if_neg (by rw [e]; exact e2)]
    · rw [if_neg e]
      show (if p.1 = k' then some p.2 else mget (mdel r k) k') = _
      rw [ih (h2.2)]
      show _ = if k = k' then none else (if p.1 = k' then some p.2 else mget r k')
      by_cases e2 : k = k'
      · rw [if_pos e2, if_pos e2, if_neg (by rw [← e2]; exact e)]
      · rw [if_neg e2, if_neg e2]
end
section
variable {n : weirlaw14_Net}
def txt (n : weirlaw14_Net) (j : Nat) : ByteArray := nm ((G n).getD j default).s
def RT (n : weirlaw14_Net) (R : List Nat) : List ByteArray := R.map (txt n)
theorem txt_at {j : Nat} {x : Nd} (h : (G n)[j]? = some x) : txt n j = nm x.s := by unfold txt; rw [List.getD_eq_getElem?_getD, h]; rfl
def WOk (n : weirlaw14_Net) (W : List (ByteArray × Int)) (w : Nat → Nat) : Prop := (∀ (j : Nat) (x : Nd), (G n)[j]? = some x → (mget W (nm x.s)).getD 0 = (w j : Int)) ∧ (W.map (·.1)).Nodup
theorem nm_ne (hf : Fine n) (h0 : 0 ≤ n.Start ∧ n.Start < (n.Next.length : Int)) {j t : Nat} {x z : Nd} (hx : (G n)[j]? = some x) (hz : (G n)[t]? = some z) (h : nm z.s = nm x.s) : j = t := by
  have h6 := hf.few
  have hw := G_wf h0
  have e := nm_inj (by have := hw.lt z.s (ss_mem hz); omega) (by have := hw.lt x.s (ss_mem hx); omega) h
  exact ss_same hw hx hz e.symm
theorem WOk.put (hf : Fine n) (h0 : 0 ≤ n.Start ∧ n.Start < (n.Next.length : Int)) {W : List (ByteArray × Int)} {w : Nat → Nat} (h : WOk n W w) {t : Nat} {z : Nd} (hz : (G n)[t]? = some z) (v : Nat) : WOk n (mput W (nm z.s) (v : Int)) (upn w t v) := by
  refine ⟨fun j x hx => ?_, mput_nodup h.2⟩
  rw [mget_mput]
  unfold upn
  by_cases e : j = t
  · subst e
    rw [hz] at hx; cases hx
    rw [if_pos rfl, if_pos rfl]; rfl
  · rw [if_neg fun e2 => e (nm_ne hf h0 hx hz e2), if_neg e]
    exact h.1 j x hx
theorem WOk.del (hf : Fine n) (h0 : 0 ≤ n.Start ∧ n.Start < (n.Next.length : Int)) {W : List (ByteArray × Int)} {w : Nat → Nat} (h : WOk n W w) {t : Nat} {z : Nd} (hz : (G n)[t]? = some z) : WOk n (mdel W (nm z.s)) (upn w t 0) := by
  refine ⟨fun j x hx => ?_, mdel_nodup h.2⟩
  rw [mget_mdel h.2]
  unfold upn
  by_cases e : j = t
  · subst e
    rw [hz] at hx; cases hx
    rw [if_pos rfl, if_pos rfl]; rfl
  · rw [if_neg fun e2 => e (nm_ne hf h0 hx hz e2), if_neg e]
    exact h.1 j x hx
theorem upn_upn (w : Nat → Nat) (t a b : Nat) : upn (upn w t a) t b = upn w t b := by
  funext k; unfold upn; split <;> rfl
def pl (n : weirlaw14_Net) (y : api_Pick × Nat) : Nat := (ss (G n)).idxOf y.2
theorem ord_l2 (hf : Fine n) (h0 : 0 ≤ n.Start ∧ n.Start < (n.Next.length : Int)) {j : Nat} {x : Nd} (hx : (G n)[j]? = some x) {M : List (ByteArray × List explore_edge)} (hM : mget M (nm x.s) = some ((succs n x.s).map eg)) (t67 : List ByteArray) (hq : gt t67 (IntKind.i64.wrap ((t67.length : Int) - 1)) = nm x.s) :
    ∀ (r l : List (api_Pick × Nat)), l ++ r = succs n x.s → ∀ (R : List Nat) (w : Nat → Nat) (W : List (ByteArray × Int)), WOk n W w → (∀ t, (r.map (pl n)).count t ≤ w t) → (∀ t, w t ≤ 4000000000) → R.length + r.length ≤ 1000000 →
    ∃ W', explore_graph__ordered.l2 M t67 (RT n R) (l.length : Int) W = some (RT n ((r.map (pl n)).foldl stepK (R, w)).1, W') ∧ WOk n W' ((r.map (pl n)).foldl stepK (R, w)).2 := by
  have hsl : (succs n x.s).length ≤ (row n x.s).length := sto_len ..
  have hr := hf.row x.s
  intro r
  induction r with
  | nil =>
    intro l hl R w W hW hc hb hR
    rw [List.append_nil] at hl
    rw [explore_graph__ordered.l2, hq, hM, Option.getD_some, if_neg (nt (decide_eq_false (by rw [List.length_map, hl]; omega)))]
    exact ⟨W, rfl, hW⟩
  | cons y r ih =>
    intro l hl R w W hW hc hb hR
    have hlen : l.length < (succs n x.s).length := by rw [← hl]; simp
    have hg : gt ((succs n x.s).map eg) (l.length : Int) = eg y := by
      unfold gt
      rw [Int.toNat_natCast, List.getD_eq_getElem?_getD, List.getElem?_map, ← hl]; simp
    have hym : y ∈ succs n x.s := by rw [← hl]; simp
    obtain ⟨z, hz, hzs⟩ := idx_get (G_closed h0 hx hym)
    have hz' : (G n)[pl n y]? = some z := hz
    have hpos := hc (pl n y)
    rw [List.map_cons, List.count_cons_self] at hpos
    have hv : (mget W (nm y.2)).getD 0 = (w (pl n y) : Int) := by rw [← hzs]; exact hW.1 _ z hz'
    have hbt := hb (pl n y)
    have hl2 : (l ++ [y]) ++ r = succs n x.s := by rw [← hl]; simp
    have ek : (((l ++ [y]).length : Nat) : Int) = ((l.length + 1 : Nat) : Int) := by simp
    have hstep := ih (l ++ [y]) hl2
    rw [ek] at hstep
    have hw1 : IntKind.i64.wrap ((w (pl n y) : Int) - 1) = ((w (pl n y) - 1 : Nat) : Int) := by rw [wi64_id (by omega) (by omega)]; omega
    rw [explore_graph__ordered.l2, hq, hM, Option.getD_some, if_pos (decide_eq_true (by rw [List.length_map]; omega)), if_pos (by rw [List.length_map]; omega), hg]
    rw [show (eg y).to = nm y.2 from rfl, hv, hw1, mget_mput, if_pos rfl, Option.getD_some]
    rw [List.map_cons, List.foldl_cons]
    have hput := hW.put hf h0 hz' (w (pl n y) - 1)
    rw [hzs] at hput
    have hc2 : ∀ t, (r.map (pl n)).count t ≤ upn w (pl n y) (w (pl n y) - 1) t := by
      intro t
      unfold upn
      have := hc t
      rw [List.map_cons] at this
      split
      · rename_i e; subst e; omega
      · rename_i e; rw [List.count_cons_of_ne (Ne.symm e)] at this; exact this
    have hb2 : ∀ t, upn w (pl n y) (w (pl n y) - 1) t ≤ 4000000000 := by
      intro t
      unfold upn
      have := hb t
      split
      · omega
      · exact this
    have hRl : (RT n R).length = R.length := by unfold RT; simp
    by_cases hzero : w (pl n y) - 1 = 0
    · have e : stepK (R, w) (pl n y) = (R ++ [pl n y], upn w (pl n y) (w (pl n y) - 1)) := by unfold stepK; rw [if_pos hzero, hzero]
      rw [if_pos (by rw [hzero]; rfl), if_pos (by rw [hRl, List.length_singleton]; simp at hR; omega), w1 (by omega), e]
      have hRT : RT n R ++ [nm y.2] = RT n (R ++ [pl n y]) := by
        unfold RT; rw [List.map_append, List.map_singleton, txt_at hz', hzs]
      have hdel := hput.del hf h0 hz'
      rw [hzs, upn_upn, ← hzero, show upn w (pl n y) (w (pl n y) - 1) = upn w (pl n y) (w (pl n y) - 1) from rfl] at hdel
      rw [hRT]
      exact hstep _ _ _ hdel hc2 hb2 (by simp at hR ⊢; omega)
    · have e : stepK (R, w) (pl n y) = (R, upn w (pl n y) (w (pl n y) - 1)) := by unfold stepK; rw [if_neg hzero]
      rw [if_neg (by simp; omega), w1 (by omega), e]
      exact hstep _ _ _ hput hc2 hb2 (by simp at hR ⊢; omega)
end
end Go.Proofs.Ytfiamlhhhkiiaaa.K
