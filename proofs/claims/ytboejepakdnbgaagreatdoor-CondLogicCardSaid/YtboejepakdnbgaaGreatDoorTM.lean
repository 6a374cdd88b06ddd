/- CondLogic: conditions put together hold as logic says. -/
import Derived.Test.YtboejepakdnbgaaGreatDoorTI0
set_option linter.unusedVariables false
set_option linter.unusedSectionVars false
set_option linter.unusedSimpArgs false
set_option maxRecDepth 100000
namespace Go.Proofs.YtboejepakdnbgaaGreatDoor.K.C
open Go

theorem gt_setb {α : Type} [Inhabited α] {t : List α} {i j : Nat} {v : α} (hi : i < t.length) (hj : j < t.length) : gt (setl t (i : Int) v) (j : Int) = if j = i then v else gt t (j : Int) := by
  rw [gt_nat (by rw [setl_len]; exact hj), gt_nat hj]
  simp only [setl, Int.toNat_natCast]
  rw [List.getElem_set]
  by_cases h : j = i
  · rw [if_pos h.symm, if_pos h]
  · rw [if_neg (fun e => h e.symm), if_neg h]
namespace Cd
def ev (φ : api_Ref → Int) : Cd → Bool
  | .tru => true
  | .eq r v => φ r == v
  | .not a => !a.ev φ
  | .and a b => a.ev φ && b.ev φ
  | .or a b => a.ev φ || b.ev φ
end Cd
def ofo : List api_Ref → List Int → api_Ref → Option Int
  | x :: xs, v :: vs, r => if x = r then some v else ofo xs vs r
  | _, _, _ => none
def ofv (s : weirlaw06_Set) (r : api_Ref) : Int := (ofo s.Refs s.Values r).getD s.Rest
theorem of_l (s : weirlaw06_Set) (r : api_Ref) (h1 : s.Refs.length ≤ 1000000000000000) : ∀ (n t : Nat), t + n = s.Refs.length → weirlaw06_Set__of.l0 s r (t : Int) = some (match ofo (s.Refs.drop t) (s.Values.drop t) r with | some v => .inr v | none => .inl ()) := by
  intro n
  induction n with
  | zero =>
    intro t ht
    rw [weirlaw06_Set__of.l0, if_neg (nt (decide_eq_false (by omega))), List.drop_of_length_le (by omega)]; rfl
  | succ n ih =>
    intro t ht
    have hr : t < s.Refs.length := by omega
    have g1 : (0 : Int) ≤ (t : Int) ∧ (t : Int) < (s.Refs.length : Int) := by omega
    rw [weirlaw06_Set__of.l0, if_pos (decide_eq_true g1.2), List.drop_eq_getElem_cons hr]
    by_cases hv : t < s.Values.length
    · have g2 : (0 : Int) ≤ (t : Int) ∧ (t : Int) < (s.Values.length : Int) := by omega
      rw [if_pos (decide_eq_true g2.2), if_pos g1, gt_nat hr, if_pos g2, gt_nat hv, w1 (by omega), ih (t + 1) (by omega), List.drop_eq_getElem_cons hv]
      simp only [ofo]
      by_cases he : s.Refs[t] = r
      · rw [if_pos (decide_eq_true he), if_pos he]
      · rw [if_neg (nt (decide_eq_false he)), if_neg he]
    · rw [if_neg (nt (decide_eq_false (by omega))), show s.Values.drop t = [] from List.drop_of_length_le (by omega)]; rfl
theorem of_s (s : weirlaw06_Set) (r : api_Ref) (h1 : s.Refs.length ≤ 1000000000000000) : weirlaw06_Set__of.f s r = some (ofv s r) := by
  unfold weirlaw06_Set__of.f ofv
  have := of_l s r h1 s.Refs.length 0 (by omega)
  rw [List.drop_zero, List.drop_zero, show (((0 : Nat)) : Int) = (0 : Int) from rfl] at this
  rw [this]
  cases ofo s.Refs s.Values r <;> rfl
def vl (φ : api_Ref → Int) (t : List Bool) (x : api_Node) : Bool :=
  if x.Op = 1 then true else if x.Op = 2 then φ x.Ref == x.Value else if x.Op = 3 then !gt t x.A else if x.Op = 4 then gt t x.A && gt t x.B else gt t x.A || gt t x.B
theorem vl_1 {φ : api_Ref → Int} {t : List Bool} {x : api_Node} (h : x.Op = 1) : vl φ t x = true := by unfold vl; rw [if_pos h]
theorem vl_2 {φ : api_Ref → Int} {t : List Bool} {x : api_Node} (h : x.Op = 2) : vl φ t x = (φ x.Ref == x.Value) := by unfold vl; rw [if_neg (by omega), if_pos h]
theorem vl_3 {φ : api_Ref → Int} {t : List Bool} {x : api_Node} (h : x.Op = 3) : vl φ t x = !gt t x.A := by unfold vl; rw [if_neg (by omega), if_neg (by omega), if_pos h]
theorem vl_4 {φ : api_Ref → Int} {t : List Bool} {x : api_Node} (h : x.Op = 4) : vl φ t x = (gt t x.A && gt t x.B) := by unfold vl; rw [if_neg (by omega), if_neg (by omega), if_neg (by omega), if_pos h]
theorem vl_5 {φ : api_Ref → Int} {t : List Bool} {x : api_Node} (h : x.Op = 5) : vl φ t x = (gt t x.A || gt t x.B) := by unfold vl; rw [if_neg (by omega), if_neg (by omega), if_neg (by omega), if_neg (by omega)]
theorem hold_s {c : List api_Node} {s : weirlaw06_Set} (hs : s.Refs.length ≤ 1000000000000000) (hc : c.length ≤ 1024) {i : Nat} (hi : i < c.length) {t : List Bool} (ht : t.length = c.length)
    (ho : (gt c (i : Int)).Op = 1 ∨ (gt c (i : Int)).Op = 2 ∨ (gt c (i : Int)).Op = 3 ∨ (gt c (i : Int)).Op = 4 ∨ (gt c (i : Int)).Op = 5)
    (hA : 3 ≤ (gt c (i : Int)).Op → 0 ≤ (gt c (i : Int)).A ∧ (gt c (i : Int)).A < (t.length : Int)) (hB : 4 ≤ (gt c (i : Int)).Op → 0 ≤ (gt c (i : Int)).B ∧ (gt c (i : Int)).B < (t.length : Int)) :
    cond_Holds_1.l0 c s (i : Int) t = cond_Holds_1.l0 c s ((i + 1 : Nat) : Int) (setl t (i : Int) (vl (ofv s) t (gt c (i : Int)))) := by
  have g : (0 : Int) ≤ (i : Int) ∧ (i : Int) < (c.length : Int) := by omega
  have g2 : (0 : Int) ≤ (i : Int) ∧ (i : Int) < (t.length : Int) := by omega
  rw [cond_Holds_1.l0, if_pos (decide_eq_true g.2), if_pos g, w1 (by omega)]
  generalize gt c (i : Int) = x at ho hA hB
  rcases ho with h | h | h | h | h
  · have e1 : (x.Op == 1) = true := by rw [h]; rfl
    rw [vl_1 h, if_pos e1, if_pos g2]
  · have e1 : (x.Op == 1) = false := by rw [h]; rfl
    have e2 : (x.Op == 2) = true := by rw [h]; rfl
    rw [vl_2 h, if_neg (nt e1), if_pos e2, of_s s _ hs]
    simp only [Option.bind_eq_bind, Option.bind_some]
    cases ofv s x.Ref == x.Value
    · rw [if_neg (by decide), if_pos g2]
    · rw [if_pos rfl, if_pos g2]
  · have e1 : (x.Op == 1) = false := by rw [h]; rfl
    have e2 : (x.Op == 2) = false := by rw [h]; rfl
    have e3 : (x.Op == 3) = true := by rw [h]; rfl
    have a := hA (by omega)
    rw [vl_3 h, if_neg (nt e1), if_neg (nt e2), if_pos e3, if_pos a]
    cases gt t x.A
    · rw [if_neg (by decide), if_pos g2]; rfl
    · rw [if_pos rfl, if_pos g2]; rfl
  · have e1 : (x.Op == 1) = false := by rw [h]; rfl
    have e2 : (x.Op == 2) = false := by rw [h]; rfl
    have e3 : (x.Op == 3) = false := by rw [h]; rfl
    have e4 : (x.Op == 4) = true := by rw [h]; rfl
    have a := hA (by omega)
    have b := hB (by omega)
    rw [vl_4 h, if_neg (nt e1), if_neg (nt e2), if_neg (nt e3), if_pos e4, if_pos a]
    cases gt t x.A
    · rw [if_neg (by decide), if_pos g2]; rfl
    · rw [if_pos rfl, if_pos b]
      cases gt t x.B
      · rw [if_neg (by decide), if_pos g2]; rfl
      · rw [if_pos rfl, if_pos g2]; rfl
  · have e1 : (x.Op == 1) = false := by rw [h]; rfl
    have e2 : (x.Op == 2) = false := by rw [h]; rfl
    have e3 : (x.Op == 3) = false := by rw [h]; rfl
    have e4 : (x.Op == 4) = false := by rw [h]; rfl
    have e5 : (x.Op == 5) = true := by rw [h]; rfl
    have a := hA (by omega)
    have b := hB (by omega)
    rw [vl_5 h, if_neg (nt e1), if_neg (nt e2), if_neg (nt e3), if_neg (nt e4), if_pos e5, if_pos a]
    cases gt t x.A
    · rw [if_neg (by decide), if_pos b]
      cases gt t x.B
      · rw [if_neg (by decide), if_pos g2]; rfl
      · rw [if_pos rfl, if_pos g2]; rfl
    · rw [if_pos rfl, if_pos g2]; rfl
theorem hold_run {c : List api_Node} {s : weirlaw06_Set} (hs : s.Refs.length ≤ 1000000000000000) (hc : c.length ≤ 1024) : ∀ (t : Cd) (k : Nat) (tb : List Bool), At c k (t.nodes k) → tb.length = c.length →
    ∃ tb', cond_Holds_1.l0 c s (k : Int) tb = cond_Holds_1.l0 c s ((k + t.n : Nat) : Int) tb' ∧ tb'.length = c.length ∧ (∀ j, j < k → gt tb' (j : Int) = gt tb (j : Int)) ∧ gt tb' ((k + t.n - 1 : Nat) : Int) = t.ev (ofv s) := by
  -- one node more
  have one : ∀ (t : Cd) (k i : Nat) (tb : List Bool), i + 1 = k + t.n → At c i [t.top k] → tb.length = c.length →
      (3 ≤ (t.top k).Op → 0 ≤ (t.top k).A ∧ (t.top k).A < (tb.length : Int)) → (4 ≤ (t.top k).Op → 0 ≤ (t.top k).B ∧ (t.top k).B < (tb.length : Int)) → vl (ofv s) tb (t.top k) = t.ev (ofv s) →
      ∃ tb', cond_Holds_1.l0 c s (i : Int) tb = cond_Holds_1.l0 c s ((k + t.n : Nat) : Int) tb' ∧ tb'.length = c.length ∧ (∀ j, j < i → gt tb' (j : Int) = gt tb (j : Int)) ∧ gt tb' ((k + t.n - 1 : Nat) : Int) = t.ev (ofv s) := by
    intro t k i tb hi hat hl hA hB hv
    obtain ⟨h1, h2⟩ := hat.get
    have ho : (gt c (i : Int)).Op = 1 ∨ (gt c (i : Int)).Op = 2 ∨ (gt c (i : Int)).Op = 3 ∨ (gt c (i : Int)).Op = 4 ∨ (gt c (i : Int)).Op = 5 := by
      rw [h2]; cases t <;> simp [Cd.top]
    have hm := hold_s hs hc h1 hl ho (by rw [h2]; exact hA) (by rw [h2]; exact hB)
    rw [h2, hv, hi] at hm
    refine ⟨_, hm, by rw [setl_len]; exact hl, ?_, ?_⟩
    · intro j hj
      rw [gt_setb (by omega) (by omega), if_neg (by omega)]
    · rw [show k + t.n - 1 = i by omega, gt_setb (by omega) (by omega), if_pos rfl]
  intro t
  induction t with
  | tru => intro k tb hat hl; exact one .tru k k tb rfl hat hl (fun h => absurd h (by show ¬ (3 : Int) ≤ 1; decide)) (fun h => absurd h (by show ¬ (4 : Int) ≤ 1; decide)) rfl
  | eq r v => intro k tb hat hl; exact one (.eq r v) k k tb rfl hat hl (fun h => absurd h (by show ¬ (3 : Int) ≤ 2; decide)) (fun h => absurd h (by show ¬ (4 : Int) ≤ 2; decide)) rfl
  | not a iha =>
    intro k tb hat hl
    have ha := a.n_pos
    obtain ⟨tb1, e1, l1, o1, t1⟩ := iha k tb hat.left hl
    have h2 := hat.right
    rw [a.len] at h2
    have hlen := h2.len
    simp only [List.length_singleton] at hlen
    have hA : ((Cd.not a).top k).A = ((k + a.n - 1 : Nat) : Int) := rfl
    obtain ⟨tb2, e2, l2, o2, t2⟩ := one (.not a) k (k + a.n) tb1 (by simp only [Cd.n]; omega) h2 l1 (fun _ => by rw [hA]; omega) (fun h => absurd h (by show ¬ (4 : Int) ≤ 3; decide)) (by
      rw [vl_3 (x := (Cd.not a).top k) rfl, hA, t1]; rfl)
    exact ⟨tb2, e1.trans e2, l2, fun j hj => (o2 j (by omega)).trans (o1 j hj), t2⟩
  | and a b iha ihb =>
    intro k tb hat hl
    have ha := a.n_pos
    have hb := b.n_pos
    obtain ⟨tb1, e1, l1, o1, t1⟩ := iha k tb hat.left hl
    have h2 := hat.right
    rw [a.len] at h2
    obtain ⟨tb2, e2, l2, o2, t2⟩ := ihb (k + a.n) tb1 h2.left l1
    have h3 := h2.right
    rw [b.len] at h3
    have hlen := h3.len
    simp only [List.length_singleton] at hlen
    have hA : ((Cd.and a b).top k).A = ((k + a.n - 1 : Nat) : Int) := rfl
    have hB : ((Cd.and a b).top k).B = ((k + a.n + b.n - 1 : Nat) : Int) := rfl
    obtain ⟨tb3, e3, l3, o3, t3⟩ := one (.and a b) k (k + a.n + b.n) tb2 (by simp only [Cd.n]; omega) h3 l2 (fun _ => by rw [hA]; omega) (fun _ => by rw [hB]; omega) (by
      rw [vl_4 (x := (Cd.and a b).top k) rfl, hA, hB, t2, o2 _ (by omega), t1]; rfl)
    exact ⟨tb3, (e1.trans e2).trans e3, l3, fun j hj => ((o3 j (by omega)).trans (o2 j (by omega))).trans (o1 j hj), t3⟩
  | or a b iha ihb =>
    intro k tb hat hl
    have ha := a.n_pos
    have hb := b.n_pos
    obtain ⟨tb1, e1, l1, o1, t1⟩ := iha k tb hat.left hl
    have h2 := hat.right
    rw [a.len] at h2
    obtain ⟨tb2, e2, l2, o2, t2⟩ := ihb (k + a.n) tb1 h2.left l1
    have h3 := h2.right
    rw [b.len] at h3
    have hlen := h3.len
    simp only [List.length_singleton] at hlen
    have hA : ((Cd.or a b).top k).A = ((k + a.n - 1 : Nat) : Int) := rfl
    have hB : ((Cd.or a b).top k).B = ((k + a.n + b.n - 1 : Nat) : Int) := rfl
    obtain ⟨tb3, e3, l3, o3, t3⟩ := one (.or a b) k (k + a.n + b.n) tb2 (by simp only [Cd.n]; omega) h3 l2 (fun _ => by rw [hA]; omega) (fun _ => by rw [hB]; omega) (by
      rw [vl_5 (x := (Cd.or a b).top k) rfl, hA, hB, t2, o2 _ (by omega), t1]; rfl)
    exact ⟨tb3, (e1.trans e2).trans e3, l3, fun j hj => ((o3 j (by omega)).trans (o2 j (by omega))).trans (o1 j hj), t3⟩
theorem holds_T {t : Cd} {s : weirlaw06_Set} (hs : s.Refs.length ≤ 1000000000000000) (hn : t.n ≤ 1024) (hk : cond_Check.f (t.nodes 0) = some 0) : cond_Holds_1.f (t.nodes 0) s = some (t.ev (ofv s), 0) := by
  have hl : (t.nodes 0).length = t.n := t.len 0
  have hp := t.n_pos
  unfold cond_Holds_1.f
  rw [hk]
  simp only [Option.bind_eq_bind, Option.bind_some]
  rw [if_neg (by decide), if_pos (by omega), last_i (by omega) (by omega), hl, Int.toNat_natCast]
  obtain ⟨tb, e1, l1, -, t1⟩ := hold_run hs (by omega) t 0 (List.replicate t.n false) (at_self t) (by rw [List.length_replicate]; omega)
  rw [show (((0 : Nat)) : Int) = 0 from rfl] at e1
  rw [Nat.zero_add] at e1 t1
  rw [e1, cond_Holds_1.l0, if_neg (nt (decide_eq_false (by omega)))]
  simp only [Option.bind_some]
  rw [if_pos (by omega), t1]
  cases t.ev (ofv s) <;> rfl
def dl (s : ByteArray) : List UInt8 := s.data.toList
theorem dl_app (s t : ByteArray) : dl (s ++ t) = dl s ++ dl t := by unfold dl; rw [ByteArray.data_append, Array.toList_append]
def cnt (l : List UInt8) : Nat := l.countP fun b => b == 40 || b == 126
theorem cnt_app (x y : List UInt8) : cnt (x ++ y) = cnt x + cnt y := List.countP_append
theorem cnt_pt (s : ByteArray) (b : Bool) : cnt (dl (pt s b)) = cnt (dl s) + (if b then 1 else 0) := by
  unfold pt
  cases b
  · rfl
  · simp only [if_true, dl_app, cnt_app, show cnt (dl (⟨#[40]⟩ : ByteArray)) = 1 from by decide, show cnt (dl (⟨#[41]⟩ : ByteArray)) = 0 from by decide]; omega
theorem dep_cnt : ∀ t : Cd, t.dep ≤ cnt (dl t.text) := by
  intro t
  induction t with
  | tru => simp [Cd.dep]
  | eq r v => simp [Cd.dep]
  | not a ih => simp only [Cd.dep, Cd.text, dl_app, cnt_app, cnt_pt, show cnt (dl (⟨#[126]⟩ : ByteArray)) = 1 from by decide]; omega
  | and a b iha ihb => simp only [Cd.dep, Cd.text, dl_app, cnt_app, cnt_pt]; omega
  | or a b iha ihb => simp only [Cd.dep, Cd.text, dl_app, cnt_app, cnt_pt]; omega
theorem deep_l {t : ByteArray} (ht : t.size ≤ 1000000) : ∀ (m i k : Nat), i + m = t.size → k ≤ i → weirlaw06_deep.l0 t (k : Int) (i : Int) = some ((k + cnt ((dl t).drop i) : Nat) : Int) := by
  intro m
  induction m with
  | zero =>
    intro i k hi hk
    rw [weirlaw06_deep.l0, if_neg (nt (decide_eq_false (by omega)))]
    rw [List.drop_of_length_le (by show t.data.toList.length ≤ i; rw [← K.size_l]; omega)]
    simp [cnt]
  | succ m ih =>
    intro i k hi hk
    have hlt : i < t.size := by omega
    have hlt2 : i < (dl t).length := by show i < t.data.toList.length; rw [← K.size_l]; exact hlt
    have g : (0 : Int) ≤ (i : Int) ∧ (i : Int) < (t.size : Int) := by omega
    have hb : byt t (i : Int) = (((dl t)[i]).toNat : Int) := byt_l t hlt2
    rw [weirlaw06_deep.l0, if_pos (decide_eq_true g.2), if_pos g, hb, w1 (by omega), w1 (by omega), if_pos g]
    rw [List.drop_eq_getElem_cons hlt2]
    generalize (dl t)[i] = b
    have hu : ∀ c : UInt8, (((b.toNat : Int) == (c.toNat : Int)) = true) ↔ b = c := fun c => by
      rw [beq_iff_eq]
      exact ⟨fun h => UInt8.toNat_inj.1 (by omega), fun h => by rw [h]⟩
    have h40 := hu 40
    have h126 := hu 126
    rw [show ((40 : UInt8).toNat : Int) = 40 from rfl] at h40
    rw [show ((126 : UInt8).toNat : Int) = 126 from rfl] at h126
    unfold cnt at ih ⊢
    rw [List.countP_cons]
    by_cases e1 : b = 40
    · rw [if_pos (h40.2 e1), ih (i + 1) (k + 1) (by omega) (by omega), e1]
      simp; omega
    · rw [if_neg (fun h => e1 (h40.1 h))]
      by_cases e2 : b = 126
      · rw [if_pos (h126.2 e2), ih (i + 1) (k + 1) (by omega) (by omega), e2]
        simp; omega
      · rw [if_neg (fun h => e2 (h126.1 h))]
        show weirlaw06_deep.l0 t (k : Int) ((i + 1 : Nat) : Int) = _
        rw [ih (i + 1) k (by omega) (by omega)]
        simp [e1, e2]
theorem deep_p {t : ByteArray} (ht : t.size ≤ 1000000) : weirlaw06_deep.f t = some ((cnt (dl t) : Nat) : Int) := by
  unfold weirlaw06_deep.f
  have := deep_l ht t.size 0 0 (by omega) (by omega)
  rw [show (((0 : Nat)) : Int) = 0 from rfl] at this
  rw [this]
  simp
theorem toks_R {w : ByteArray} {x : List Tk} (h : Run w 0 x w.size) (hd : NoB w 0) : Same (tT w) x ∧ tB w = none := by
  have hc := h.count
  rw [Nat.zero_add] at hc
  obtain ⟨L, h1, h2⟩ := tks_run h 0 (w.size - x.length + 1) (blE_stop hd _)
  rw [tks_end, show w.size - x.length + 1 + x.length = w.size + 1 by omega] at h2
  unfold tT tB
  rw [h2]
  simp only [List.append_nil]
  exact ⟨h1, trivial⟩
structure Cx (v : Nat) (w : ByteArray) (x : List Tk) (t : Cd) (d : Nat) : Prop where
  hd : Hd w
  ne : x ≠ []
  run : ∀ (s : ByteArray) (a : Nat), Rd s a w → Run s a x (a + w.size)
  gr : ∀ (l : Toks) (i : Nat), Is l i x → (v = 2 → sg l (i + x.length) 4 (⟨#[47, 92]⟩ : ByteArray) = false) → Gr l v t i (i + x.length) d
section
variable {w u : ByteArray} {x y : List Tk} {t t' : Cd} {d d' : Nat}
theorem Cx.up1 (h : Cx 0 w x t d) : Cx 1 w x t d := ⟨h.hd, h.ne, h.run, fun l i hI _ => .and0 (h.gr l i hI (fun e => by cases e))⟩
theorem Cx.up2 (h : Cx 1 w x t d) : Cx 2 w x t d := ⟨h.hd, h.ne, h.run, fun l i hI hs => .or0 (h.gr l i hI (fun e => by cases e)) (hs rfl)⟩
theorem Hd.sig {c : UInt8} (hc : Sg c) (h : Hd w) : Hd ((⟨#[c]⟩ : ByteArray) ++ w) := by
  have e0 : bA ((⟨#[c]⟩ : ByteArray) ++ w) 0 = bA (⟨#[c]⟩ : ByteArray) 0 := by rw [bA_app, if_pos (by rw [sig_z]; decide)]
  have e1 : bA ((⟨#[c]⟩ : ByteArray) ++ w) 1 = bA w 0 := by rw [bA_app, if_neg (by rw [sig_z]; decide)]; rfl
  have hw := h.1
  exact ⟨by rw [sz, sig_z]; omega, by rw [e0]; exact (sig_hd hc).1, by rw [e0]; exact (sig_hd hc).2, fun _ => ⟨by rw [sz, sig_z]; omega, by rw [e1]; exact h.2.2.1⟩⟩
theorem Run.sig {s : ByteArray} {a f : Nat} {c : UInt8} (hc : Sg c) (h1 : Rd s a (⟨#[c]⟩ : ByteArray)) (hw : NoB s (a + 1)) (hx : x ≠ []) (hr : Run s (a + 1) x f) : Run s a (tk (⟨#[c]⟩ : ByteArray) :: x) f := by
  have hz := h1.1
  rw [sig_z] at hz
  cases x with
  | nil => exact absurd rfl hx
  | cons u r => exact .cons (by omega) (sig_lex hc h1) (show (4 : Int) ≠ 0 by decide) (by omega) (blE_stop hw s.size) hr
theorem run_end {s : ByteArray} {a : Nat} (hr : Rd s a (⟨#[41]⟩ : ByteArray)) : Run s a [tk (⟨#[41]⟩ : ByteArray)] (a + 1) := by
  have hz := hr.1
  rw [sig_z] at hz
  exact .one (by omega) (sig_lex (.inr (.inl rfl)) hr) (show (4 : Int) ≠ 0 by decide) (by omega)
theorem noB41 {s : ByteArray} {a : Nat} (hr : Rd s a (⟨#[41]⟩ : ByteArray)) : NoB s a := (Lx.one (c := 41) (.inr (.inl rfl)) (by decide)).hd.noB hr
theorem Cx.atom (h : t.wf = true) (hv : t.vals) : Cx 0 ((⟨#[40]⟩ : ByteArray) ++ (t.text ++ (⟨#[41]⟩ : ByteArray))) (tk (⟨#[40]⟩ : ByteArray) :: (t.toks ++ [tk (⟨#[41]⟩ : ByteArray)])) t (t.dep + 1) where
  hd := (Lx.text t h hv).hd.app.sig (.inl rfl)
  ne := by simp
  run := by
    intro s a hr
    have h1 := hr.left
    have h2 := hr.right
    rw [sig_z] at h2
    have h3 := h2.left
    have h4 := h2.right
    have e0 : bA s (a + 1 + t.text.size) = 41 := h4.2 0 (by decide)
    have r1 := (Lx.text t h hv).run s (a + 1) h3 (by rw [e0]; exact .inr (.inr (.inl rfl)))
    have r2 := Run.app r1 (blE_stop (noB41 h4) _) (run_end h4)
    have r3 := r2.sig (.inl rfl) h1 ((Lx.text t h hv).hd.noB h3) (by simp)
    rw [sz, sz, sig_z, sig_z, show a + (1 + (t.text.size + 1)) = a + 1 + t.text.size + 1 by omega]
    exact r3
  gr := by
    intro l i hI _
    obtain ⟨⟨h0, -⟩, hI⟩ := hI
    obtain ⟨hI, ⟨h2, -⟩, -⟩ := hI.app
    have hg := toks_gr t (i + 1) h hv hI ⟨sg_x h2 (by decide), fun _ => sg_x h2 (by decide)⟩
    have g1 := Gr.par h0 (C.up2 hg (lvl_le t) (sg_x h2 (by decide))) h2
    have e : i + (tk (⟨#[40]⟩ : ByteArray) :: (t.toks ++ [tk (⟨#[41]⟩ : ByteArray)])).length = i + 1 + t.toks.length + 1 := by simp only [List.length_cons, List.length_append, List.length_nil]; omega
    rw [e]; exact g1
theorem Cx.neg (h : Cx 0 w x t d) : Cx 0 ((⟨#[126]⟩ : ByteArray) ++ w) (tk (⟨#[126]⟩ : ByteArray) :: x) (.not t) (d + 1) where
  hd := h.hd.sig (.inr (.inr (.inr (.inr (.inl rfl)))))
  ne := by simp
  run := by
    intro s a hr
    have h2 := hr.right
    rw [sig_z] at h2
    rw [sz, sig_z, show a + (1 + w.size) = a + 1 + w.size by omega]
    exact (h.run s _ h2).sig (.inr (.inr (.inr (.inr (.inl rfl))))) hr.left (h.hd.noB h2) h.ne
  gr := by
    intro l i hI _
    obtain ⟨⟨h0, -⟩, hI⟩ := hI
    have hg := h.gr l (i + 1) hI (fun e => by cases e)
    rw [List.length_cons, show i + (x.length + 1) = i + 1 + x.length by omega]
    exact .not h0 hg
theorem Cx.par (h : Cx 2 w x t d) : Cx 0 ((⟨#[40]⟩ : ByteArray) ++ (w ++ (⟨#[41]⟩ : ByteArray))) (tk (⟨#[40]⟩ : ByteArray) :: (x ++ [tk (⟨#[41]⟩ : ByteArray)])) t (d + 1) where
  hd := h.hd.app.sig (.inl rfl)
  ne := by simp
  run := by
    intro s a hr
    have h2 := hr.right
    rw [sig_z] at h2
    have r2 := Run.app (h.run s (a + 1) h2.left) (blE_stop (noB41 h2.right) _) (run_end h2.right)
    have r3 := r2.sig (.inl rfl) hr.left (h.hd.noB h2.left) (by simp)
    rw [sz, sz, sig_z, sig_z, show a + (1 + (w.size + 1)) = a + 1 + w.size + 1 by omega]
    exact r3
  gr := by
    intro l i hI _
    obtain ⟨⟨h0, -⟩, hI⟩ := hI
    obtain ⟨hI, ⟨h2, -⟩, -⟩ := hI.app
    have hg := h.gr l (i + 1) hI (fun _ => sg_x h2 (by decide))
    have g1 := Gr.par h0 hg h2
    have e : i + (tk (⟨#[40]⟩ : ByteArray) :: (x ++ [tk (⟨#[41]⟩ : ByteArray)])).length = i + 1 + x.length + 1 := by simp only [List.length_cons, List.length_append, List.length_nil]; omega
    rw [e]; exact g1
theorem blk_none : Blk (⟨#[]⟩ : ByteArray) := fun s a h hn => blE_stop hn _
theorem lng_sz {k : Nat} (hk : k < 2) : (lng k).size = 2 := by match k, hk with | 0, _ => rfl | 1, _ => rfl
theorem Run.bin {W : ByteArray} (hW : Blk W) {k : Nat} (hk : k < 2) (hu : Hd u) (hy : y ≠ []) (hw : ∀ (s : ByteArray) (a : Nat), Rd s a w → Run s a x (a + w.size)) (hr : ∀ (s : ByteArray) (a : Nat), Rd s a u → Run s a y (a + u.size)) (s : ByteArray) (a : Nat)
    (h : Rd s a (w ++ (W ++ (lng k ++ (W ++ u))))) : Run s a (x ++ tk (lng k) :: y) (a + (w ++ (W ++ (lng k ++ (W ++ u)))).size) := by
  have h1 := h.right
  have h2 := h1.right
  have h3 := h2.right
  have h4 := h3.right
  have hz := h2.left.1
  rw [lng_sz hk] at h3 h4 hz
  have nb := (Lx.two k hk).hd.noB h2.left
  have e : a + (w ++ (W ++ (lng k ++ (W ++ u)))).size = a + w.size + W.size + 2 + W.size + u.size := by rw [sz, sz, sz, sz, lng_sz hk]; omega
  rw [e]
  have r2 : Run s (a + w.size + W.size) (tk (lng k) :: y) (a + w.size + W.size + 2 + W.size + u.size) := by
    have hb := hW s (a + w.size + W.size + 2) h3.left (hu.noB h4)
    have hr' := hr s _ h4
    cases y with
    | nil => exact absurd rfl hy
    | cons v r => exact .cons (by omega) (sign2 k hk h2.left) (show (4 : Int) ≠ 0 by decide) (by omega) hb hr'
  exact Run.app (hw s a h.left) (hW s _ h1.left nb) r2
theorem Cx.and {W : ByteArray} (hW : Blk W) (h : Cx 1 w x t d) (hu : Cx 0 u y t' d') : Cx 1 (w ++ (W ++ (lng 0 ++ (W ++ u)))) (x ++ tk (lng 0) :: y) (.and t t') (max d d') where
  hd := h.hd.app
  ne := by simp
  run := Run.bin hW (by decide) hu.hd hu.ne h.run hu.run
  gr := by
    intro l i hI _
    obtain ⟨hA, ⟨h0, -⟩, hB⟩ := hI.app
    have ga := h.gr l i hA (fun e => by cases e)
    have gb := hu.gr l _ hB (fun e => by cases e)
    rw [List.length_append, List.length_cons, show i + (x.length + (y.length + 1)) = i + x.length + 1 + y.length by omega]
    exact .and1 ga h0 gb
theorem Cx.or {W : ByteArray} (hW : Blk W) (h : Cx 2 w x t d) (hu : Cx 1 u y t' d') : Cx 2 (w ++ (W ++ (lng 1 ++ (W ++ u)))) (x ++ tk (lng 1) :: y) (.or t t') (max d d') where
  hd := h.hd.app
  ne := by simp
  run := Run.bin hW (by decide) hu.hd hu.ne h.run hu.run
  gr := by
    intro l i hI hs
    obtain ⟨hA, ⟨h0, -⟩, hB⟩ := hI.app
    rw [List.length_append, List.length_cons, show i + (x.length + (y.length + 1)) = i + x.length + 1 + y.length by omega] at hs ⊢
    have ga := h.gr l i hA (fun _ => sg_x h0 (by decide))
    have gb := hu.gr l _ hB (fun e => by cases e)
    exact .or1 ga h0 gb (hs rfl)
theorem Cx.parse (h : Cx 2 w x t d) (hs : w.size ≤ 1048576) (hd : d ≤ 64) (hn : t.n ≤ 1024) : cond_Parse.f w = some (t.nodes 0, .nil) := by
  have hr := h.run w 0 (Rd.self _)
  rw [Nat.zero_add] at hr
  obtain ⟨hS, hB⟩ := toks_R hr (h.hd.noB (Rd.self _))
  refine parse_gr hs hS hB (fun L hI hk => ?_) hd hn
  have := h.gr L 0 hI (fun _ => by rw [Nat.zero_add]; exact hk _)
  rw [Nat.zero_add] at this
  exact this
theorem Cx.held {s : weirlaw06_Set} (h : Cx 2 w x t d) (hs : w.size ≤ 1048576) (hd : d ≤ 64) (hw : t.wf = true) (hn : t.n ≤ 1024) (hp : t.dep ≤ 64) (hr : s.Refs.length ≤ 1000000000000000) : weirlaw06_held.f w s = some (t.ev (ofv s), true) := by
  unfold weirlaw06_held.f
  rw [h.parse hs hd hn]
  simp only [Option.bind_eq_bind, Option.bind_some, nilN, Bool.not_true, Bool.false_eq_true, if_false]
  rw [holds_T hr hn (check_T hw hn hp)]
  simp only [Option.bind_some, num_p]
  rfl
end
/-! ### The nine texts -/
theorem vget_eq {α : Type} [Inhabited α] {n : Nat} {v : Vector α n} {i : Int} {a : α} (h : i.toNat < n) : vget (vset v i a) i = a := by
  unfold vget vset
  rw [List.getD_eq_getElem?_getD, Vector.getElem?_toList]
  simp [h]
theorem vget_ne {α : Type} [Inhabited α] {n : Nat} {v : Vector α n} {i j : Int} {a : α} (h : i.toNat ≠ j.toNat) : vget (vset v i a) j = vget v j := by
  unfold vget vset
  rw [List.getD_eq_getElem?_getD, List.getD_eq_getElem?_getD, Vector.getElem?_toList, Vector.getElem?_toList, Vector.getElem?_setIfInBounds_ne h]
def TX (x y z : ByteArray) : Vector ByteArray 9 := (vset (vset (vset (vset (vset (vset (vset (vset (vset (Vector.replicate 9 (⟨#[]⟩ : ByteArray)) 0 ((⟨#[126]⟩ : ByteArray) ++ (((⟨#[40]⟩ : ByteArray) ++ x) ++ (⟨#[41]⟩ : ByteArray)))) 1 (((((⟨#[40]⟩ : ByteArray) ++ x) ++ (⟨#[41]⟩ : ByteArray)) ++ (⟨#[32,47,92,32]⟩ : ByteArray)) ++ (((⟨#[40]⟩ : ByteArray) ++ y) ++ (⟨#[41]⟩ : ByteArray)))) 2 (((((⟨#[40]⟩ : ByteArray) ++ x) ++ (⟨#[41]⟩ : ByteArray)) ++ (⟨#[92,47]⟩ : ByteArray)) ++ (((⟨#[40]⟩ : ByteArray) ++ y) ++ (⟨#[41]⟩ : ByteArray)))) 3 (((((⟨#[126,40]⟩ : ByteArray) ++ (((⟨#[40]⟩ : ByteArray) ++ x) ++ (⟨#[41]⟩ : ByteArray))) ++ (⟨#[47,92]⟩ : ByteArray)) ++ (((⟨#[40]⟩ : ByteArray) ++ y) ++ (⟨#[41]⟩ : ByteArray))) ++ (⟨#[41]⟩ : ByteArray))) 4 ((((⟨#[126]⟩ : ByteArray) ++ (((⟨#[40]⟩ : ByteArray) ++ x) ++ (⟨#[41]⟩ : ByteArray))) ++ (⟨#[92,47,126]⟩ : ByteArray)) ++ (((⟨#[40]⟩ : ByteArray) ++ y) ++ (⟨#[41]⟩ : ByteArray)))) 5 ((((((((⟨#[40]⟩ : ByteArray) ++ x) ++ (⟨#[41]⟩ : ByteArray)) ++ (⟨#[47,92,40]⟩ : ByteArray)) ++ (((⟨#[40]⟩ : ByteArray) ++ y) ++ (⟨#[41]⟩ : ByteArray))) ++ (⟨#[92,47]⟩ : ByteArray)) ++ (((⟨#[40]⟩ : ByteArray) ++ z) ++ (⟨#[41]⟩ : ByteArray))) ++ (⟨#[41]⟩ : ByteArray))) 6 (((((((((⟨#[40]⟩ : ByteArray) ++ x) ++ (⟨#[41]⟩ : ByteArray)) ++ (⟨#[47,92]⟩ : ByteArray)) ++ (((⟨#[40]⟩ : ByteArray) ++ y) ++ (⟨#[41]⟩ : ByteArray))) ++ (⟨#[92,47]⟩ : ByteArray)) ++ (((⟨#[40]⟩ : ByteArray) ++ x) ++ (⟨#[41]⟩ : ByteArray))) ++ (⟨#[47,92]⟩ : ByteArray)) ++ (((⟨#[40]⟩ : ByteArray) ++ z) ++ (⟨#[41]⟩ : ByteArray)))) 7 ((⟨#[126,126]⟩ : ByteArray) ++ (((⟨#[40]⟩ : ByteArray) ++ x) ++ (⟨#[41]⟩ : ByteArray)))) 8 (((((((⟨#[40]⟩ : ByteArray) ++ x) ++ (⟨#[41]⟩ : ByteArray)) ++ (⟨#[92,47]⟩ : ByteArray)) ++ (((⟨#[40]⟩ : ByteArray) ++ y) ++ (⟨#[41]⟩ : ByteArray))) ++ (⟨#[47,92]⟩ : ByteArray)) ++ (((⟨#[40]⟩ : ByteArray) ++ z) ++ (⟨#[41]⟩ : ByteArray))))
theorem l0_step {s : weirlaw06_Set} {x y z : ByteArray} {V : Vector Bool 9} {k : Nat} (hk : k < 9) (hT : weirlaw06_held.f (vget (TX x y z) (k : Int)) s = some (vget V (k : Int), true)) :
    weirlaw06_CondLogic.l0 s x y z V (k : Int) = weirlaw06_CondLogic.l0 s x y z V ((k + 1 : Nat) : Int) := by
  have g : (0 : Int) ≤ (k : Int) ∧ (k : Int) < 9 := by omega
  rw [weirlaw06_CondLogic.l0, if_pos (decide_eq_true g.2), if_pos g]
  unfold TX at hT
  rw [hT]
  simp only [Option.bind_eq_bind, Option.bind_some, Bool.not_true, Bool.false_eq_true, if_false]
  rw [if_pos g, w1 (by omega)]
  cases vget V (k : Int) <;> simp
theorem l0_all {s : weirlaw06_Set} {x y z : ByteArray} {V : Vector Bool 9} (h : ∀ k : Nat, k < 9 → weirlaw06_held.f (vget (TX x y z) (k : Int)) s = some (vget V (k : Int), true)) : weirlaw06_CondLogic.l0 s x y z V 0 = some (.inl ()) := by
  have e : ∀ m k : Nat, k + m = 9 → weirlaw06_CondLogic.l0 s x y z V (k : Int) = some (.inl ()) := by
    intro m
    induction m with
    | zero => intro k hk; rw [weirlaw06_CondLogic.l0, if_neg (nt (decide_eq_false (by omega)))]
    | succ m ih => intro k hk; rw [l0_step (by omega) (h k (by omega)), ih (k + 1) (by omega)]
  exact e 9 0 rfl
theorem emp (w : ByteArray) : (⟨#[]⟩ : ByteArray) ++ w = w := ByteArray.empty_append
section
variable {w u : ByteArray} {x y : List Tk} {t t' : Cd} {d d' : Nat}
theorem Cx.and0 (h : Cx 1 w x t d) (hu : Cx 0 u y t' d') : Cx 1 (w ++ ((⟨#[47, 92]⟩ : ByteArray) ++ u)) (x ++ tk (lng 0) :: y) (.and t t') (max d d') := by
  have := Cx.and blk_none h hu
  rw [emp, emp] at this
  exact this
theorem Cx.or0 (h : Cx 2 w x t d) (hu : Cx 1 u y t' d') : Cx 2 (w ++ ((⟨#[92, 47]⟩ : ByteArray) ++ u)) (x ++ tk (lng 1) :: y) (.or t t') (max d d') := by
  have := Cx.or blk_none h hu
  rw [emp, emp] at this
  exact this
end
section
abbrev P (x : ByteArray) : ByteArray := (⟨#[40]⟩ : ByteArray) ++ (x ++ (⟨#[41]⟩ : ByteArray))
theorem q1 : (⟨#[126, 40]⟩ : ByteArray) = (⟨#[126]⟩ : ByteArray) ++ (⟨#[40]⟩ : ByteArray) := by decide
theorem q2 : (⟨#[92, 47, 126]⟩ : ByteArray) = (⟨#[92, 47]⟩ : ByteArray) ++ (⟨#[126]⟩ : ByteArray) := by decide
theorem q3 : (⟨#[47, 92, 40]⟩ : ByteArray) = (⟨#[47, 92]⟩ : ByteArray) ++ (⟨#[40]⟩ : ByteArray) := by decide
theorem q4 : (⟨#[126, 126]⟩ : ByteArray) = (⟨#[126]⟩ : ByteArray) ++ (⟨#[126]⟩ : ByteArray) := by decide
theorem q5 : (⟨#[32, 47, 92, 32]⟩ : ByteArray) = (⟨#[32]⟩ : ByteArray) ++ ((⟨#[47, 92]⟩ : ByteArray) ++ (⟨#[32]⟩ : ByteArray)) := by decide
variable (x y z : ByteArray)
theorem tx0 : vget (TX x y z) 0 = (⟨#[126]⟩ : ByteArray) ++ P x := by
  unfold TX P; simp (config := { decide := true }) only [vget_eq, vget_ne, ne_eq, not_false_eq_true, q1, q2, q3, q4, q5, ByteArray.append_assoc]
theorem tx1 : vget (TX x y z) 1 = P x ++ ((⟨#[32]⟩ : ByteArray) ++ (lng 0 ++ ((⟨#[32]⟩ : ByteArray) ++ P y))) := by
  show vget (TX x y z) 1 = P x ++ ((⟨#[32]⟩ : ByteArray) ++ ((⟨#[47, 92]⟩ : ByteArray) ++ ((⟨#[32]⟩ : ByteArray) ++ P y)))
  unfold TX P; simp (config := { decide := true }) only [vget_eq, vget_ne, ne_eq, not_false_eq_true, q1, q2, q3, q4, q5, ByteArray.append_assoc]
theorem tx2 : vget (TX x y z) 2 = P x ++ ((⟨#[92, 47]⟩ : ByteArray) ++ P y) := by
  unfold TX P; simp (config := { decide := true }) only [vget_eq, vget_ne, ne_eq, not_false_eq_true, q1, q2, q3, q4, q5, ByteArray.append_assoc]
theorem tx3 : vget (TX x y z) 3 = (⟨#[126]⟩ : ByteArray) ++ P (P x ++ ((⟨#[47, 92]⟩ : ByteArray) ++ P y)) := by
  unfold TX P; simp (config := { decide := true }) only [vget_eq, vget_ne, ne_eq, not_false_eq_true, q1, q2, q3, q4, q5, ByteArray.append_assoc]
theorem tx4 : vget (TX x y z) 4 = ((⟨#[126]⟩ : ByteArray) ++ P x) ++ ((⟨#[92, 47]⟩ : ByteArray) ++ ((⟨#[126]⟩ : ByteArray) ++ P y)) := by
  unfold TX P; simp (config := { decide := true }) only [vget_eq, vget_ne, ne_eq, not_false_eq_true, q1, q2, q3, q4, q5, ByteArray.append_assoc]
theorem tx5 : vget (TX x y z) 5 = P x ++ ((⟨#[47, 92]⟩ : ByteArray) ++ P (P y ++ ((⟨#[92, 47]⟩ : ByteArray) ++ P z))) := by
  unfold TX P; simp (config := { decide := true }) only [vget_eq, vget_ne, ne_eq, not_false_eq_true, q1, q2, q3, q4, q5, ByteArray.append_assoc]
theorem tx6 : vget (TX x y z) 6 = (P x ++ ((⟨#[47, 92]⟩ : ByteArray) ++ P y)) ++ ((⟨#[92, 47]⟩ : ByteArray) ++ (P x ++ ((⟨#[47, 92]⟩ : ByteArray) ++ P z))) := by
  unfold TX P; simp (config := { decide := true }) only [vget_eq, vget_ne, ne_eq, not_false_eq_true, q1, q2, q3, q4, q5, ByteArray.append_assoc]
theorem tx7 : vget (TX x y z) 7 = (⟨#[126]⟩ : ByteArray) ++ ((⟨#[126]⟩ : ByteArray) ++ P x) := by
  unfold TX P; simp (config := { decide := true }) only [vget_eq, vget_ne, ne_eq, not_false_eq_true, q1, q2, q3, q4, q5, ByteArray.append_assoc]
theorem tx8 : vget (TX x y z) 8 = P x ++ ((⟨#[92, 47]⟩ : ByteArray) ++ (P y ++ ((⟨#[47, 92]⟩ : ByteArray) ++ P z))) := by
  unfold TX P; simp (config := { decide := true }) only [vget_eq, vget_ne, ne_eq, not_false_eq_true, q1, q2, q3, q4, q5, ByteArray.append_assoc]
end
theorem P_sz (x : ByteArray) : (P x).size = x.size + 2 := by unfold P; rw [sz, sz, sig_z, sig_z]; omega
structure Ok (s : weirlaw06_Set) (D M L : Nat) (w : ByteArray) (e : Bool) : Prop where
  ex : ∃ (t : Cd) (X : List Tk) (d : Nat), Cx 2 w X t d ∧ t.wf = true ∧ d ≤ D + 3 ∧ t.dep ≤ D + 4 ∧ t.n ≤ 2 * M + 3 ∧ w.size ≤ 2 * L + 40 ∧ t.ev (ofv s) = e
theorem Ok.of {s : weirlaw06_Set} {D M L : Nat} {w w' : ByteArray} {X : List Tk} {t : Cd} {d : Nat} {e : Bool} (h1 : w' = w) (h2 : Cx 2 w X t d) (h3 : t.wf = true) (h4 : d ≤ D + 3 ∧ t.dep ≤ D + 4) (h6 : t.n ≤ 2 * M + 3) (h7 : w.size ≤ 2 * L + 40) (h8 : t.ev (ofv s) = e) : Ok s D M L w' e :=
  ⟨⟨t, X, d, h1 ▸ h2, h3, h4.1, h4.2, h6, h1 ▸ h7, h8⟩⟩
theorem Ok.held {s : weirlaw06_Set} {D M L : Nat} {w : ByteArray} {e : Bool} (h : Ok s D M L w e) (hD : D ≤ 55) (hM : M ≤ 400) (hL : L ≤ 300000) (hr : s.Refs.length ≤ 1000000000000000) : weirlaw06_held.f w s = some (e, true) := by
  obtain ⟨t, X, d, h1, h2, h3, h4, h5, h6, h7⟩ := h.ex
  rw [h1.held (by omega) (by omega) h2 (by omega) (by omega) hr, h7]
section
variable {a b c : Cd} {s : weirlaw06_Set} (ha : a.wf = true) (hb : b.wf = true) (hc : c.wf = true) (va : a.vals) (vb : b.vals) (vc : c.vals)
theorem bk1 (o : Int) (t : Cd) (q : Bool) : (if Cd.bk o t q = true then 1 else 0) ≤ 1 := by split <;> omega
include ha hb hc va vb vc
theorem nine (k : Nat) (hk : k < 9) : Ok s (a.dep + b.dep + c.dep) (a.n + b.n + c.n) (a.text.size + b.text.size + c.text.size) (vget (TX a.text b.text c.text) (k : Int)) ([!a.ev (ofv s), a.ev (ofv s) && b.ev (ofv s), a.ev (ofv s) || b.ev (ofv s), !(a.ev (ofv s) && b.ev (ofv s)), !a.ev (ofv s) || !b.ev (ofv s), a.ev (ofv s) && (b.ev (ofv s) || c.ev (ofv s)), a.ev (ofv s) && b.ev (ofv s) || a.ev (ofv s) && c.ev (ofv s), a.ev (ofv s), a.ev (ofv s) || b.ev (ofv s) && c.ev (ofv s)].getD k false) := by
  have cA := Cx.atom ha va
  have cB := Cx.atom hb vb
  have cC := Cx.atom hc vc
  have pa := a.n_pos
  have pb := b.n_pos
  have pc := c.n_pos
  have z : (⟨#[126]⟩ : ByteArray).size = 1 ∧ (⟨#[32]⟩ : ByteArray).size = 1 ∧ (⟨#[92, 47]⟩ : ByteArray).size = 2 ∧ (⟨#[47, 92]⟩ : ByteArray).size = 2 ∧ (⟨#[40]⟩ : ByteArray).size = 1 ∧ (⟨#[41]⟩ : ByteArray).size = 1 := ⟨rfl, rfl, rfl, rfl, rfl, rfl⟩
  obtain ⟨z1, z2, z3, z4, z5, z6⟩ := z
  match k, hk with
  | 0, _ => exact Ok.of (tx0 _ _ _) cA.neg.up1.up2 ha ⟨by omega, by simp only [Cd.dep]; have := bk1 3 a false; omega⟩ (by simp only [Cd.n]; omega) (by simp only [sz, P_sz, z1, z2, z3, z4, z5, z6]; omega) rfl
  | 1, _ => exact Ok.of (tx1 _ _ _) (Cx.and blk_one cA.up1 cB).up2 (by simp only [Cd.wf, ha, hb, hc]; rfl) ⟨by omega, by simp only [Cd.dep]; have := bk1 4 a false; have := bk1 4 b true; omega⟩ (by simp only [Cd.n]; omega) (by simp only [sz, P_sz, z1, z2, z3, z4, z5, z6]; have := lng_sz (k := 0) (by decide); omega) rfl
  | 2, _ => exact Ok.of (tx2 _ _ _) (Cx.or0 cA.up1.up2 cB.up1) (by simp only [Cd.wf, ha, hb, hc]; rfl) ⟨by omega, by simp only [Cd.dep]; have := bk1 5 a false; have := bk1 5 b true; omega⟩ (by simp only [Cd.n]; omega) (by simp only [sz, P_sz, z1, z2, z3, z4, z5, z6]; omega) rfl
  | 3, _ => exact Ok.of (tx3 _ _ _) (Cx.and0 cA.up1 cB).up2.par.neg.up1.up2 (by simp only [Cd.wf, ha, hb, hc]; rfl) ⟨by omega, by simp only [Cd.dep]; have := bk1 4 a false; have := bk1 4 b true; have := bk1 3 (.and a b) false; omega⟩ (by simp only [Cd.n]; omega) (by simp only [sz, P_sz, z1, z2, z3, z4, z5, z6]; omega) rfl
  | 4, _ => exact Ok.of (tx4 _ _ _) (Cx.or0 cA.neg.up1.up2 cB.neg.up1) (by simp only [Cd.wf, ha, hb, hc]; rfl) ⟨by omega, by simp only [Cd.dep]; have := bk1 3 a false; have := bk1 3 b false; have := bk1 5 (.not a) false; have := bk1 5 (.not b) true; omega⟩ (by simp only [Cd.n]; omega) (by simp only [sz, P_sz, z1, z2, z3, z4, z5, z6]; omega) rfl
  | 5, _ => exact Ok.of (tx5 _ _ _) (Cx.and0 cA.up1 (Cx.or0 cB.up1.up2 cC.up1).par).up2 (by simp only [Cd.wf, ha, hb, hc]; rfl) ⟨by omega, by simp only [Cd.dep]; have := bk1 4 a false; have := bk1 4 (.or b c) true; have := bk1 5 b false; have := bk1 5 c true; omega⟩ (by simp only [Cd.n]; omega) (by simp only [sz, P_sz, z1, z2, z3, z4, z5, z6]; omega) rfl
  | 6, _ => exact Ok.of (tx6 _ _ _) (Cx.or0 (Cx.and0 cA.up1 cB).up2 (Cx.and0 cA.up1 cC)) (by simp only [Cd.wf, ha, hb, hc]; rfl) ⟨by omega, by simp only [Cd.dep]; have := bk1 4 a false; have := bk1 4 b true; have := bk1 4 c true; have := bk1 5 (.and a b) false; have := bk1 5 (.and a c) true; omega⟩ (by simp only [Cd.n]; omega) (by simp only [sz, P_sz, z1, z2, z3, z4, z5, z6]; omega) rfl
  | 7, _ => exact Ok.of (tx7 _ _ _) cA.neg.neg.up1.up2 ha ⟨by omega, by simp only [Cd.dep]; have := bk1 3 a false; have := bk1 3 (.not a) false; omega⟩ (by simp only [Cd.n]; omega) (by simp only [sz, P_sz, z1, z2, z3, z4, z5, z6]; omega) (by simp [Cd.ev])
  | 8, _ => exact Ok.of (tx8 _ _ _) (Cx.or0 cA.up1.up2 (Cx.and0 cB.up1 cC)) (by simp only [Cd.wf, ha, hb, hc]; rfl) ⟨by omega, by simp only [Cd.dep]; have := bk1 5 a false; have := bk1 5 (.and b c) true; have := bk1 4 b false; have := bk1 4 c true; omega⟩ (by simp only [Cd.n]; omega) (by simp only [sz, P_sz, z1, z2, z3, z4, z5, z6]; omega) rfl
end
theorem text_or (c : List api_Node) (hl : c.length * 56 ≤ bnd ∧ ∀ x ∈ c, ok_api_Node x) : (∃ t : Cd, t.wf = true ∧ t.vals ∧ c = t.nodes 0 ∧ t.n ≤ 1024 ∧ t.dep ≤ 64 ∧ cond_Text.f c = some (t.text, 0)) ∨ (∃ e, e ≠ 0 ∧ cond_Text.f c = some ((⟨#[]⟩ : ByteArray), e)) := by
  rcases check_iff c with ⟨t, h1, h2, h3, h4, h5⟩ | ⟨e, h1, h2⟩
  · have hv : t.vals := vals_of t 0 (fun x hx => wf64 (hl.2 x (by rw [h2]; exact hx)).2.2.2.2)
    subst h2
    exact .inl ⟨t, h1, hv, rfl, h3, h4, text_T h1 hv h3 h4⟩
  · refine .inr ⟨e, h1, ?_⟩
    unfold cond_Text.f
    rw [h2]
    simp only [Option.bind_eq_bind, Option.bind_some]
    rw [if_pos (bne_iff_ne.2 h1)]
theorem g_pos {α : Type} {c : Prop} [Decidable c] {x : Option α} {y : Option α} (h : c) (hx : x = y) : (if c then x else none) = y := by rw [if_pos h]; exact hx
theorem cnt_le (l : List UInt8) : cnt l ≤ l.length := List.countP_le_length
theorem logic_law (a b c : List api_Node) (s : weirlaw06_Set) (ha : a.length * 56 ≤ bnd ∧ ∀ x ∈ a, ok_api_Node x) (hb : b.length * 56 ≤ bnd ∧ ∀ x ∈ b, ok_api_Node x) (hc : c.length * 56 ≤ bnd ∧ ∀ x ∈ c, ok_api_Node x) (hs : s.Refs.length ≤ 1000000000000000) : weirlaw06_CondLogic.f a b c s = some true := by
  have hbn : bnd = 140737488351232 := rfl
  unfold weirlaw06_CondLogic.f
  rw [works]
  simp only [Option.bind_eq_bind, Option.bind_some, Bool.not_true, Bool.false_eq_true, if_false]
  have ha1 := ha.1
  have hb1 := hb.1
  have hc1 := hc.1
  rw [wi64_id (n := (a.length : Int) + (b.length : Int)) (by omega) (by omega), wi64_id (by omega) (by omega)]
  by_cases h300 : (a.length : Int) + (b.length : Int) + (c.length : Int) > 300
  · rw [if_pos (decide_eq_true h300)]
  rw [if_neg (nt (decide_eq_false h300))]
  rcases text_or a ha with ⟨ta, a1, a2, a3, a4, a5, a6⟩ | ⟨e, a1, a6⟩
  rotate_left
  · rw [a6]
    rcases text_or b hb with ⟨tb, b1, b2, b3, b4, b5, b6⟩ | ⟨e, b1, b6⟩ <;> rcases text_or c hc with ⟨tc, c1, c2, c3, c4, c5, c6⟩ | ⟨e, c1, c6⟩ <;> rw [b6] <;> simp only [Option.bind_some] <;> rw [c6] <;> simp only [Option.bind_some, num_p] <;> rw [if_pos (bne_iff_ne.2 a1)]
  rcases text_or b hb with ⟨tb, b1, b2, b3, b4, b5, b6⟩ | ⟨e, b1, b6⟩
  rotate_left
  · rw [a6, b6]
    rcases text_or c hc with ⟨tc, c1, c2, c3, c4, c5, c6⟩ | ⟨e, c1, c6⟩ <;> simp only [Option.bind_some] <;> rw [c6] <;> simp only [Option.bind_some, num_p] <;> rw [if_neg (by decide), if_pos (bne_iff_ne.2 b1)]
  rcases text_or c hc with ⟨tc, c1, c2, c3, c4, c5, c6⟩ | ⟨e, c1, c6⟩
  rotate_left
  · rw [a6, b6]
    simp only [Option.bind_some]
    rw [c6]
    simp only [Option.bind_some, num_p]
    rw [if_neg (by decide), if_neg (by decide), if_pos (bne_iff_ne.2 c1)]
  rw [a6, b6]
  simp only [Option.bind_some]
  rw [c6]
  simp only [Option.bind_some, num_p]
  rw [if_neg (by decide), if_neg (by decide), if_neg (by decide)]
  have sa := text_size ta a1 a2
  have sb := text_size tb b1 b2
  have sc := text_size tc c1 c2
  have la : ta.n = a.length := by rw [a3, ta.len]
  have lb : tb.n = b.length := by rw [b3, tb.len]
  have lc : tc.n = c.length := by rw [c3, tc.len]
  rw [deep_p (by omega), Option.bind_some, deep_p (by omega), Option.bind_some, deep_p (by omega), Option.bind_some]
  have ka := cnt_le (dl ta.text)
  have kb := cnt_le (dl tb.text)
  have kc := cnt_le (dl tc.text)
  have za : ∀ t : ByteArray, (dl t).length = t.size := fun t => by unfold dl; rw [Array.length_toList]; rfl
  rw [za] at ka kb kc
  rw [wi64_id (n := ((cnt (dl ta.text) : Nat) : Int) + ((cnt (dl tb.text) : Nat) : Int)) (by omega) (by omega), wi64_id (by omega) (by omega)]
  by_cases h50 : ((cnt (dl ta.text) : Nat) : Int) + ((cnt (dl tb.text) : Nat) : Int) + ((cnt (dl tc.text) : Nat) : Int) > 50
  · rw [if_pos (decide_eq_true h50)]
  rw [if_neg (nt (decide_eq_false h50))]
  have da := dep_cnt ta
  have db := dep_cnt tb
  have dc := dep_cnt tc
  have hP : ∀ t : Cd, t.wf = true → t.vals → t.n ≤ 300 → t.dep ≤ 50 → weirlaw06_held.f (((⟨#[40]⟩ : ByteArray) ++ t.text) ++ (⟨#[41]⟩ : ByteArray)) s = some (t.ev (ofv s), true) := by
    intro t h1 h2 h3 h4
    have hz := text_size t h1 h2
    rw [ByteArray.append_assoc]
    exact (Cx.atom h1 h2).up1.up2.held (by rw [P_sz]; omega) (by omega) h1 (by omega) (by omega) hs
  have z : (⟨#[40]⟩ : ByteArray).size = 1 ∧ (⟨#[41]⟩ : ByteArray).size = 1 ∧ (⟨#[126]⟩ : ByteArray).size = 1 ∧ (⟨#[32, 47, 92, 32]⟩ : ByteArray).size = 4 ∧ (⟨#[92, 47]⟩ : ByteArray).size = 2 ∧ (⟨#[47, 92]⟩ : ByteArray).size = 2 ∧ (⟨#[126, 40]⟩ : ByteArray).size = 2 ∧ (⟨#[92, 47, 126]⟩ : ByteArray).size = 3 ∧ (⟨#[47, 92, 40]⟩ : ByteArray).size = 3 ∧ (⟨#[126, 126]⟩ : ByteArray).size = 2 := ⟨rfl, rfl, rfl, rfl, rfl, rfl, rfl, rfl, rfl, rfl⟩
  obtain ⟨z1, z2, z3, z4, z5, z6, z7, z8, z9, z10⟩ := z
  iterate 6 refine g_pos (by simp only [sz, z1, z2, z3, z4, z5, z6, z7, z8, z9, z10]; omega) ?_
  rw [hP ta a1 a2 (by omega) (by omega), Option.bind_some]
  simp only
  rw [hP tb b1 b2 (by omega) (by omega), Option.bind_some]
  simp only
  rw [hP tc c1 c2 (by omega) (by omega), Option.bind_some]
  simp only [Bool.not_true, Bool.false_eq_true, if_false]
  repeat refine g_pos (by simp only [sz, z1, z2, z3, z4, z5, z6, z7, z8, z9, z10]; omega) ?_
  have hn := fun (k : Nat) (hk : k < 9) => (nine (s := s) a1 b1 c1 a2 b2 c2 k hk).held (by omega) (by omega) (by omega) hs
  generalize ta.ev (ofv s) = p at hn ⊢
  generalize tb.ev (ofv s) = q at hn ⊢
  generalize tc.ev (ofv s) = r at hn ⊢
  have fin : ∀ V : Vector Bool 9, (∀ k : Nat, k < 9 → [!p, p && q, p || q, !(p && q), !p || !q, p && (q || r), p && q || p && r, p, p || q && r].getD k false = vget V (k : Int)) → (weirlaw06_CondLogic.l0 s ta.text tb.text tc.text V 0).bind (fun | .inl () => some true | .inr e => some e) = some true := by
    intro V hV
    rw [l0_all (fun k hk => by rw [hn k hk, hV k hk])]
    rfl
  cases p <;> cases q <;> simp only [Bool.not_true, Bool.not_false, Bool.false_eq_true, if_true, if_false, Option.bind_some] <;> refine fin _ (fun k hk => ?_) <;>
    (have hk9 : k = 0 ∨ k = 1 ∨ k = 2 ∨ k = 3 ∨ k = 4 ∨ k = 5 ∨ k = 6 ∨ k = 7 ∨ k = 8 := by omega) <;> cases r <;> rcases hk9 with h | h | h | h | h | h | h | h | h <;> subst h <;> rfl
end Go.Proofs.YtboejepakdnbgaaGreatDoor.K.C
namespace Go.Proofs.YtboejepakdnbgaaGreatDoor.K
theorem law3 (a b c : List api_Node) (s : weirlaw06_Set) (ha : a.length * 56 ≤ bnd ∧ ∀ x ∈ a, ok_api_Node x) (hb : b.length * 56 ≤ bnd ∧ ∀ x ∈ b, ok_api_Node x) (hc : c.length * 56 ≤ bnd ∧ ∀ x ∈ c, ok_api_Node x) (hs : ok_weirlaw06_Set s) : weirlaw06_CondLogic.f a b c s = some true := C.logic_law a b c s ha hb hc (by have h1 := hs.1.1; have h2 : bnd = 140737488351232 := rfl; omega)
end Go.Proofs.YtboejepakdnbgaaGreatDoor.K
