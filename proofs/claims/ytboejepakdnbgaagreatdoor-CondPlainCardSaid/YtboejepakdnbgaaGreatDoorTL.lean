/- Holds is a tree's truth. -/
import Derived.Test.YtboejepakdnbgaaGreatDoorTK
set_option linter.unusedVariables false
set_option linter.unusedSectionVars false
set_option linter.unusedSimpArgs false
set_option maxRecDepth 100000
namespace Go.Proofs.YtboejepakdnbgaaGreatDoor.K.C
open Go

def ofo : List api_Ref → List Int → api_Ref → Option Int
  | x :: xs, v :: vs, r => if x = r then some v else ofo xs vs r
  | _, _, _ => none
def ofv (s : weirlaw06_Set) (r : api_Ref) : Int := (ofo s.Refs s.Values r).getD s.Rest
theorem of_l (s : weirlaw06_Set) (r : api_Ref) (h1 : s.Refs.length ≤ 1000000000000000) : ∀ (n t : Nat), t + n = s.Refs.length → weirlaw06_Set__of.l0 s r (t : Int) = some (match ofo (s.Refs.drop t) (s.Values.drop t) r with | some v => .inr v | none => .inl ()) := by
  intro n
  induction n with
  | zero =>
    intro t ht
    rw [weirlaw06_Set__of.l0, if_neg (nt (decide_eq_false (by omega))), List.drop_of_length_le (by omega)]; rfl
  | succ n ih =>
    intro t ht
    have hr : t < s.Refs.length := by omega
    have g1 : (0 : Int) ≤ (t : Int) ∧ (t : Int) < (s.Refs.length : Int) := by omega
    rw [weirlaw06_Set__of.l0, if_pos (decide_eq_true g1.2), List.drop_eq_getElem_cons hr]
    by_cases hv : t < s.Values.length
    · have g2 : (0 : Int) ≤ (t : Int) ∧ (t : Int) < (s.Values.length : Int) := by omega
      rw [if_pos (decide_eq_true g2.2), if_pos g1, gt_nat hr, if_pos g2, gt_nat hv, w1 (by omega), ih (t + 1) (by omega), List.drop_eq_getElem_cons hv]
      simp only [ofo]
      by_cases he : s.Refs[t] = r
      · rw [if_pos (decide_eq_true he), if_pos he]
      · rw [if_neg (nt (decide_eq_false he)), if_neg he]
    · rw [if_neg (nt (decide_eq_false (by omega))), show s.Values.drop t = [] from List.drop_of_length_le (by omega)]; rfl
theorem of_s (s : weirlaw06_Set) (r : api_Ref) (h1 : s.Refs.length ≤ 1000000000000000) : weirlaw06_Set__of.f s r = some (ofv s r) := by
  unfold weirlaw06_Set__of.f ofv
  have := of_l s r h1 s.Refs.length 0 (by omega)
  rw [List.drop_zero, List.drop_zero, show (((0 : Nat)) : Int) = (0 : Int) from rfl] at this
  rw [this]
  cases ofo s.Refs s.Values r <;> rfl
theorem same_rl (a : List api_Ref) (hs : a.length ≤ 100000) : ∀ (n t : Nat), t + n = a.length → weirlaw06_sameRefs.l0 a a (t : Int) = some (.inl ()) := by
  intro n
  induction n with
  | zero => intro t ht; rw [weirlaw06_sameRefs.l0, if_neg (nt (decide_eq_false (by omega)))]
  | succ n ih =>
    intro t ht
    have g : (0 : Int) ≤ (t : Int) ∧ (t : Int) < (a.length : Int) := by omega
    rw [weirlaw06_sameRefs.l0, if_pos (decide_eq_true g.2), if_pos g, if_pos g, if_neg (by simp), w1 (by omega), ih (t + 1) (by omega)]
theorem same_r (a : List api_Ref) (hs : a.length ≤ 100000) : weirlaw06_sameRefs.f a a = some true := by
  unfold weirlaw06_sameRefs.f
  have := same_rl a hs a.length 0 (by omega)
  rw [show (((0 : Nat)) : Int) = (0 : Int) from rfl] at this
  rw [if_neg (by simp), this]; rfl

def vl (φ : api_Ref → Int) (t : List Bool) (x : api_Node) : Bool :=
  if x.Op = 1 then true else if x.Op = 2 then φ x.Ref == x.Value else if x.Op = 3 then !gt t x.A else if x.Op = 4 then gt t x.A && gt t x.B else gt t x.A || gt t x.B
theorem vl_1 {φ : api_Ref → Int} {t : List Bool} {x : api_Node} (h : x.Op = 1) : vl φ t x = true := by unfold vl; rw [if_pos h]
theorem vl_2 {φ : api_Ref → Int} {t : List Bool} {x : api_Node} (h : x.Op = 2) : vl φ t x = (φ x.Ref == x.Value) := by unfold vl; rw [if_neg (by omega), if_pos h]
theorem vl_3 {φ : api_Ref → Int} {t : List Bool} {x : api_Node} (h : x.Op = 3) : vl φ t x = !gt t x.A := by unfold vl; rw [if_neg (by omega), if_neg (by omega), if_pos h]
theorem vl_4 {φ : api_Ref → Int} {t : List Bool} {x : api_Node} (h : x.Op = 4) : vl φ t x = (gt t x.A && gt t x.B) := by unfold vl; rw [if_neg (by omega), if_neg (by omega), if_neg (by omega), if_pos h]
theorem vl_5 {φ : api_Ref → Int} {t : List Bool} {x : api_Node} (h : x.Op = 5) : vl φ t x = (gt t x.A || gt t x.B) := by unfold vl; rw [if_neg (by omega), if_neg (by omega), if_neg (by omega), if_neg (by omega)]
theorem hold_s {c : List api_Node} {s : weirlaw06_Set} (hs : s.Refs.length ≤ 1000000000000000) (hc : c.length ≤ 1024) {i : Nat} (hi : i < c.length) {t : List Bool} (ht : t.length = c.length)
    (ho : (gt c (i : Int)).Op = 1 ∨ (gt c (i : Int)).Op = 2 ∨ (gt c (i : Int)).Op = 3 ∨ (gt c (i : Int)).Op = 4 ∨ (gt c (i : Int)).Op = 5)
    (hA : 3 ≤ (gt c (i : Int)).Op → 0 ≤ (gt c (i : Int)).A ∧ (gt c (i : Int)).A < (t.length : Int)) (hB : 4 ≤ (gt c (i : Int)).Op → 0 ≤ (gt c (i : Int)).B ∧ (gt c (i : Int)).B < (t.length : Int)) :
    cond_Holds_1.l0 c s (i : Int) t = cond_Holds_1.l0 c s ((i + 1 : Nat) : Int) (setl t (i : Int) (vl (ofv s) t (gt c (i : Int)))) := by
  have g : (0 : Int) ≤ (i : Int) ∧ (i : Int) < (c.length : Int) := by omega
  have g2 : (0 : Int) ≤ (i : Int) ∧ (i : Int) < (t.length : Int) := by omega
  rw [cond_Holds_1.l0, if_pos (decide_eq_true g.2), if_pos g, w1 (by omega)]
  generalize gt c (i : Int) = x at ho hA hB
  rcases ho with h | h | h | h | h
  · have e1 : (x.Op == 1) = true := by rw [h]; rfl
    rw [vl_1 h, if_pos e1, if_pos g2]
  · have e1 : (x.Op == 1) = false := by rw [h]; rfl
    have e2 : (x.Op == 2) = true := by rw [h]; rfl
    rw [vl_2 h, if_neg (nt e1), if_pos e2, of_s s _ hs]
    simp only [Option.bind_eq_bind, Option.bind_some]
    cases ofv s x.Ref == x.Value
    · rw [if_neg (by decide), if_pos g2]
    · rw [if_pos rfl, if_pos g2]
  · have e1 : (x.Op == 1) = false := by rw [h]; rfl
    have e2 : (x.Op == 2) = false := by rw [h]; rfl
    have e3 : (x.Op == 3) = true := by rw [h]; rfl
    have a := hA (by omega)
    rw [vl_3 h, if_neg (nt e1), if_neg (nt e2), if_pos e3, if_pos a]
    cases gt t x.A
    · rw [if_neg (by decide), if_pos g2]; rfl
    · rw [if_pos rfl, if_pos g2]; rfl
  · have e1 : (x.Op == 1) = false := by rw [h]; rfl
    have e2 : (x.Op == 2) = false := by rw [h]; rfl
    have e3 : (x.Op == 3) = false := by rw [h]; rfl
    have e4 : (x.Op == 4) = true := by rw [h]; rfl
    have a := hA (by omega)
    have b := hB (by omega)
    rw [vl_4 h, if_neg (nt e1), if_neg (nt e2), if_neg (nt e3), if_pos e4, if_pos a]
    cases gt t x.A
    · rw [if_neg (by decide), if_pos g2]; rfl
    · rw [if_pos rfl, if_pos b]
      cases gt t x.B
      · rw [if_neg (by decide), if_pos g2]; rfl
      · rw [if_pos rfl, if_pos g2]; rfl
  · have e1 : (x.Op == 1) = false := by rw [h]; rfl
    have e2 : (x.Op == 2) = false := by rw [h]; rfl
    have e3 : (x.Op == 3) = false := by rw [h]; rfl
    have e4 : (x.Op == 4) = false := by rw [h]; rfl
    have e5 : (x.Op == 5) = true := by rw [h]; rfl
    have a := hA (by omega)
    have b := hB (by omega)
    rw [vl_5 h, if_neg (nt e1), if_neg (nt e2), if_neg (nt e3), if_neg (nt e4), if_pos e5, if_pos a]
    cases gt t x.A
    · rw [if_neg (by decide), if_pos b]
      cases gt t x.B
      · rw [if_neg (by decide), if_pos g2]; rfl
      · rw [if_pos rfl, if_pos g2]; rfl
    · rw [if_pos rfl, if_pos g2]; rfl
theorem hold_run {c : List api_Node} {s : weirlaw06_Set} (hs : s.Refs.length ≤ 1000000000000000) (hc : c.length ≤ 1024) : ∀ (t : Cd) (k : Nat) (tb : List Bool), At c k (t.nodes k) → tb.length = c.length →
    ∃ tb', cond_Holds_1.l0 c s (k : Int) tb = cond_Holds_1.l0 c s ((k + t.n : Nat) : Int) tb' ∧ tb'.length = c.length ∧ (∀ j, j < k → gt tb' (j : Int) = gt tb (j : Int)) ∧ gt tb' ((k + t.n - 1 : Nat) : Int) = t.ev (ofv s) := by
  -- one node more
  have one : ∀ (t : Cd) (k i : Nat) (tb : List Bool), i + 1 = k + t.n → At c i [t.top k] → tb.length = c.length →
      (3 ≤ (t.top k).Op → 0 ≤ (t.top k).A ∧ (t.top k).A < (tb.length : Int)) → (4 ≤ (t.top k).Op → 0 ≤ (t.top k).B ∧ (t.top k).B < (tb.length : Int)) → vl (ofv s) tb (t.top k) = t.ev (ofv s) →
      ∃ tb', cond_Holds_1.l0 c s (i : Int) tb = cond_Holds_1.l0 c s ((k + t.n : Nat) : Int) tb' ∧ tb'.length = c.length ∧ (∀ j, j < i → gt tb' (j : Int) = gt tb (j : Int)) ∧ gt tb' ((k + t.n - 1 : Nat) : Int) = t.ev (ofv s) := by
    intro t k i tb hi hat hl hA hB hv
    obtain ⟨h1, h2⟩ := hat.get
    have ho : (gt c (i : Int)).Op = 1 ∨ (gt c (i : Int)).Op = 2 ∨ (gt c (i : Int)).Op = 3 ∨ (gt c (i : Int)).Op = 4 ∨ (gt c (i : Int)).Op = 5 := by
      rw [h2]; cases t <;> simp [Cd.top]
    have hm := hold_s hs hc h1 hl ho (by rw [h2]; exact hA) (by rw [h2]; exact hB)
    rw [h2, hv, hi] at hm
    refine ⟨_, hm, by rw [setl_len]; exact hl, ?_, ?_⟩
    · intro j hj
      rw [gt_setb (by omega) (by omega), if_neg (by omega)]
    · rw [show k + t.n - 1 = i by omega, gt_setb (by omega) (by omega), if_pos rfl]
  intro t
  induction t with
  | tru => intro k tb hat hl; exact one .tru k k tb rfl hat hl (fun h => absurd h (by show ¬ (3 : Int) ≤ 1; decide)) (fun h => absurd h (by show ¬ (4 : Int) ≤ 1; decide)) rfl
  | eq r v => intro k tb hat hl; exact one (.eq r v) k k tb rfl hat hl (fun h => absurd h (by show ¬ (3 : Int) ≤ 2; decide)) (fun h => absurd h (by show ¬ (4 : Int) ≤ 2; decide)) rfl
  | not a iha =>
    intro k tb hat hl
    have ha := a.n_pos
    obtain ⟨tb1, e1, l1, o1, t1⟩ := iha k tb hat.left hl
    have h2 := hat.right
    rw [a.len] at h2
    have hlen := h2.len
    simp only [List.length_singleton] at hlen
    have hA : ((Cd.not a).top k).A = ((k + a.n - 1 : Nat) : Int) := rfl
    obtain ⟨tb2, e2, l2, o2, t2⟩ := one (.not a) k (k + a.n) tb1 (by simp only [Cd.n]; omega) h2 l1 (fun _ => by rw [hA]; omega) (fun h => absurd h (by show ¬ (4 : Int) ≤ 3; decide)) (by
      rw [vl_3 (x := (Cd.not a).top k) rfl, hA, t1]; rfl)
    exact ⟨tb2, e1.trans e2, l2, fun j hj => (o2 j (by omega)).trans (o1 j hj), t2⟩
  | and a b iha ihb =>
    intro k tb hat hl
    have ha := a.n_pos
    have hb := b.n_pos
    obtain ⟨tb1, e1, l1, o1, t1⟩ := iha k tb hat.left hl
    have h2 := hat.right
    rw [a.len] at h2
    obtain ⟨tb2, e2, l2, o2, t2⟩ := ihb (k + a.n) tb1 h2.left l1
    have h3 := h2.right
    rw [b.len] at h3
    have hlen := h3.len
    simp only [List.length_singleton] at hlen
    have hA : ((Cd.and a b).top k).A = ((k + a.n - 1 : Nat) : Int) := rfl
    have hB : ((Cd.and a b).top k).B = ((k + a.n + b.n - 1 : Nat) : Int) := rfl
    obtain ⟨tb3, e3, l3, o3, t3⟩ := one (.and a b) k (k + a.n + b.n) tb2 (by simp only [Cd.n]; omega) h3 l2 (fun _ => by rw [hA]; omega) (fun _ => by rw [hB]; omega) (by
      rw [vl_4 (x := (Cd.and a b).top k) rfl, hA, hB, t2, o2 _ (by omega), t1]; rfl)
    exact ⟨tb3, (e1.trans e2).trans e3, l3, fun j hj => ((o3 j (by omega)).trans (o2 j (by omega))).trans (o1 j hj), t3⟩
  | or a b iha ihb =>
    intro k tb hat hl
    have ha := a.n_pos
    have hb := b.n_pos
    obtain ⟨tb1, e1, l1, o1, t1⟩ := iha k tb hat.left hl
    have h2 := hat.right
    rw [a.len] at h2
    obtain ⟨tb2, e2, l2, o2, t2⟩ := ihb (k + a.n) tb1 h2.left l1
    have h3 := h2.right
    rw [b.len] at h3
    have hlen := h3.len
    simp only [List.length_singleton] at hlen
    have hA : ((Cd.or a b).top k).A = ((k + a.n - 1 : Nat) : Int) := rfl
    have hB : ((Cd.or a b).top k).B = ((k + a.n + b.n - 1 : Nat) : Int) := rfl
    obtain ⟨tb3, e3, l3, o3, t3⟩ := one (.or a b) k (k + a.n + b.n) tb2 (by simp only [Cd.n]; omega) h3 l2 (fun _ => by rw [hA]; omega) (fun _ => by rw [hB]; omega) (by
      rw [vl_5 (x := (Cd.or a b).top k) rfl, hA, hB, t2, o2 _ (by omega), t1]; rfl)
    exact ⟨tb3, (e1.trans e2).trans e3, l3, fun j hj => ((o3 j (by omega)).trans (o2 j (by omega))).trans (o1 j hj), t3⟩
theorem holds_T {t : Cd} {s : weirlaw06_Set} (hs : s.Refs.length ≤ 1000000000000000) (hn : t.n ≤ 1024) (hk : cond_Check.f (t.nodes 0) = some 0) : cond_Holds_1.f (t.nodes 0) s = some (t.ev (ofv s), 0) := by
  have hl : (t.nodes 0).length = t.n := t.len 0
  have hp := t.n_pos
  unfold cond_Holds_1.f
  rw [hk]
  simp only [Option.bind_eq_bind, Option.bind_some]
  rw [if_neg (by decide), if_pos (by omega), last_i (by omega) (by omega), hl, Int.toNat_natCast]
  obtain ⟨tb, e1, l1, -, t1⟩ := hold_run hs (by omega) t 0 (List.replicate t.n false) (at_self t) (by rw [List.length_replicate]; omega)
  rw [show (((0 : Nat)) : Int) = 0 from rfl] at e1
  rw [Nat.zero_add] at e1 t1
  rw [e1, cond_Holds_1.l0, if_neg (nt (decide_eq_false (by omega)))]
  simp only [Option.bind_some]
  rw [if_pos (by omega), t1]
  cases t.ev (ofv s) <;> rfl
/-! ### Not stands ahead of single things -/
theorem pp_run {c : List api_Node} (hc : c.length ≤ 1024) : ∀ (t : Cd) (k : Nat), At c k (t.nodes k) → t.pp → weirlaw06_CondPlain.l0 c (k : Int) = weirlaw06_CondPlain.l0 c ((k + t.n : Nat) : Int) := by
  have one : ∀ (t : Cd) (k i : Nat), i + 1 = k + t.n → At c i [t.top k] → t.op ≠ 3 → weirlaw06_CondPlain.l0 c (i : Int) = weirlaw06_CondPlain.l0 c ((k + t.n : Nat) : Int) := by
    intro t k i hi hat ho
    obtain ⟨h1, h2⟩ := hat.get
    have g : (0 : Int) ≤ (i : Int) ∧ (i : Int) < (c.length : Int) := by omega
    rw [weirlaw06_CondPlain.l0, if_pos (decide_eq_true g.2), if_pos g, w1 (by omega), h2, Cd.top_op, if_pos (bne_iff_ne.2 ho), hi]
  intro t
  induction t with
  | tru => intro k hat hp; exact one .tru k k rfl hat (by decide)
  | eq r v => intro k hat hp; exact one (.eq r v) k k rfl hat (by show (2 : Int) ≠ 3; decide)
  | not a iha =>
    intro k hat hp
    have ha : At c k (a.nodes k) := hat.left
    have hap : a.pp := by rcases hp with rfl | ⟨r, v, rfl⟩ <;> trivial
    have hn1 : a.n = 1 := by rcases hp with rfl | ⟨r, v, rfl⟩ <;> rfl
    rw [iha k ha hap]
    have h2 := hat.right
    rw [a.len] at h2
    obtain ⟨h3, h4⟩ := h2.get
    obtain ⟨q1, q2⟩ := ha.last
    have g : (0 : Int) ≤ ((k + a.n : Nat) : Int) ∧ ((k + a.n : Nat) : Int) < (c.length : Int) := by omega
    have hA : ((Cd.not a).top k).A = ((k + a.n - 1 : Nat) : Int) := rfl
    have hO : (((Cd.not a).top k).Op != 3) = false := rfl
    rw [weirlaw06_CondPlain.l0, if_pos (decide_eq_true g.2), if_pos g, w1 (by omega), h4, hO, if_neg (by decide), if_pos g, hA, if_neg (nt (decide_eq_false (by omega))), if_neg (nt (decide_eq_false (by omega))), if_pos (by omega), q2, Cd.top_op]
    have e : k + (Cd.not a).n = k + a.n + 1 := by simp only [Cd.n]; omega
    rw [e]
    rcases hp with rfl | ⟨r, v, rfl⟩
    · rw [if_pos (by decide), if_pos (by omega), if_neg (by decide)]
    · rw [if_neg (by show ¬ ((2 : Int) != 2) = true; decide)]
  | and a b iha ihb =>
    intro k hat hp
    have h2 := hat.right
    rw [a.len] at h2
    have h3 := h2.right
    rw [b.len] at h3
    rw [iha k hat.left hp.1, ihb (k + a.n) h2.left hp.2]
    exact one (.and a b) k (k + a.n + b.n) (by simp only [Cd.n]; omega) h3 (by show (4 : Int) ≠ 3; decide)
  | or a b iha ihb =>
    intro k hat hp
    have h2 := hat.right
    rw [a.len] at h2
    have h3 := h2.right
    rw [b.len] at h3
    rw [iha k hat.left hp.1, ihb (k + a.n) h2.left hp.2]
    exact one (.or a b) k (k + a.n + b.n) (by simp only [Cd.n]; omega) h3 (by show (5 : Int) ≠ 3; decide)
theorem pp_T {t : Cd} (hn : t.n ≤ 1024) (hp : t.pp) : weirlaw06_CondPlain.l0 (t.nodes 0) 0 = some (.inl ()) := by
  have hl : (t.nodes 0).length = t.n := t.len 0
  have := pp_run (c := t.nodes 0) (by omega) t 0 (at_self t) hp
  rw [show (((0 : Nat)) : Int) = 0 from rfl, Nat.zero_add] at this
  rw [this, weirlaw06_CondPlain.l0, if_neg (nt (decide_eq_false (by omega)))]
end Go.Proofs.YtboejepakdnbgaaGreatDoor.K.C
