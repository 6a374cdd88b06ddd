/- The truth of a tree, and its plain form. -/
import Derived.Test.YtboejepakdnbgaaGreatDoorTI
set_option linter.unusedVariables false
set_option linter.unusedSectionVars false
set_option linter.unusedSimpArgs false
set_option maxRecDepth 100000
namespace Go.Proofs.YtboejepakdnbgaaGreatDoor.K.C
open Go

theorem gt_setb {α : Type} [Inhabited α] {t : List α} {i j : Nat} {v : α} (hi : i < t.length) (hj : j < t.length) : gt (setl t (i : Int) v) (j : Int) = if j = i then v else gt t (j : Int) := by
  rw [gt_nat (by rw [setl_len]; exact hj), gt_nat hj]
  simp only [setl, Int.toNat_natCast]
  rw [List.getElem_set]
  by_cases h : j = i
  · rw [if_pos h.symm, if_pos h]
  · rw [if_neg (fun e => h e.symm), if_neg h]
namespace Cd
def ev (φ : api_Ref → Int) : Cd → Bool
  | .tru => true
  | .eq r v => φ r == v
  | .not a => !a.ev φ
  | .and a b => a.ev φ && b.ev φ
  | .or a b => a.ev φ || b.ev φ
def pl : Bool → Cd → Cd
  | ng, .tru => if ng then .not .tru else .tru
  | ng, .eq r v => if ng then .not (.eq r v) else .eq r v
  | ng, .not a => pl (!ng) a
  | ng, .and a b => if ng then .or (pl ng a) (pl ng b) else .and (pl ng a) (pl ng b)
  | ng, .or a b => if ng then .and (pl ng a) (pl ng b) else .or (pl ng a) (pl ng b)
theorem pl_n : ∀ (t : Cd) (ng : Bool), (pl ng t).n ≤ 2 * t.n
  | .tru, ng => by cases ng <;> simp [pl, n]
  | .eq r v, ng => by cases ng <;> simp [pl, n]
  | .not a, ng => by have := pl_n a (!ng); simp only [pl, n]; omega
  | .and a b, ng => by have := pl_n a ng; have := pl_n b ng; cases ng <;> simp only [pl, n, if_true, Bool.false_eq_true, if_false] <;> omega
  | .or a b, ng => by have := pl_n a ng; have := pl_n b ng; cases ng <;> simp only [pl, n, if_true, Bool.false_eq_true, if_false] <;> omega
theorem pl_wf : ∀ (t : Cd) (ng : Bool), t.wf = true → (pl ng t).wf = true
  | .tru, ng, h => by cases ng <;> rfl
  | .eq r v, ng, h => by cases ng <;> exact h
  | .not a, ng, h => pl_wf a (!ng) h
  | .and a b, ng, h => by
    simp only [wf, Bool.and_eq_true] at h
    have h1 := pl_wf a ng h.1
    have h2 := pl_wf b ng h.2
    cases ng <;> simp [pl, wf, h1, h2]
  | .or a b, ng, h => by
    simp only [wf, Bool.and_eq_true] at h
    have h1 := pl_wf a ng h.1
    have h2 := pl_wf b ng h.2
    cases ng <;> simp [pl, wf, h1, h2]
theorem pl_ev (φ : api_Ref → Int) : ∀ (t : Cd) (ng : Bool), (pl ng t).ev φ = (ng != t.ev φ)
  | .tru, ng => by cases ng <;> rfl
  | .eq r v, ng => by cases ng <;> simp [pl, ev]
  | .not a, ng => by rw [show pl ng (.not a) = pl (!ng) a from rfl, pl_ev φ a]; cases ng <;> cases h : a.ev φ <;> simp [ev, h]
  | .and a b, ng => by
    have h1 := pl_ev φ a ng
    have h2 := pl_ev φ b ng
    cases ng <;> simp only [pl, ev, if_true, Bool.false_eq_true, if_false, h1, h2] <;> cases a.ev φ <;> cases b.ev φ <;> rfl
  | .or a b, ng => by
    have h1 := pl_ev φ a ng
    have h2 := pl_ev φ b ng
    cases ng <;> simp only [pl, ev, if_true, Bool.false_eq_true, if_false, h1, h2] <;> cases a.ev φ <;> cases b.ev φ <;> rfl
theorem pl_pl : ∀ (t : Cd) (ng : Bool), pl false (pl ng t) = pl ng t
  | .tru, ng => by cases ng <;> rfl
  | .eq r v, ng => by cases ng <;> rfl
  | .not a, ng => pl_pl a (!ng)
  | .and a b, ng => by
    have h1 := pl_pl a ng
    have h2 := pl_pl b ng
    cases ng <;> simp [pl, h1, h2]
  | .or a b, ng => by
    have h1 := pl_pl a ng
    have h2 := pl_pl b ng
    cases ng <;> simp [pl, h1, h2]
def lv : Cd → List api_Ref
  | .tru => []
  | .eq r _ => [r]
  | .not a => a.lv
  | .and a b => a.lv ++ b.lv
  | .or a b => a.lv ++ b.lv
theorem pl_lv : ∀ (t : Cd) (ng : Bool), (pl ng t).lv = t.lv
  | .tru, ng => by cases ng <;> rfl
  | .eq r v, ng => by cases ng <;> rfl
  | .not a, ng => pl_lv a (!ng)
  | .and a b, ng => by have h1 := pl_lv a ng; have h2 := pl_lv b ng; cases ng <;> simp [pl, lv, h1, h2]
  | .or a b, ng => by have h1 := pl_lv a ng; have h2 := pl_lv b ng; cases ng <;> simp [pl, lv, h1, h2]
def pp : Cd → Prop
  | .tru => True
  | .eq _ _ => True
  | .not a => a = .tru ∨ ∃ r v, a = .eq r v
  | .and a b => a.pp ∧ b.pp
  | .or a b => a.pp ∧ b.pp
theorem pl_pp : ∀ (t : Cd) (ng : Bool), (pl ng t).pp
  | .tru, ng => by cases ng <;> simp [pl, pp]
  | .eq r v, ng => by cases ng <;> simp [pl, pp]
  | .not a, ng => pl_pp a (!ng)
  | .and a b, ng => by have h1 := pl_pp a ng; have h2 := pl_pp b ng; cases ng <;> exact ⟨h1, h2⟩
  | .or a b, ng => by have h1 := pl_pp a ng; have h2 := pl_pp b ng; cases ng <;> exact ⟨h1, h2⟩
end Cd
/-! ### Plain's own recursion -/
theorem put_p (n : api_Node) (l : List api_Node) (h : l.length ≤ 100000) : cond_plain_1.f n l = some ((l.length : Int), l ++ [n]) := by
  unfold cond_plain_1.f
  have e1 : (l ++ ([n] : List api_Node)).length = l.length + 1 := by simp
  have e2 : (l.length + ([n] : List api_Node).length) * 56 ≤ 140737488355328 := by simp only [List.length_cons, List.length_nil]; omega
  rw [if_pos e2, e1, wi64_id (by omega) (by omega)]
  rw [show ((l.length + 1 : Nat) : Int) - 1 = (l.length : Int) by omega]
theorem plain_run {c : List api_Node} : ∀ (t : Cd) (k m : Nat) (ng : Bool) (out : List api_Node), At c k (t.nodes k) → t.n ≤ m → t.n ≤ 2000 → out.length + 2 * t.n ≤ 10000 →
    cond_plain.f m c ((k + t.n - 1 : Nat) : Int) ng out = some (((out.length + (Cd.pl ng t).n - 1 : Nat) : Int), out ++ (Cd.pl ng t).nodes out.length) := by
  intro t
  induction t with
  | tru =>
    intro k m ng out h hm hn ho
    obtain ⟨n, rfl⟩ : ∃ n, m = n + 1 := ⟨m - 1, by simp only [Cd.n] at hm; omega⟩
    obtain ⟨h1, h2⟩ := h.last
    simp only [Cd.n] at ho
    show cond_plain.body (cond_plain.f n) c _ _ _ = _
    unfold cond_plain.body
    rw [if_pos (gt_in h1), h2]
    have e3 : ((Cd.tru.top k).Op == 3) = false := rfl
    have e4 : ((Cd.tru.top k).Op == 4) = false := rfl
    have e5 : ((Cd.tru.top k).Op == 5) = false := rfl
    simp only [e3, e4, e5, Bool.false_eq_true, if_false, Option.bind_eq_bind, Option.bind_some]
    rw [put_p _ _ (by omega)]
    simp only [Option.bind_some]
    cases ng
    · simp only [Bool.false_eq_true, if_false]; rfl
    · simp only [if_true]
      rw [put_p _ _ (by rw [List.length_append, List.length_singleton]; omega)]
      simp only [Option.bind_some, Cd.pl, if_true, Cd.n, Cd.nodes, List.append_assoc, List.length_append, List.length_singleton]
      rfl
  | eq r v =>
    intro k m ng out h hm hn ho
    obtain ⟨n, rfl⟩ : ∃ n, m = n + 1 := ⟨m - 1, by simp only [Cd.n] at hm; omega⟩
    obtain ⟨h1, h2⟩ := h.last
    simp only [Cd.n] at ho
    show cond_plain.body (cond_plain.f n) c _ _ _ = _
    unfold cond_plain.body
    rw [if_pos (gt_in h1), h2]
    have e3 : (((Cd.eq r v).top k).Op == 3) = false := rfl
    have e4 : (((Cd.eq r v).top k).Op == 4) = false := rfl
    have e5 : (((Cd.eq r v).top k).Op == 5) = false := rfl
    simp only [e3, e4, e5, Bool.false_eq_true, if_false, Option.bind_eq_bind, Option.bind_some]
    rw [put_p _ _ (by omega)]
    simp only [Option.bind_some]
    cases ng
    · simp only [Bool.false_eq_true, if_false]; rfl
    · simp only [if_true]
      rw [put_p _ _ (by rw [List.length_append, List.length_singleton]; omega)]
      simp only [Option.bind_some, Cd.pl, if_true, Cd.n, Cd.nodes, List.append_assoc, List.length_append, List.length_singleton]
      rfl
  | not a iha =>
    intro k m ng out h hm hn ho
    simp only [Cd.n] at hm hn ho
    obtain ⟨n, rfl⟩ : ∃ n, m = n + 1 := ⟨m - 1, by omega⟩
    obtain ⟨h1, h2⟩ := h.last
    have ha : At c k (a.nodes k) := At.left h
    show cond_plain.body (cond_plain.f n) c _ _ _ = _
    unfold cond_plain.body
    rw [if_pos (gt_in h1), h2]
    have e3 : (((Cd.not a).top k).Op == 3) = true := rfl
    have hA : ((Cd.not a).top k).A = ((k + a.n - 1 : Nat) : Int) := rfl
    rw [if_pos e3, hA]
    cases ng
    · rw [if_pos (by decide), iha k n true out ha (by omega) (by omega) (by omega)]; rfl
    · rw [if_neg (by decide), iha k n false out ha (by omega) (by omega) (by omega)]; rfl
  | and a b iha ihb =>
    intro k m ng out h hm hn ho
    simp only [Cd.n] at hm hn ho
    obtain ⟨n, rfl⟩ : ∃ n, m = n + 1 := ⟨m - 1, by omega⟩
    obtain ⟨h1, h2⟩ := h.last
    have ha : At c k (a.nodes k) := At.left h
    have hb : At c (k + a.n) (b.nodes (k + a.n)) := by have := (At.right h).left; rw [a.len] at this; exact this
    have p1 := Cd.pl_n a ng
    have p2 := Cd.pl_n b ng
    have q1 := (Cd.pl ng a).n_pos
    have q2 := (Cd.pl ng b).n_pos
    show cond_plain.body (cond_plain.f n) c _ _ _ = _
    unfold cond_plain.body
    rw [if_pos (gt_in h1), h2]
    have e3 : (((Cd.and a b).top k).Op == 3) = false := rfl
    have e4 : (((Cd.and a b).top k).Op == 4) = true := rfl
    have eo : ((Cd.and a b).top k).Op = 4 := rfl
    have hA : ((Cd.and a b).top k).A = ((k + a.n - 1 : Nat) : Int) := rfl
    have hB : ((Cd.and a b).top k).B = ((k + a.n + b.n - 1 : Nat) : Int) := rfl
    simp only [e3, e4, Bool.false_eq_true, if_false, if_true, Option.bind_eq_bind, Option.bind_some, hA, hB]
    rw [iha k n ng out ha (by omega) (by omega) (by omega)]
    simp only [Option.bind_some]
    have hl : (out ++ (Cd.pl ng a).nodes out.length).length = out.length + (Cd.pl ng a).n := by rw [List.length_append, (Cd.pl ng a).len]
    rw [ihb (k + a.n) n ng _ hb (by omega) (by omega) (by rw [hl]; omega), hl]
    simp only [Option.bind_some]
    have hl2 : (out ++ (Cd.pl ng a).nodes out.length ++ (Cd.pl ng b).nodes (out.length + (Cd.pl ng a).n)).length = out.length + (Cd.pl ng a).n + (Cd.pl ng b).n := by rw [List.length_append, hl, (Cd.pl ng b).len]
    cases ng
    · simp only [Bool.false_eq_true, if_false, eo, Option.bind_some]
      rw [put_p _ _ (by rw [hl2]; omega), hl2]
      simp only [Option.bind_some, Cd.pl, Bool.false_eq_true, if_false, Cd.n, Cd.nodes, Cd.top, List.append_assoc]
      rw [show out.length + ((Cd.pl false a).n + (Cd.pl false b).n + 1) - 1 = out.length + (Cd.pl false a).n + (Cd.pl false b).n by omega]
    · simp only [if_true, eo, Option.bind_some]
      rw [put_p _ _ (by rw [hl2]; omega), hl2]
      simp only [Option.bind_some, Cd.pl, if_true, Cd.n, Cd.nodes, Cd.top, List.append_assoc]
      rw [show out.length + ((Cd.pl true a).n + (Cd.pl true b).n + 1) - 1 = out.length + (Cd.pl true a).n + (Cd.pl true b).n by omega]
      rfl
  | or a b iha ihb =>
    intro k m ng out h hm hn ho
    simp only [Cd.n] at hm hn ho
    obtain ⟨n, rfl⟩ : ∃ n, m = n + 1 := ⟨m - 1, by omega⟩
    obtain ⟨h1, h2⟩ := h.last
    have ha : At c k (a.nodes k) := At.left h
    have hb : At c (k + a.n) (b.nodes (k + a.n)) := by have := (At.right h).left; rw [a.len] at this; exact this
    have p1 := Cd.pl_n a ng
    have p2 := Cd.pl_n b ng
    have q1 := (Cd.pl ng a).n_pos
    have q2 := (Cd.pl ng b).n_pos
    show cond_plain.body (cond_plain.f n) c _ _ _ = _
    unfold cond_plain.body
    rw [if_pos (gt_in h1), h2]
    have e3 : (((Cd.or a b).top k).Op == 3) = false := rfl
    have e4 : (((Cd.or a b).top k).Op == 4) = false := rfl
    have e5 : (((Cd.or a b).top k).Op == 5) = true := rfl
    have eo : ((Cd.or a b).top k).Op = 5 := rfl
    have hA : ((Cd.or a b).top k).A = ((k + a.n - 1 : Nat) : Int) := rfl
    have hB : ((Cd.or a b).top k).B = ((k + a.n + b.n - 1 : Nat) : Int) := rfl
    simp only [e3, e4, e5, Bool.false_eq_true, if_false, if_true, Option.bind_eq_bind, Option.bind_some, hA, hB]
    rw [iha k n ng out ha (by omega) (by omega) (by omega)]
    simp only [Option.bind_some]
    have hl : (out ++ (Cd.pl ng a).nodes out.length).length = out.length + (Cd.pl ng a).n := by rw [List.length_append, (Cd.pl ng a).len]
    rw [ihb (k + a.n) n ng _ hb (by omega) (by omega) (by rw [hl]; omega), hl]
    simp only [Option.bind_some]
    have hl2 : (out ++ (Cd.pl ng a).nodes out.length ++ (Cd.pl ng b).nodes (out.length + (Cd.pl ng a).n)).length = out.length + (Cd.pl ng a).n + (Cd.pl ng b).n := by rw [List.length_append, hl, (Cd.pl ng b).len]
    cases ng
    · simp only [Bool.false_eq_true, if_false, eo, Option.bind_some]
      rw [put_p _ _ (by rw [hl2]; omega), hl2]
      simp only [Option.bind_some, Cd.pl, Bool.false_eq_true, if_false, Cd.n, Cd.nodes, Cd.top, List.append_assoc]
      rw [show out.length + ((Cd.pl false a).n + (Cd.pl false b).n + 1) - 1 = out.length + (Cd.pl false a).n + (Cd.pl false b).n by omega]
    · simp only [if_true, eo, Option.bind_some]
      rw [put_p _ _ (by rw [hl2]; omega), hl2]
      simp only [Option.bind_some, Cd.pl, if_true, Cd.n, Cd.nodes, Cd.top, List.append_assoc]
      rw [show out.length + ((Cd.pl true a).n + (Cd.pl true b).n + 1) - 1 = out.length + (Cd.pl true a).n + (Cd.pl true b).n by omega]
      rfl
theorem plain_T {t : Cd} (h : t.wf = true) (hn : t.n ≤ 1024) (hk : cond_Check.f (t.nodes 0) = some 0) : (∃ e, e ≠ 0 ∧ cond_Plain.f (t.nodes 0) = some ([], e)) ∨
    ((Cd.pl false t).n ≤ 1024 ∧ cond_Check.f ((Cd.pl false t).nodes 0) = some 0 ∧ cond_Plain.f (t.nodes 0) = some ((Cd.pl false t).nodes 0, 0)) := by
  have hl : (t.nodes 0).length = t.n := t.len 0
  have hp := t.n_pos
  have hp2 := Cd.pl_n t false
  unfold cond_Plain.f
  rw [hk]
  simp only [Option.bind_eq_bind, Option.bind_some]
  rw [if_neg (by decide), last_i (by omega) (by omega), hl]
  have hr := plain_run (c := t.nodes 0) t 0 fuelN false [] (at_self t) (by have := fuelN_ge; omega) (by omega) (by simp only [List.length_nil]; omega)
  rw [Nat.zero_add] at hr
  rw [hr]
  simp only [Option.bind_some, List.nil_append, List.length_nil]
  have hl2 : ((Cd.pl false t).nodes 0).length = (Cd.pl false t).n := (Cd.pl false t).len 0
  by_cases h1 : 1024 < (Cd.pl false t).n
  · left
    rw [if_pos (decide_eq_true (by omega))]
    exact ⟨1, by decide, rfl⟩
  · rw [if_neg (nt (decide_eq_false (by omega)))]
    rcases check_iff ((Cd.pl false t).nodes 0) with ⟨t', c1, c2, c3, c4, c5⟩ | ⟨e, c1, c2⟩
    · right
      rw [c5]
      simp only [Option.bind_some]
      rw [if_neg (by decide)]
      exact ⟨by omega, trivial, rfl⟩
    · left
      rw [c2]
      simp only [Option.bind_some]
      rw [if_pos (bne_iff_ne.2 c1)]
      exact ⟨e, c1, rfl⟩
theorem plain_again {t : Cd} (h : t.wf = true) (hn : (Cd.pl false t).n ≤ 1024) (hk : cond_Check.f ((Cd.pl false t).nodes 0) = some 0) : cond_Plain.f ((Cd.pl false t).nodes 0) = some ((Cd.pl false t).nodes 0, 0) := by
  rcases plain_T (t := Cd.pl false t) (Cd.pl_wf t false h) hn hk with ⟨e, h1, h2⟩ | ⟨h1, h2, h3⟩
  · exfalso
    have hl : ((Cd.pl false t).nodes 0).length = (Cd.pl false t).n := (Cd.pl false t).len 0
    have hp := (Cd.pl false t).n_pos
    unfold cond_Plain.f at h2
    rw [hk] at h2
    simp only [Option.bind_eq_bind, Option.bind_some] at h2
    rw [if_neg (by decide), last_i (by omega) (by omega), hl] at h2
    have hr := plain_run (c := (Cd.pl false t).nodes 0) (Cd.pl false t) 0 fuelN false [] (at_self _) (by have := fuelN_ge; omega) (by omega) (by simp only [List.length_nil]; omega)
    rw [Nat.zero_add, Cd.pl_pl] at hr
    rw [hr] at h2
    simp only [Option.bind_some, List.nil_append, List.length_nil] at h2
    rw [if_neg (nt (decide_eq_false (by omega))), hk] at h2
    simp only [Option.bind_some] at h2
    rw [if_neg (by decide)] at h2
    simp only [Option.some.injEq, Prod.mk.injEq] at h2
    exact h1 h2.2.symm
  · rw [Cd.pl_pl] at h3; exact h3
end Go.Proofs.YtboejepakdnbgaaGreatDoor.K.C
