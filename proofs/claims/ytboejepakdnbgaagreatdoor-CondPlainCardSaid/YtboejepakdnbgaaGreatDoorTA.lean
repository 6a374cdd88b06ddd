/- Conditions as trees; which nodes make one. -/
import Derived.Test.YtboejepakdnbgaaGreatDoorYA
import Derived.Test.YtboejepakdnbgaaGreatDoorO
set_option linter.unusedVariables false
set_option linter.unusedSectionVars false
set_option linter.unusedSimpArgs false
set_option maxRecDepth 100000
namespace Go.Proofs.YtboejepakdnbgaaGreatDoor.K.C
open Go

abbrev R0 : api_Ref := ⟨0, (⟨#[]⟩ : ByteArray)⟩
inductive Cd where
  | tru : Cd
  | eq (r : api_Ref) (v : Int) : Cd
  | not (a : Cd) : Cd
  | and (a b : Cd) : Cd
  | or (a b : Cd) : Cd
namespace Cd
def n : Cd → Nat
  | .tru => 1
  | .eq _ _ => 1
  | .not a => a.n + 1
  | .and a b => a.n + b.n + 1
  | .or a b => a.n + b.n + 1
def top : Cd → Nat → api_Node
  | .tru, _ => ⟨1, 0, 0, R0, 0⟩
  | .eq r v, _ => ⟨2, 0, 0, r, v⟩
  | .not a, k => ⟨3, ((k + a.n - 1 : Nat) : Int), 0, R0, 0⟩
  | .and a b, k => ⟨4, ((k + a.n - 1 : Nat) : Int), ((k + a.n + b.n - 1 : Nat) : Int), R0, 0⟩
  | .or a b, k => ⟨5, ((k + a.n - 1 : Nat) : Int), ((k + a.n + b.n - 1 : Nat) : Int), R0, 0⟩
def nodes : Cd → Nat → List api_Node
  | .tru, k => [top .tru k]
  | .eq r v, k => [top (.eq r v) k]
  | .not a, k => a.nodes k ++ [top (.not a) k]
  | .and a b, k => a.nodes k ++ (b.nodes (k + a.n) ++ [top (.and a b) k])
  | .or a b, k => a.nodes k ++ (b.nodes (k + a.n) ++ [top (.or a b) k])
def wf : Cd → Bool
  | .tru => true
  | .eq r _ => decide (-1 ≤ r.Thread ∧ r.Thread ≤ 9999) && isName r.Name
  | .not a => a.wf
  | .and a b => a.wf && b.wf
  | .or a b => a.wf && b.wf
theorem n_pos : ∀ t : Cd, 1 ≤ t.n
  | .tru => Nat.le_refl _
  | .eq _ _ => Nat.le_refl _
  | .not a => by simp only [n]; omega
  | .and a b => by simp only [n]; omega
  | .or a b => by simp only [n]; omega
theorem len : ∀ (t : Cd) (k : Nat), (t.nodes k).length = t.n
  | .tru, _ => rfl
  | .eq _ _, _ => rfl
  | .not a, k => by simp only [nodes, n, List.length_append, List.length_singleton, len a]
  | .and a b, k => by simp only [nodes, n, List.length_append, List.length_singleton, len a, len b]; omega
  | .or a b, k => by simp only [nodes, n, List.length_append, List.length_singleton, len a, len b]; omega
end Cd
/-! ### Nodes one by one -/
def noR : api_Ref := ⟨0, ⟨#[]⟩⟩
def fd (n : api_Node) : Bool :=
  if n.Op = 2 then decide (n.A = 0 ∧ n.B = 0 ∧ -1 ≤ n.Ref.Thread ∧ n.Ref.Thread ≤ 9999) && isName n.Ref.Name
  else if n.Op = 1 then decide (n.A = 0 ∧ n.B = 0 ∧ n.Ref = noR ∧ n.Value = 0)
  else if n.Op = 3 then decide (n.B = 0 ∧ n.Ref = noR ∧ n.Value = 0)
  else if n.Op = 4 ∨ n.Op = 5 then decide (n.Ref = noR ∧ n.Value = 0)
  else false
theorem fields_p (n : api_Node) : cond_fields.f n = some (fd n) := by
  unfold cond_fields.f fd
  obtain ⟨op, a, b, ⟨th, nm⟩, v⟩ := n
  simp only [name_p, Option.bind_eq_bind, Option.bind_some, noR]
  by_cases h2 : op = 2
  · subst h2
    by_cases ha : a = 0 <;> by_cases hb : b = 0 <;> by_cases h1 : -1 ≤ th <;> by_cases h3 : th ≤ 9999 <;> simp [ha, hb, h1, h3]
  · by_cases h1 : op = 1
    · subst h1
      by_cases ha : a = 0 <;> by_cases hb : b = 0 <;> by_cases hr : (⟨th, nm⟩ : api_Ref) = ⟨0, ⟨#[]⟩⟩ <;> by_cases h3 : v = 0 <;> simp [ha, hb, hr, h3]
    · by_cases h3 : op = 3
      · subst h3
        by_cases hb : b = 0 <;> by_cases hr : (⟨th, nm⟩ : api_Ref) = ⟨0, ⟨#[]⟩⟩ <;> by_cases h3 : v = 0 <;> simp [hb, hr, h3]
      · by_cases h4 : op = 4
        · subst h4
          by_cases hr : (⟨th, nm⟩ : api_Ref) = ⟨0, ⟨#[]⟩⟩ <;> by_cases h3 : v = 0 <;> simp [hr, h3]
        · by_cases h5 : op = 5
          · subst h5
            by_cases hr : (⟨th, nm⟩ : api_Ref) = ⟨0, ⟨#[]⟩⟩ <;> by_cases h3 : v = 0 <;> simp [hr, h3]
          · simp [h1, h2, h3, h4, h5]
theorem gt_setl {t : List Int} {i j : Nat} {v : Int} (hi : i < t.length) (hj : j < t.length) : gt (setl t (i : Int) v) (j : Int) = if j = i then v else gt t (j : Int) := by
  rw [gt_nat (by rw [setl_len]; exact hj), gt_nat hj]
  simp only [setl, Int.toNat_natCast]
  rw [List.getElem_set]
  by_cases h : j = i
  · rw [if_pos h.symm, if_pos h]
  · rw [if_neg (fun e => h e.symm), if_neg h]
def stp (x : api_Node) (i : Nat) (t : List Int) : Option Int :=
  if fd x = false then none
  else if x.Op = 3 then (if i = 0 ∨ x.A ≠ (i : Int) - 1 then none else some (gt t x.A))
  else if x.Op = 4 ∨ x.Op = 5 then (if i = 0 ∨ x.B ≠ (i : Int) - 1 ∨ gt t x.B = 0 ∨ x.A ≠ gt t x.B - 1 then none else some (gt t x.A))
  else some (i : Int)
theorem stp_3 {x : api_Node} {i : Nat} {t : List Int} (h : fd x = true) (h3 : x.Op = 3) (hn : ¬ (i = 0 ∨ x.A ≠ (i : Int) - 1)) : stp x i t = some (gt t x.A) := by
  unfold stp
  rw [if_neg (by rw [h]; decide), if_pos h3, if_neg hn]
theorem stp_45 {x : api_Node} {i : Nat} {t : List Int} (h : fd x = true) (h3 : x.Op = 4 ∨ x.Op = 5) (hn : ¬ (i = 0 ∨ x.B ≠ (i : Int) - 1 ∨ gt t x.B = 0 ∨ x.A ≠ gt t x.B - 1)) : stp x i t = some (gt t x.A) := by
  unfold stp
  rw [if_neg (by rw [h]; decide), if_neg (by omega), if_pos h3, if_neg hn]
theorem makes_s {c : List api_Node} (hc : c.length ≤ 1024) {i : Nat} (hi : i < c.length) {t : List Int} (ht : t.length = c.length) (hr : ∀ j, j < i → 0 ≤ gt t (j : Int) ∧ gt t (j : Int) ≤ (j : Int)) :
    cond_makes.l0 c (i : Int) t = match stp (gt c (i : Int)) i t with | some v => cond_makes.l0 c ((i + 1 : Nat) : Int) (setl t (i : Int) v) | none => some (.inr false) := by
  have g : (0 : Int) ≤ (i : Int) ∧ (i : Int) < (c.length : Int) := by omega
  have gt' : (0 : Int) ≤ (i : Int) ∧ (i : Int) < (t.length : Int) := by omega
  rw [cond_makes.l0, if_pos (decide_eq_true g.2), if_pos g, fields_p, w1 (by omega)]
  generalize gt c (i : Int) = x
  unfold stp
  simp only [Option.bind_eq_bind, Option.bind_some]
  cases hf : fd x
  · simp only [Bool.not_false, if_true]
  · simp only [Bool.not_true, Bool.false_eq_true, Bool.true_eq_false, if_false]
    by_cases h3 : x.Op = 3
    · have h3b : (x.Op == 3) = true := by rw [h3]; rfl
      simp only [h3b, if_true, if_pos h3]
      by_cases h0 : i = 0
      · subst h0; simp
      · have w : IntKind.i64.wrap ((i : Int) - 1) = (i : Int) - 1 := wi64_id (by omega) (by omega)
        have z : ((i : Int) == 0) = false := by simp; omega
        rw [z, w]
        simp only [Bool.false_eq_true, if_false]
        by_cases ha : x.A = (i : Int) - 1
        · have e : (x.A != (i : Int) - 1) = false := by simp [ha]
          rw [e]
          have g1 : (0 : Int) ≤ x.A ∧ x.A < (t.length : Int) := by omega
          simp only [Bool.false_eq_true, if_false, if_pos g1, if_pos gt']
          rw [if_neg (by omega)]
        · have e : (x.A != (i : Int) - 1) = true := by simp [ha]
          rw [e]
          simp only [if_true]
          rw [if_pos (by omega)]
    · have h3b : (x.Op == 3) = false := by simp [h3]
      simp only [h3b, Bool.false_eq_true, if_false, if_neg h3]
      have hop : (((if (x.Op == 4) = true then some true else (if (x.Op == 5) = true then some true else some false)) : Option Bool)) = some (decide (x.Op = 4 ∨ x.Op = 5)) := by
        by_cases h4 : x.Op = 4
        · simp [h4]
        · by_cases h5 : x.Op = 5 <;> simp [h4, h5]
      rw [hop]
      simp only [Option.bind_some]
      by_cases h45 : x.Op = 4 ∨ x.Op = 5
      · simp only [decide_eq_true h45, if_true, if_pos h45]
        by_cases h0 : i = 0
        · subst h0; simp
        · have w : IntKind.i64.wrap ((i : Int) - 1) = (i : Int) - 1 := wi64_id (by omega) (by omega)
          have z : ((i : Int) == 0) = false := by simp; omega
          rw [z, w]
          simp only [Bool.false_eq_true, if_false]
          by_cases hb : x.B = (i : Int) - 1
          · have e : (x.B != (i : Int) - 1) = false := by simp [hb]
            rw [e]
            have g1 : (0 : Int) ≤ x.B ∧ x.B < (t.length : Int) := by omega
            simp only [Bool.false_eq_true, if_false, if_pos g1]
            have hB : x.B = ((i - 1 : Nat) : Int) := by omega
            have hrb := hr (i - 1) (by omega)
            rw [← hB] at hrb
            by_cases hz : gt t x.B = 0
            · have e2 : (gt t x.B == 0) = true := by simp [hz]
              simp only [e2, if_true]
              rw [if_pos (by omega)]
            · have e2 : (gt t x.B == 0) = false := by simp [hz]
              simp only [e2, Bool.false_eq_true, if_false]
              have w2 : IntKind.i64.wrap (gt t x.B - 1) = gt t x.B - 1 := wi64_id (by omega) (by omega)
              rw [w2]
              by_cases ha : x.A = gt t x.B - 1
              · have e3 : (x.A != gt t x.B - 1) = false := by simp [ha]
                have g2 : (0 : Int) ≤ x.A ∧ x.A < (t.length : Int) := by omega
                simp only [e3, Bool.false_eq_true, if_false, if_pos g2, if_pos gt']
                rw [if_neg (by omega)]
              · have e3 : (x.A != gt t x.B - 1) = true := by simp [ha]
                simp only [e3, if_true]
                rw [if_pos (by omega)]
          · have e : (x.B != (i : Int) - 1) = true := by simp [hb]
            rw [e]
            simp only [if_true]
            rw [if_pos (by omega)]
      · simp only [decide_eq_false h45, Bool.false_eq_true, if_false, if_pos gt', if_neg h45]
/-! ### A tree's nodes make a condition -/
theorem fd_top {t : Cd} (h : t.wf = true) (k : Nat) : fd (t.top k) = true := by
  cases t with
  | tru => rfl
  | eq r v =>
    unfold fd Cd.top
    simp only [Cd.wf, Bool.and_eq_true, decide_eq_true_eq] at h
    simp [h.1.1, h.1.2, h.2]
  | not a => simp [fd, Cd.top, noR]
  | and a b => simp [fd, Cd.top, noR]
  | or a b => simp [fd, Cd.top, noR]
def At (c : List api_Node) (k : Nat) (l : List api_Node) : Prop := ∃ p q, c = p ++ (l ++ q) ∧ p.length = k
theorem At.len {c l : List api_Node} {k : Nat} (h : At c k l) : k + l.length ≤ c.length := by
  obtain ⟨p, q, rfl, rfl⟩ := h
  simp only [List.length_append]; omega
theorem At.left {c l m : List api_Node} {k : Nat} (h : At c k (l ++ m)) : At c k l := by
  obtain ⟨p, q, rfl, rfl⟩ := h
  exact ⟨p, m ++ q, by simp, rfl⟩
theorem At.right {c l m : List api_Node} {k : Nat} (h : At c k (l ++ m)) : At c (k + l.length) m := by
  obtain ⟨p, q, rfl, rfl⟩ := h
  exact ⟨p ++ l, q, by simp, by simp⟩
theorem At.get {c : List api_Node} {x : api_Node} {k : Nat} (h : At c k [x]) : k < c.length ∧ gt c (k : Int) = x := by
  obtain ⟨p, q, rfl, rfl⟩ := h
  have hl : p.length < (p ++ ([x] ++ q)).length := by simp
  refine ⟨hl, ?_⟩
  rw [gt_nat hl]
  simp
theorem makes_run {c : List api_Node} (hc : c.length ≤ 1024) : ∀ (t : Cd) (k : Nat) (tb : List Int), t.wf = true → At c k (t.nodes k) → tb.length = c.length → (∀ j, j < k → 0 ≤ gt tb (j : Int) ∧ gt tb (j : Int) ≤ (j : Int)) →
    ∃ tb', cond_makes.l0 c (k : Int) tb = cond_makes.l0 c ((k + t.n : Nat) : Int) tb' ∧ tb'.length = c.length ∧ (∀ j, j < k + t.n → 0 ≤ gt tb' (j : Int) ∧ gt tb' (j : Int) ≤ (j : Int)) ∧
      (∀ j, j < k → gt tb' (j : Int) = gt tb (j : Int)) ∧ gt tb' ((k + t.n - 1 : Nat) : Int) = (k : Int) := by
  -- one node more
  have one : ∀ (t : Cd) (k i : Nat) (tb : List Int), t.wf = true → i + 1 = k + t.n → At c i [t.top k] → tb.length = c.length → (∀ j, j < i → 0 ≤ gt tb (j : Int) ∧ gt tb (j : Int) ≤ (j : Int)) →
      stp (t.top k) i tb = some (k : Int) → ∃ tb', cond_makes.l0 c (i : Int) tb = cond_makes.l0 c ((k + t.n : Nat) : Int) tb' ∧ tb'.length = c.length ∧ (∀ j, j < k + t.n → 0 ≤ gt tb' (j : Int) ∧ gt tb' (j : Int) ≤ (j : Int)) ∧
      (∀ j, j < i → gt tb' (j : Int) = gt tb (j : Int)) ∧ gt tb' ((k + t.n - 1 : Nat) : Int) = (k : Int) := by
    intro t k i tb hw hi hat hl hr hs
    have hn := t.n_pos
    obtain ⟨h1, h2⟩ := hat.get
    have hm := makes_s hc h1 hl hr
    rw [h2, hs, hi] at hm
    refine ⟨_, hm, by rw [setl_len]; exact hl, ?_, ?_, ?_⟩
    · intro j hj
      rw [gt_setl (by omega) (by omega)]
      by_cases h : j = i
      · rw [if_pos h]; omega
      · rw [if_neg h]; exact hr j (by omega)
    · intro j hj
      rw [gt_setl (by omega) (by omega), if_neg (by omega)]
    · rw [show k + t.n - 1 = i by omega, gt_setl (by omega) (by omega), if_pos rfl]
  intro t
  induction t with
  | tru =>
    intro k tb hw hat hl hr
    exact one .tru k k tb hw rfl hat hl hr rfl
  | eq r v =>
    intro k tb hw hat hl hr
    refine one (.eq r v) k k tb hw rfl hat hl hr ?_
    have hf := fd_top hw k
    unfold stp
    rw [hf]; rfl
  | not a iha =>
    intro k tb hw hat hl hr
    have ha := a.n_pos
    obtain ⟨tb1, e1, l1, r1, o1, t1⟩ := iha k tb hw hat.left hl hr
    have h2 := hat.right
    rw [a.len] at h2
    have hs : stp ((Cd.not a).top k) (k + a.n) tb1 = some (k : Int) := by
      have hA : ((Cd.not a).top k).A = ((k + a.n - 1 : Nat) : Int) := rfl
      rw [stp_3 (fd_top (t := .not a) hw k) rfl (by rw [hA]; omega), hA, t1]
    obtain ⟨tb2, e2, l2, r2, o2, t2⟩ := one (.not a) k (k + a.n) tb1 hw (by simp only [Cd.n]; omega) h2 l1 r1 hs
    exact ⟨tb2, e1.trans e2, l2, r2, fun j hj => (o2 j (by omega)).trans (o1 j hj), t2⟩
  | and a b iha ihb =>
    intro k tb hw hat hl hr
    have ha := a.n_pos
    have hb := b.n_pos
    simp only [Cd.wf, Bool.and_eq_true] at hw
    obtain ⟨tb1, e1, l1, r1, o1, t1⟩ := iha k tb hw.1 hat.left hl hr
    have h2 := hat.right
    rw [a.len] at h2
    obtain ⟨tb2, e2, l2, r2, o2, t2⟩ := ihb (k + a.n) tb1 hw.2 h2.left l1 r1
    have h3 := h2.right
    rw [b.len] at h3
    have hs : stp ((Cd.and a b).top k) (k + a.n + b.n) tb2 = some (k : Int) := by
      have hA : ((Cd.and a b).top k).A = ((k + a.n - 1 : Nat) : Int) := rfl
      have hB : ((Cd.and a b).top k).B = ((k + a.n + b.n - 1 : Nat) : Int) := rfl
      rw [stp_45 (fd_top (t := .and a b) (by simp [Cd.wf, hw.1, hw.2]) k) (.inl rfl) (by rw [hA, hB, t2]; omega), hA, o2 _ (by omega), t1]
    obtain ⟨tb3, e3, l3, r3, o3, t3⟩ := one (.and a b) k (k + a.n + b.n) tb2 (by simp [Cd.wf, hw.1, hw.2]) (by simp only [Cd.n]; omega) h3 l2 r2 hs
    exact ⟨tb3, (e1.trans e2).trans e3, l3, r3, fun j hj => ((o3 j (by omega)).trans (o2 j (by omega))).trans (o1 j hj), t3⟩
  | or a b iha ihb =>
    intro k tb hw hat hl hr
    have ha := a.n_pos
    have hb := b.n_pos
    simp only [Cd.wf, Bool.and_eq_true] at hw
    obtain ⟨tb1, e1, l1, r1, o1, t1⟩ := iha k tb hw.1 hat.left hl hr
    have h2 := hat.right
    rw [a.len] at h2
    obtain ⟨tb2, e2, l2, r2, o2, t2⟩ := ihb (k + a.n) tb1 hw.2 h2.left l1 r1
    have h3 := h2.right
    rw [b.len] at h3
    have hs : stp ((Cd.or a b).top k) (k + a.n + b.n) tb2 = some (k : Int) := by
      have hA : ((Cd.or a b).top k).A = ((k + a.n - 1 : Nat) : Int) := rfl
      have hB : ((Cd.or a b).top k).B = ((k + a.n + b.n - 1 : Nat) : Int) := rfl
      rw [stp_45 (fd_top (t := .or a b) (by simp [Cd.wf, hw.1, hw.2]) k) (.inr rfl) (by rw [hA, hB, t2]; omega), hA, o2 _ (by omega), t1]
    obtain ⟨tb3, e3, l3, r3, o3, t3⟩ := one (.or a b) k (k + a.n + b.n) tb2 (by simp [Cd.wf, hw.1, hw.2]) (by simp only [Cd.n]; omega) h3 l2 r2 hs
    exact ⟨tb3, (e1.trans e2).trans e3, l3, r3, fun j hj => ((o3 j (by omega)).trans (o2 j (by omega))).trans (o1 j hj), t3⟩
def Tr (c : List api_Node) (i : Nat) (tb : List Int) : Prop := ∀ j, j < i → ∃ (t : Cd) (k : Nat), t.wf = true ∧ k + t.n = j + 1 ∧ At c k (t.nodes k) ∧ gt tb (j : Int) = (k : Int)
theorem Tr.range {c : List api_Node} {i : Nat} {tb : List Int} (h : Tr c i tb) : ∀ j, j < i → 0 ≤ gt tb (j : Int) ∧ gt tb (j : Int) ≤ (j : Int) := by
  intro j hj
  obtain ⟨t, k, -, h2, -, h4⟩ := h j hj
  have := t.n_pos
  omega
theorem At.snoc {c l : List api_Node} {k i : Nat} (h : At c k l) (hi : k + l.length = i) (hc : i < c.length) : At c k (l ++ [gt c (i : Int)]) := by
  obtain ⟨p, q, rfl, rfl⟩ := h
  subst hi
  cases q with
  | nil => simp at hc
  | cons x q =>
    rw [gt_nat hc]
    refine ⟨p, q, ?_, rfl⟩
    simp
theorem At.join {c l m : List api_Node} {k : Nat} (h : At c k l) (h2 : At c (k + l.length) m) : At c k (l ++ m) := by
  obtain ⟨p, q, rfl, rfl⟩ := h
  obtain ⟨p', q', he, hp⟩ := h2
  have h3 : q = m ++ q' := by
    have := congrArg (List.drop (p.length + l.length)) he
    rw [← List.append_assoc, List.drop_append_of_le_length (by simp), List.drop_of_length_le (by simp), List.drop_append_of_le_length (by omega), List.drop_of_length_le (by omega)] at this
    simpa using this
  subst h3
  exact ⟨p, q', by simp, rfl⟩
theorem stp_tree {c : List api_Node} (hc : c.length ≤ 1024) {i : Nat} (hi : i < c.length) {tb : List Int} (h : Tr c i tb) {v : Int} (hs : stp (gt c (i : Int)) i tb = some v) :
    ∃ (t : Cd) (k : Nat), t.wf = true ∧ k + t.n = i + 1 ∧ At c k (t.nodes k) ∧ v = (k : Int) := by
  have hself : At c i [gt c (i : Int)] := by
    have h0 : At c i [] := ⟨c.take i, c.drop i, by simp, by simp; omega⟩
    have := h0.snoc (by simp) hi
    simpa using this
  unfold stp at hs
  generalize hx : gt c (i : Int) = x at hs hself
  obtain ⟨op, A, B, R, V⟩ := x
  simp only at hs
  cases hf : fd ⟨op, A, B, R, V⟩
  · rw [hf] at hs; simp at hs
  · rw [hf] at hs
    simp only [Bool.true_eq_false, if_false] at hs
    unfold fd at hf
    simp only at hf
    by_cases h3 : op = 3
    · subst h3
      rw [if_pos rfl] at hs
      rw [if_neg (by decide), if_neg (by decide), if_pos rfl] at hf
      split at hs
      · cases hs
      · rename_i hn
        obtain ⟨h0, hA⟩ : ¬ i = 0 ∧ A = (i : Int) - 1 := by constructor <;> omega
        obtain ⟨t, k, w1', w2', w3', w4'⟩ := h (i - 1) (by omega)
        rw [show ((i - 1 : Nat) : Int) = A by omega] at w4'
        rw [w4'] at hs
        cases hs
        simp only [decide_eq_true_eq] at hf
        refine ⟨.not t, k, w1', by simp only [Cd.n]; omega, ?_, rfl⟩
        have hj := w3'.join (m := [⟨3, A, B, R, V⟩]) (by rw [t.len, show k + t.n = i by omega]; exact hself)
        have he : (Cd.not t).top k = ⟨3, A, B, R, V⟩ := by
          simp only [Cd.top, api_Node.mk.injEq, true_and]
          exact ⟨by omega, hf.1.symm, hf.2.1.symm, hf.2.2.symm⟩
        unfold Cd.nodes
        rw [he]; exact hj
    · rw [if_neg h3] at hs
      by_cases h45 : op = 4 ∨ op = 5
      · rw [if_pos h45] at hs
        have hf2 : R = noR ∧ V = 0 := by
          rw [if_neg (by omega), if_neg (by omega), if_neg h3, if_pos h45] at hf
          simpa using hf
        split at hs
        · cases hs
        · rename_i hn
          obtain ⟨h0, hB, hz, hA⟩ : ¬ i = 0 ∧ B = (i : Int) - 1 ∧ ¬ gt tb B = 0 ∧ A = gt tb B - 1 := by
            refine ⟨fun e => hn (.inl e), ?_, fun e => hn (.inr (.inr (.inl e))), ?_⟩
            · by_cases e : B = (i : Int) - 1
              · exact e
              · exact absurd (.inr (.inl e)) hn
            · by_cases e : A = gt tb B - 1
              · exact e
              · exact absurd (.inr (.inr (.inr e))) hn
          obtain ⟨b, kb, b1, b2, b3, b4⟩ := h (i - 1) (by omega)
          rw [show ((i - 1 : Nat) : Int) = B by omega] at b4
          have hkb : 1 ≤ kb := by rw [b4] at hz; omega
          have hbn := b.n_pos
          obtain ⟨a, ka, a1, a2, a3, a4⟩ := h (kb - 1) (by omega)
          rw [show ((kb - 1 : Nat) : Int) = A by omega] at a4
          rw [a4] at hs
          cases hs
          have hka : ka + a.n = kb := by omega
          subst hka
          have hj := a3.join (m := b.nodes (ka + a.n) ++ [⟨op, A, B, R, V⟩]) (by
            rw [a.len]
            refine b3.join ?_
            rw [b.len, show ka + a.n + b.n = i by omega]; exact hself)
          rcases h45 with rfl | rfl
          · refine ⟨.and a b, ka, by simp [Cd.wf, a1, b1], by simp only [Cd.n]; omega, ?_, rfl⟩
            have he : (Cd.and a b).top ka = ⟨4, A, B, R, V⟩ := by
              simp only [Cd.top, api_Node.mk.injEq, true_and]
              exact ⟨by omega, by omega, hf2.1.symm, hf2.2.symm⟩
            unfold Cd.nodes
            rw [he]; exact hj
          · refine ⟨.or a b, ka, by simp [Cd.wf, a1, b1], by simp only [Cd.n]; omega, ?_, rfl⟩
            have he : (Cd.or a b).top ka = ⟨5, A, B, R, V⟩ := by
              simp only [Cd.top, api_Node.mk.injEq, true_and]
              exact ⟨by omega, by omega, hf2.1.symm, hf2.2.symm⟩
            unfold Cd.nodes
            rw [he]; exact hj
      · rw [if_neg h45] at hs
        cases hs
        by_cases h2 : op = 2
        · subst h2
          rw [if_pos rfl] at hf
          simp only [Bool.and_eq_true, decide_eq_true_eq] at hf
          refine ⟨.eq R V, i, by simp [Cd.wf, hf.1.2.2.1, hf.1.2.2.2, hf.2], rfl, ?_, rfl⟩
          have he : (Cd.eq R V).top i = ⟨2, A, B, R, V⟩ := by simp only [Cd.top, hf.1.1, hf.1.2.1]
          unfold Cd.nodes
          rw [he]; exact hself
        · rw [if_neg h2] at hf
          by_cases h1 : op = 1
          · subst h1
            rw [if_pos rfl] at hf
            simp only [decide_eq_true_eq] at hf
            refine ⟨.tru, i, rfl, rfl, ?_, rfl⟩
            have he : Cd.tru.top i = ⟨1, A, B, R, V⟩ := by
              simp only [Cd.top, api_Node.mk.injEq, true_and]
              exact ⟨hf.1.symm, hf.2.1.symm, hf.2.2.1.symm, hf.2.2.2.symm⟩
            unfold Cd.nodes
            rw [he]; exact hself
          · rw [if_neg h1, if_neg h3, if_neg h45] at hf
            cases hf
theorem makes_l {c : List api_Node} (hc : c.length ≤ 1024) : ∀ (m i : Nat) (tb : List Int), i + m = c.length → tb.length = c.length → Tr c i tb →
    cond_makes.l0 c (i : Int) tb = some (.inr false) ∨ ∃ tb', cond_makes.l0 c (i : Int) tb = some (.inl tb') ∧ tb'.length = c.length ∧ Tr c c.length tb' := by
  intro m
  induction m with
  | zero =>
    intro i tb hi hl h
    right
    rw [cond_makes.l0, if_neg (nt (decide_eq_false (by omega)))]
    exact ⟨tb, rfl, hl, by rw [show c.length = i by omega]; exact h⟩
  | succ m ih =>
    intro i tb hi hl h
    have hlt : i < c.length := by omega
    rw [makes_s hc hlt hl h.range]
    cases hs : stp (gt c (i : Int)) i tb with
    | none => exact .inl rfl
    | some v =>
      obtain ⟨t, k, h1, h2, h3, h4⟩ := stp_tree hc hlt h hs
      simp only
      refine ih (i + 1) (setl tb (i : Int) v) (by omega) (by rw [setl_len]; exact hl) ?_
      intro j hj
      by_cases e : j = i
      · subst e
        exact ⟨t, k, h1, h2, h3, by rw [gt_setl (by omega) (by omega), if_pos rfl, h4]⟩
      · obtain ⟨t', k', q1, q2, q3, q4⟩ := h j (by omega)
        exact ⟨t', k', q1, q2, q3, by rw [gt_setl (by omega) (by omega), if_neg e, q4]⟩
theorem makes_iff (c : List api_Node) : (∃ t : Cd, t.wf = true ∧ c = t.nodes 0 ∧ t.n ≤ 1024 ∧ cond_makes.f c = some true) ∨ ((∀ t : Cd, t.wf = true → c = t.nodes 0 → 1024 < t.n) ∧ cond_makes.f c = some false) := by
  unfold cond_makes.f
  by_cases h1 : c.length < 1
  · right
    rw [if_pos (decide_eq_true (by omega))]
    refine ⟨fun t _ e => ?_, rfl⟩
    have := t.len 0
    have := t.n_pos
    rw [← e] at *; omega
  rw [if_neg (nt (decide_eq_false (by omega)))]
  by_cases h2 : 1024 < c.length
  · right
    rw [if_pos (decide_eq_true (by omega))]
    refine ⟨fun t _ e => ?_, rfl⟩
    have := t.len 0
    rw [← e] at this; omega
  rw [if_neg (nt (decide_eq_false (by omega))), if_pos (by omega), Int.toNat_natCast]
  have hc : c.length ≤ 1024 := by omega
  have hw : IntKind.i64.wrap ((c.length : Int) - 1) = ((c.length - 1 : Nat) : Int) := by rw [wi64_id (by omega) (by omega)]; omega
  rw [hw]
  have hrep : (List.replicate c.length (0 : Int)).length = c.length := List.length_replicate
  rcases makes_l hc c.length 0 (List.replicate c.length (0 : Int)) (by omega) hrep (fun j hj => by omega) with h | ⟨tb, h, hl, hT⟩
  · have h' : cond_makes.l0 c 0 (List.replicate c.length (0 : Int)) = _ := h
    rw [h']
    right
    refine ⟨fun t ht e => ?_, rfl⟩
    obtain ⟨tb, e1, -⟩ := makes_run hc t 0 (List.replicate c.length (0 : Int)) ht ⟨[], [], by simp [e], rfl⟩ hrep (fun j hj => by omega)
    have hn : c.length = t.n := by rw [e, t.len]
    rw [h, Nat.zero_add, ← hn, cond_makes.l0, if_neg (nt (decide_eq_false (by omega)))] at e1
    cases e1
  · have h' : cond_makes.l0 c 0 (List.replicate c.length (0 : Int)) = _ := h
    rw [h']
    simp only [Option.bind_eq_bind, Option.bind_some]
    rw [if_pos (by omega)]
    obtain ⟨t, k, q1, q2, q3, q4⟩ := hT (c.length - 1) (by omega)
    rw [q4]
    by_cases hk : k = 0
    · left
      subst hk
      obtain ⟨p, q, e, hp⟩ := q3
      have hp0 : p = [] := List.eq_nil_of_length_eq_zero hp
      subst hp0
      rw [List.nil_append] at e
      have hq : q = [] := by
        have := congrArg List.length e
        rw [List.length_append, t.len] at this
        exact List.eq_nil_of_length_eq_zero (by omega)
      subst hq
      rw [List.append_nil] at e
      exact ⟨t, q1, e, by omega, by rfl⟩
    · right
      rw [if_neg (by simp; omega)]
      refine ⟨fun t2 ht e => ?_, rfl⟩
      obtain ⟨tb2, e1, -, -, -, e5⟩ := makes_run hc t2 0 (List.replicate c.length (0 : Int)) ht ⟨[], [], by simp [e], rfl⟩ hrep (fun j hj => by omega)
      have hn : c.length = t2.n := by rw [e, t2.len]
      rw [h, Nat.zero_add, ← hn, cond_makes.l0, if_neg (nt (decide_eq_false (by omega)))] at e1
      cases e1
      rw [Nat.zero_add, ← hn, q4] at e5
      omega
end Go.Proofs.YtboejepakdnbgaaGreatDoor.K.C
