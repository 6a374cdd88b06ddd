/- Unions, meets and differences of sets; Find; StateSets. -/
import Derived.Test.YtjbhgahbaeoinaaDoorRD
set_option linter.unusedVariables false
set_option linter.unusedSimpArgs false
namespace Go.Proofs.YtjbhgahbaeoinaaDoor.K
open Go

/-! ### Two sets side by side -/
def mrg (p q r : Bool) : List api_Final → List api_Final → List api_Final
  | [], [] => []
  | [], y :: b => if q = true then y :: mrg p q r [] b else mrg p q r [] b
  | x :: a, [] => if p = true then x :: mrg p q r a [] else mrg p q r a []
  | x :: a, y :: b =>
    if cmpF x y < 0 then (if p = true then x :: mrg p q r a (y :: b) else mrg p q r a (y :: b))
    else if cmpF x y = 0 then (if r = true then y :: mrg p q r a b else mrg p q r a b)
    else (if q = true then y :: mrg p q r (x :: a) b else mrg p q r (x :: a) b)
termination_by a b => a.length + b.length
def Pick (p q r : Bool) (a b : List api_Final) (z : api_Final) : Prop := (p = true ∧ z ∈ a ∧ z ∉ b) ∨ (q = true ∧ z ∈ b ∧ z ∉ a) ∨ (r = true ∧ z ∈ a ∧ z ∈ b)
theorem mem_opt {b : Bool} {x z : api_Final} {l : List api_Final} : (z ∈ if b = true then x :: l else l) ↔ (b = true ∧ z = x) ∨ z ∈ l := by
  cases b <;> simp
theorem strict_ne {x : api_Final} {l : List api_Final} (h : ∀ y ∈ l, cmpF x y < 0) : x ∉ l := fun hm => by have := h x hm; rw [cmpF_self] at this; omega
theorem mrg_mem (p q r : Bool) : ∀ a b : List api_Final, Strict a → Strict b → ∀ z, z ∈ mrg p q r a b ↔ Pick p q r a b z
  | [], [], _, _, z => by rw [mrg]; simp [Pick]
  | [], y :: b, _, hb, z => by
    have hb' := List.pairwise_cons.1 hb
    have hy := strict_ne hb'.1
    have ih := mrg_mem p q r [] b List.Pairwise.nil hb'.2 z
    rw [mrg, mem_opt, ih]
    simp only [Pick, List.not_mem_nil, false_and, and_false, false_or, or_false, not_false_eq_true, and_true, List.mem_cons]
    constructor
    · rintro (⟨h, rfl⟩ | ⟨h, h2⟩)
      · exact ⟨h, .inl rfl⟩
      · exact ⟨h, .inr h2⟩
    · rintro ⟨h, h2 | h2⟩
      · exact .inl ⟨h, h2⟩
      · exact .inr ⟨h, h2⟩
  | x :: a, [], ha, _, z => by
    have ha' := List.pairwise_cons.1 ha
    have ih := mrg_mem p q r a [] ha'.2 List.Pairwise.nil z
    rw [mrg, mem_opt, ih]
    simp only [Pick, List.not_mem_nil, false_and, and_false, false_or, or_false, not_false_eq_true, and_true, List.mem_cons]
    constructor
    · rintro (⟨h, rfl⟩ | ⟨h, h2⟩)
      · exact ⟨h, .inl rfl⟩
      · exact ⟨h, .inr h2⟩
    · rintro ⟨h, h2 | h2⟩
      · exact .inl ⟨h, h2⟩
      · exact .inr ⟨h, h2⟩
  | x :: a, y :: b, ha, hb, z => by
    have ha' := List.pairwise_cons.1 ha
    have hb' := List.pairwise_cons.1 hb
    have hx := strict_ne ha'.1
    have hy := strict_ne hb'.1
    have hs := cmpF_swap x y
    rw [mrg]
    by_cases c1 : cmpF x y < 0
    · have hxb : x ∉ y :: b := by
        intro h
        rcases List.mem_cons.1 h with e | h
        · rw [e, cmpF_self] at c1; omega
        · have h5 := cmpF_lt_trans c1 (hb'.1 x h); rw [cmpF_self] at h5; omega
      rw [if_pos c1, mem_opt, mrg_mem p q r a (y :: b) ha'.2 hb z]
      simp only [Pick, List.mem_cons (a := z) (b := x)]
      constructor
      · rintro (⟨h, rfl⟩ | ⟨h, h1, h2⟩ | ⟨h, h1, h2⟩ | ⟨h, h1, h2⟩)
        · exact .inl ⟨h, .inl rfl, hxb⟩
        · exact .inl ⟨h, .inr h1, h2⟩
        · refine .inr (.inl ⟨h, h1, fun h3 => ?_⟩)
          rcases h3 with e | h3
          · subst e; exact hxb h1
          · exact h2 h3
        · exact .inr (.inr ⟨h, .inr h1, h2⟩)
      · rintro (⟨h, h1 | h1, h2⟩ | ⟨h, h1, h2⟩ | ⟨h, h1 | h1, h2⟩)
        · exact .inl ⟨h, h1⟩
        · exact .inr (.inl ⟨h, h1, h2⟩)
        · exact .inr (.inr (.inl ⟨h, h1, fun h3 => h2 (.inr h3)⟩))
        · subst h1; exact absurd h2 hxb
        · exact .inr (.inr (.inr ⟨h, h1, h2⟩))
    · by_cases c2 : cmpF x y = 0
      · have hxy := cmpF_zero.1 c2
        subst hxy
        rw [if_neg c1, if_pos c2, mem_opt, mrg_mem p q r a b ha'.2 hb'.2 z]
        simp only [Pick, List.mem_cons]
        constructor
        · rintro (⟨h, rfl⟩ | ⟨h, h1, h2⟩ | ⟨h, h1, h2⟩ | ⟨h, h1, h2⟩)
          · exact .inr (.inr ⟨h, .inl rfl, .inl rfl⟩)
          · refine .inl ⟨h, .inr h1, fun h3 => ?_⟩
            rcases h3 with e | h3
            · subst e; exact hx h1
            · exact h2 h3
          · refine .inr (.inl ⟨h, .inr h1, fun h3 => ?_⟩)
            rcases h3 with e | h3
            · subst e; exact hy h1
            · exact h2 h3
          · exact .inr (.inr ⟨h, .inr h1, .inr h2⟩)
        · rintro (⟨h, h1 | h1, h2⟩ | ⟨h, h1 | h1, h2⟩ | ⟨h, h1 | h1, h2 | h2⟩)
          · exact absurd (.inl h1) h2
          · exact .inr (.inl ⟨h, h1, fun h3 => h2 (.inr h3)⟩)
          · exact absurd (.inl h1) h2
          · exact .inr (.inr (.inl ⟨h, h1, fun h3 => h2 (.inr h3)⟩))
          · exact .inl ⟨h, h1⟩
          · exact .inl ⟨h, h1⟩
          · exact .inl ⟨h, h2⟩
          · exact .inr (.inr (.inr ⟨h, h1, h2⟩))
      · have c3 : cmpF y x < 0 := by omega
        have hya : y ∉ x :: a := by
          intro h
          rcases List.mem_cons.1 h with e | h
          · rw [e, cmpF_self] at c3; omega
          · have h5 := cmpF_lt_trans c3 (ha'.1 y h); rw [cmpF_self] at h5; omega
        rw [if_neg c1, if_neg c2, mem_opt, mrg_mem p q r (x :: a) b ha hb'.2 z]
        simp only [Pick, List.mem_cons (a := z) (b := y)]
        constructor
        · rintro (⟨h, rfl⟩ | ⟨h, h1, h2⟩ | ⟨h, h1, h2⟩ | ⟨h, h1, h2⟩)
          · exact .inr (.inl ⟨h, .inl rfl, hya⟩)
          · refine .inl ⟨h, h1, fun h3 => ?_⟩
            rcases h3 with e | h3
            · subst e; exact hya h1
            · exact h2 h3
          · exact .inr (.inl ⟨h, .inr h1, h2⟩)
          · exact .inr (.inr ⟨h, h1, .inr h2⟩)
        · rintro (⟨h, h1, h2⟩ | ⟨h, h1 | h1, h2⟩ | ⟨h, h1, h2 | h2⟩)
          · exact .inr (.inl ⟨h, h1, fun h3 => h2 (.inr h3)⟩)
          · exact .inl ⟨h, h1⟩
          · exact .inr (.inr (.inl ⟨h, h1, h2⟩))
          · subst h2; exact absurd h1 hya
          · exact .inr (.inr (.inr ⟨h, h1, h2⟩))
termination_by a b => a.length + b.length
theorem mrg_sub (p q r : Bool) : ∀ (a b : List api_Final) (z : api_Final), z ∈ mrg p q r a b → z ∈ a ∨ z ∈ b
  | [], [], z, h => by rw [mrg] at h; exact .inl h
  | [], y :: b, z, h => by
    rw [mrg, mem_opt] at h
    rcases h with ⟨_, rfl⟩ | h
    · exact .inr (by simp)
    · rcases mrg_sub p q r [] b z h with h | h
      · exact .inl h
      · exact .inr (List.mem_cons_of_mem _ h)
  | x :: a, [], z, h => by
    rw [mrg, mem_opt] at h
    rcases h with ⟨_, rfl⟩ | h
    · exact .inl (by simp)
    · rcases mrg_sub p q r a [] z h with h | h
      · exact .inl (List.mem_cons_of_mem _ h)
      · exact .inr h
  | x :: a, y :: b, z, h => by
    rw [mrg] at h
    split at h
    · rw [mem_opt] at h
      rcases h with ⟨_, rfl⟩ | h
      · exact .inl (by simp)
      · rcases mrg_sub p q r a (y :: b) z h with h | h
        · exact .inl (List.mem_cons_of_mem _ h)
        · exact .inr h
    · split at h
      · rw [mem_opt] at h
        rcases h with ⟨_, rfl⟩ | h
        · exact .inr (by simp)
        · rcases mrg_sub p q r a b z h with h | h
          · exact .inl (List.mem_cons_of_mem _ h)
          · exact .inr (List.mem_cons_of_mem _ h)
      · rw [mem_opt] at h
        rcases h with ⟨_, rfl⟩ | h
        · exact .inr (by simp)
        · rcases mrg_sub p q r (x :: a) b z h with h | h
          · exact .inl h
          · exact .inr (List.mem_cons_of_mem _ h)
termination_by a b => a.length + b.length
theorem strict_opt {b : Bool} {x : api_Final} {l : List api_Final} (hl : Strict l) (h : ∀ z ∈ l, cmpF x z < 0) : Strict (if b = true then x :: l else l) := by
  cases b
  · simp only [Bool.false_eq_true, if_false]; exact hl
  · simp only [if_true]; exact List.pairwise_cons.2 ⟨h, hl⟩
theorem mrg_strict (p q r : Bool) : ∀ a b : List api_Final, Strict a → Strict b → Strict (mrg p q r a b)
  | [], [], _, _ => by rw [mrg]; exact List.Pairwise.nil
  | [], y :: b, ha, hb => by
    have hb' := List.pairwise_cons.1 hb
    rw [mrg]
    refine strict_opt (mrg_strict p q r [] b ha hb'.2) (fun z hz => ?_)
    rcases mrg_sub p q r [] b z hz with h | h
    · cases h
    · exact hb'.1 z h
  | x :: a, [], ha, hb => by
    have ha' := List.pairwise_cons.1 ha
    rw [mrg]
    refine strict_opt (mrg_strict p q r a [] ha'.2 hb) (fun z hz => ?_)
    rcases mrg_sub p q r a [] z hz with h | h
    · exact ha'.1 z h
    · cases h
  | x :: a, y :: b, ha, hb => by
    have ha' := List.pairwise_cons.1 ha
    have hb' := List.pairwise_cons.1 hb
    have hs := cmpF_swap x y
    rw [mrg]
    split
    · rename_i c1
      refine strict_opt (mrg_strict p q r a (y :: b) ha'.2 hb) (fun z hz => ?_)
      rcases mrg_sub p q r a (y :: b) z hz with h | h
      · exact ha'.1 z h
      · rcases List.mem_cons.1 h with rfl | h
        · exact c1
        · exact cmpF_lt_trans c1 (hb'.1 z h)
    · split
      · rename_i c1 c2
        have hxy := cmpF_zero.1 c2
        subst hxy
        refine strict_opt (mrg_strict p q r a b ha'.2 hb'.2) (fun z hz => ?_)
        rcases mrg_sub p q r a b z hz with h | h
        · exact ha'.1 z h
        · exact hb'.1 z h
      · rename_i c1 c2
        have c3 : cmpF y x < 0 := by omega
        refine strict_opt (mrg_strict p q r (x :: a) b ha hb'.2) (fun z hz => ?_)
        rcases mrg_sub p q r (x :: a) b z hz with h | h
        · rcases List.mem_cons.1 h with rfl | h
          · exact c3
          · exact cmpF_lt_trans c3 (ha'.1 z h)
        · exact hb'.1 z h
termination_by a b => a.length + b.length
theorem z01 : (0 : Int) ≤ 1 := by decide
theorem gt_hd {α : Type} [Inhabited α] (x : α) (l : List α) : gt (x :: l) 0 = x := rfl
theorem drop_hd {α : Type} (x : α) (l : List α) : ((x :: l).take (x :: l).length).drop ((1 : Int).toNat) = l := by simp
theorem len_pos {α : Type} (x : α) (l : List α) : decide (((x :: l).length : Int) > 0) = true := by rw [List.length_cons, decide_eq_true_iff]; omega
theorem len_0 {α : Type} : decide ((([] : List α).length : Int) > 0) = false := by simp
theorem len_ne {α : Type} (x : α) (l : List α) : (((x :: l).length : Int) == 0) = false := by simp; omega
theorem len_eq {α : Type} : ((([] : List α).length : Int) == 0) = true := by simp
theorem g_0 {α : Type} (x : α) (l : List α) : (0 : Int) ≤ (0 : Int) ∧ (0 : Int) < ((x :: l).length : Int) := by rw [List.length_cons]; exact ⟨Int.le_refl _, by omega⟩
theorem g_1 {α : Type} (x : α) (l : List α) : (0 : Int) ≤ (1 : Int) ∧ (1 : Int) ≤ ((x :: l).length : Int) := by rw [List.length_cons]; omega

set_option maxRecDepth 100000 in
theorem union_l (n : Nat) : ∀ a b acc : List api_Final, a.length + b.length ≤ n → (acc.length + a.length + b.length) * 392 ≤ 140737488355328 → state_walk.l0 a b acc = some (acc ++ mrg true true true a b) := by
  induction n with
  | zero =>
    intro a b acc h _
    have ha : a = [] := List.eq_nil_of_length_eq_zero (by omega)
    have hb : b = [] := List.eq_nil_of_length_eq_zero (by omega)
    subst ha; subst hb
    rw [state_walk.l0, mrg]; simp
  | succ n ih =>
    intro a b acc h hs
    rw [state_walk.l0]
    unfold state_Union_1.f
    have hsz : ∀ x : api_Final, 0 < a.length + b.length → (acc.length + ([x] : List api_Final).length) * 392 ≤ 140737488355328 := by
      intro x hx; rw [List.length_cons, List.length_nil]; omega
    have hsx : ∀ (x : api_Final) (a' b' : List api_Final), a'.length + b'.length + 1 ≤ a.length + b.length → ((acc ++ [x]).length + a'.length + b'.length) * 392 ≤ 140737488355328 := by
      intro x a' b' hx; rw [List.length_append, List.length_cons, List.length_nil]; omega
    have e1 : decide ((-1 : Int) ≤ 0) = true := rfl
    have e2 : decide ((-1 : Int) ≥ 0) = false := rfl
    have e3 : decide ((1 : Int) ≤ 0) = false := rfl
    have e4 : decide ((1 : Int) ≥ 0) = true := rfl
    cases a with
    | nil =>
      cases b with
      | nil => rw [mrg]; simp
      | cons y b =>
        have i1 := ih [] b acc (by simp only [List.length_cons, List.length_nil] at h ⊢; omega) (by simp only [List.length_cons, List.length_nil] at hs ⊢; omega)
        have i2 := ih [] b (acc ++ [y]) (by simp only [List.length_cons, List.length_nil] at h ⊢; omega) (hsx y [] b (by simp only [List.length_cons, List.length_nil]; omega))
        have hz := hsz y (by simp only [List.length_cons, List.length_nil]; omega)
        rw [mrg]
        simp only [len_0, len_pos, len_eq, len_ne, g_0, g_1, drop_hd, gt_hd, Bool.false_eq_true, if_false, if_true, Option.bind_eq_bind, Option.bind_some, and_self, decide_true, decide_false, and_true, true_and, Int.le_refl, z01, Int.lt_irrefl, Bool.not_false, Bool.not_true, e1, e2, e3, e4, hz, i1, i2, List.append_assoc, List.cons_append, List.nil_append]
    | cons x a =>
      cases b with
      | nil =>
        have i1 := ih a [] acc (by simp only [List.length_cons, List.length_nil] at h ⊢; omega) (by simp only [List.length_cons, List.length_nil] at hs ⊢; omega)
        have i2 := ih a [] (acc ++ [x]) (by simp only [List.length_cons, List.length_nil] at h ⊢; omega) (hsx x a [] (by simp only [List.length_cons, List.length_nil]; omega))
        have hz := hsz x (by simp only [List.length_cons, List.length_nil]; omega)
        rw [mrg]
        simp only [len_0, len_pos, len_eq, len_ne, g_0, g_1, drop_hd, gt_hd, Bool.false_eq_true, if_false, if_true, Option.bind_eq_bind, Option.bind_some, and_self, decide_true, decide_false, and_true, true_and, Int.le_refl, z01, Int.lt_irrefl, Bool.not_false, Bool.not_true, e1, e2, e3, e4, hz, i1, i2, List.append_assoc, List.cons_append, List.nil_append]
      | cons y b =>
        have hz := hsz x (by simp only [List.length_cons]; omega)
        have hzy := hsz y (by simp only [List.length_cons]; omega)
        have ia1 := ih a (y :: b) acc (by simp only [List.length_cons] at h ⊢; omega) (by simp only [List.length_cons] at hs ⊢; omega)
        have ia2 := ih a (y :: b) (acc ++ [x]) (by simp only [List.length_cons] at h ⊢; omega) (hsx x a (y :: b) (by simp only [List.length_cons]; omega))
        have ib1 := ih a b acc (by simp only [List.length_cons] at h ⊢; omega) (by simp only [List.length_cons] at hs ⊢; omega)
        have ib2 := ih a b (acc ++ [y]) (by simp only [List.length_cons] at h ⊢; omega) (hsx y a b (by simp only [List.length_cons]; omega))
        have ic1 := ih (x :: a) b acc (by simp only [List.length_cons] at h ⊢; omega) (by simp only [List.length_cons] at hs ⊢; omega)
        have ic2 := ih (x :: a) b (acc ++ [y]) (by simp only [List.length_cons] at h ⊢; omega) (hsx y (x :: a) b (by simp only [List.length_cons]; omega))
        rw [mrg]
        by_cases c1 : cmpF x y < 0
        · have f1 : decide (cmpF x y ≤ 0) = true := decide_eq_true (by omega)
          have f2 : decide (cmpF x y ≥ 0) = false := decide_eq_false (by omega)
          simp only [len_0, len_pos, len_eq, len_ne, g_0, g_1, drop_hd, gt_hd, Bool.false_eq_true, if_false, if_true, Option.bind_eq_bind, Option.bind_some, and_self, decide_true, decide_false, and_true, true_and, Int.le_refl, z01, Int.lt_irrefl, Bool.not_false, Bool.not_true, compare_s, f1, f2, c1, hz, ia1, ia2, List.append_assoc, List.cons_append, List.nil_append]
        · by_cases c2 : cmpF x y = 0
          · have f1 : decide (cmpF x y ≤ 0) = true := decide_eq_true (by omega)
            have f2 : decide (cmpF x y ≥ 0) = true := decide_eq_true (by omega)
            have c3 : ¬ ((0 : Int) < 0) := by omega
            rw [if_neg c1, if_pos c2]
            simp only [len_0, len_pos, len_eq, len_ne, g_0, g_1, drop_hd, gt_hd, Bool.false_eq_true, if_false, if_true, Option.bind_eq_bind, Option.bind_some, and_self, decide_true, decide_false, and_true, true_and, Int.le_refl, z01, Int.lt_irrefl, Bool.not_false, Bool.not_true, compare_s, f1, f2, hzy, ib1, ib2, List.append_assoc, List.cons_append, List.nil_append]
          · have f1 : decide (cmpF x y ≤ 0) = false := decide_eq_false (by omega)
            have f2 : decide (cmpF x y ≥ 0) = true := decide_eq_true (by omega)
            rw [if_neg c1, if_neg c2]
            simp only [len_0, len_pos, len_eq, len_ne, g_0, g_1, drop_hd, gt_hd, Bool.false_eq_true, if_false, if_true, Option.bind_eq_bind, Option.bind_some, and_self, decide_true, decide_false, and_true, true_and, Int.le_refl, z01, Int.lt_irrefl, Bool.not_false, Bool.not_true, compare_s, f1, f2, hzy, ic1, ic2, List.append_assoc, List.cons_append, List.nil_append]
theorem union_s (a b : List api_Final) (hs : (a.length + b.length) * 392 ≤ 140737488355328) : state_Union.f a b = some (if rises a = true ∧ rises b = true then (mrg true true true a b, 0) else ([], 100)) := by
  unfold state_Union.f state_walk.f
  rw [rises_s a (by omega), rises_s b (by omega), union_l (a.length + b.length) a b [] (Nat.le_refl _) (by simpa using hs)]
  cases rises a <;> cases rises b <;> simp

set_option maxRecDepth 100000 in
theorem meet_l (n : Nat) : ∀ a b acc : List api_Final, a.length + b.length ≤ n → (acc.length + a.length + b.length) * 392 ≤ 140737488355328 → state_walk_1.l0 a b acc = some (acc ++ mrg false false true a b) := by
  induction n with
  | zero =>
    intro a b acc h _
    have ha : a = [] := List.eq_nil_of_length_eq_zero (by omega)
    have hb : b = [] := List.eq_nil_of_length_eq_zero (by omega)
    subst ha; subst hb
    rw [state_walk_1.l0, mrg]; simp
  | succ n ih =>
    intro a b acc h hs
    rw [state_walk_1.l0]
    unfold state_Meet_1.f
    have hsz : ∀ x : api_Final, 0 < a.length + b.length → (acc.length + ([x] : List api_Final).length) * 392 ≤ 140737488355328 := by
      intro x hx; rw [List.length_cons, List.length_nil]; omega
    have hsx : ∀ (x : api_Final) (a' b' : List api_Final), a'.length + b'.length + 1 ≤ a.length + b.length → ((acc ++ [x]).length + a'.length + b'.length) * 392 ≤ 140737488355328 := by
      intro x a' b' hx; rw [List.length_append, List.length_cons, List.length_nil]; omega
    have e1 : decide ((-1 : Int) ≤ 0) = true := rfl
    have e2 : decide ((-1 : Int) ≥ 0) = false := rfl
    have e3 : decide ((1 : Int) ≤ 0) = false := rfl
    have e4 : decide ((1 : Int) ≥ 0) = true := rfl
    cases a with
    | nil =>
      cases b with
      | nil => rw [mrg]; simp
      | cons y b =>
        have i1 := ih [] b acc (by simp only [List.length_cons, List.length_nil] at h ⊢; omega) (by simp only [List.length_cons, List.length_nil] at hs ⊢; omega)
        have i2 := ih [] b (acc ++ [y]) (by simp only [List.length_cons, List.length_nil] at h ⊢; omega) (hsx y [] b (by simp only [List.length_cons, List.length_nil]; omega))
        have hz := hsz y (by simp only [List.length_cons, List.length_nil]; omega)
        rw [mrg]
        simp only [len_0, len_pos, len_eq, len_ne, g_0, g_1, drop_hd, gt_hd, Bool.false_eq_true, if_false, if_true, Option.bind_eq_bind, Option.bind_some, and_self, decide_true, decide_false, and_true, true_and, Int.le_refl, z01, Int.lt_irrefl, Bool.not_false, Bool.not_true, e1, e2, e3, e4, hz, i1, i2, List.append_assoc, List.cons_append, List.nil_append]
    | cons x a =>
      cases b with
      | nil =>
        have i1 := ih a [] acc (by simp only [List.length_cons, List.length_nil] at h ⊢; omega) (by simp only [List.length_cons, List.length_nil] at hs ⊢; omega)
        have i2 := ih a [] (acc ++ [x]) (by simp only [List.length_cons, List.length_nil] at h ⊢; omega) (hsx x a [] (by simp only [List.length_cons, List.length_nil]; omega))
        have hz := hsz x (by simp only [List.length_cons, List.length_nil]; omega)
        rw [mrg]
        simp only [len_0, len_pos, len_eq, len_ne, g_0, g_1, drop_hd, gt_hd, Bool.false_eq_true, if_false, if_true, Option.bind_eq_bind, Option.bind_some, and_self, decide_true, decide_false, and_true, true_and, Int.le_refl, z01, Int.lt_irrefl, Bool.not_false, Bool.not_true, e1, e2, e3, e4, hz, i1, i2, List.append_assoc, List.cons_append, List.nil_append]
      | cons y b =>
        have hz := hsz x (by simp only [List.length_cons]; omega)
        have hzy := hsz y (by simp only [List.length_cons]; omega)
        have ia1 := ih a (y :: b) acc (by simp only [List.length_cons] at h ⊢; omega) (by simp only [List.length_cons] at hs ⊢; omega)
        have ia2 := ih a (y :: b) (acc ++ [x]) (by simp only [List.length_cons] at h ⊢; omega) (hsx x a (y :: b) (by simp only [List.length_cons]; omega))
        have ib1 := ih a b acc (by simp only [List.length_cons] at h ⊢; omega) (by simp only [List.length_cons] at hs ⊢; omega)
        have ib2 := ih a b (acc ++ [y]) (by simp only [List.length_cons] at h ⊢; omega) (hsx y a b (by simp only [List.length_cons]; omega))
        have ic1 := ih (x :: a) b acc (by simp only [List.length_cons] at h ⊢; omega) (by simp only [List.length_cons] at hs ⊢; omega)
        have ic2 := ih (x :: a) b (acc ++ [y]) (by simp only [List.length_cons] at h ⊢; omega) (hsx y (x :: a) b (by simp only [List.length_cons]; omega))
        rw [mrg]
        by_cases c1 : cmpF x y < 0
        · have f1 : decide (cmpF x y ≤ 0) = true := decide_eq_true (by omega)
          have f2 : decide (cmpF x y ≥ 0) = false := decide_eq_false (by omega)
          simp only [len_0, len_pos, len_eq, len_ne, g_0, g_1, drop_hd, gt_hd, Bool.false_eq_true, if_false, if_true, Option.bind_eq_bind, Option.bind_some, and_self, decide_true, decide_false, and_true, true_and, Int.le_refl, z01, Int.lt_irrefl, Bool.not_false, Bool.not_true, compare_s, f1, f2, c1, hz, ia1, ia2, List.append_assoc, List.cons_append, List.nil_append]
        · by_cases c2 : cmpF x y = 0
          · have f1 : decide (cmpF x y ≤ 0) = true := decide_eq_true (by omega)
            have f2 : decide (cmpF x y ≥ 0) = true := decide_eq_true (by omega)
            have c3 : ¬ ((0 : Int) < 0) := by omega
            rw [if_neg c1, if_pos c2]
            simp only [len_0, len_pos, len_eq, len_ne, g_0, g_1, drop_hd, gt_hd, Bool.false_eq_true, if_false, if_true, Option.bind_eq_bind, Option.bind_some, and_self, decide_true, decide_false, and_true, true_and, Int.le_refl, z01, Int.lt_irrefl, Bool.not_false, Bool.not_true, compare_s, f1, f2, hzy, ib1, ib2, List.append_assoc, List.cons_append, List.nil_append]
          · have f1 : decide (cmpF x y ≤ 0) = false := decide_eq_false (by omega)
            have f2 : decide (cmpF x y ≥ 0) = true := decide_eq_true (by omega)
            rw [if_neg c1, if_neg c2]
            simp only [len_0, len_pos, len_eq, len_ne, g_0, g_1, drop_hd, gt_hd, Bool.false_eq_true, if_false, if_true, Option.bind_eq_bind, Option.bind_some, and_self, decide_true, decide_false, and_true, true_and, Int.le_refl, z01, Int.lt_irrefl, Bool.not_false, Bool.not_true, compare_s, f1, f2, hzy, ic1, ic2, List.append_assoc, List.cons_append, List.nil_append]
theorem meet_s (a b : List api_Final) (hs : (a.length + b.length) * 392 ≤ 140737488355328) : state_Meet.f a b = some (if rises a = true ∧ rises b = true then (mrg false false true a b, 0) else ([], 100)) := by
  unfold state_Meet.f state_walk_1.f
  rw [rises_s a (by omega), rises_s b (by omega), meet_l (a.length + b.length) a b [] (Nat.le_refl _) (by simpa using hs)]
  cases rises a <;> cases rises b <;> simp

set_option maxRecDepth 100000 in
theorem minus_l (n : Nat) : ∀ a b acc : List api_Final, a.length + b.length ≤ n → (acc.length + a.length + b.length) * 392 ≤ 140737488355328 → state_walk_2.l0 a b acc = some (acc ++ mrg true false false a b) := by
  induction n with
  | zero =>
    intro a b acc h _
    have ha : a = [] := List.eq_nil_of_length_eq_zero (by omega)
    have hb : b = [] := List.eq_nil_of_length_eq_zero (by omega)
    subst ha; subst hb
    rw [state_walk_2.l0, mrg]; simp
  | succ n ih =>
    intro a b acc h hs
    rw [state_walk_2.l0]
    unfold state_Minus_1.f
    have hsz : ∀ x : api_Final, 0 < a.length + b.length → (acc.length + ([x] : List api_Final).length) * 392 ≤ 140737488355328 := by
      intro x hx; rw [List.length_cons, List.length_nil]; omega
    have hsx : ∀ (x : api_Final) (a' b' : List api_Final), a'.length + b'.length + 1 ≤ a.length + b.length → ((acc ++ [x]).length + a'.length + b'.length) * 392 ≤ 140737488355328 := by
      intro x a' b' hx; rw [List.length_append, List.length_cons, List.length_nil]; omega
    have e1 : decide ((-1 : Int) ≤ 0) = true := rfl
    have e2 : decide ((-1 : Int) ≥ 0) = false := rfl
    have e3 : decide ((1 : Int) ≤ 0) = false := rfl
    have e4 : decide ((1 : Int) ≥ 0) = true := rfl
    cases a with
    | nil =>
      cases b with
      | nil => rw [mrg]; simp
      | cons y b =>
        have i1 := ih [] b acc (by simp only [List.length_cons, List.length_nil] at h ⊢; omega) (by simp only [List.length_cons, List.length_nil] at hs ⊢; omega)
        have i2 := ih [] b (acc ++ [y]) (by simp only [List.length_cons, List.length_nil] at h ⊢; omega) (hsx y [] b (by simp only [List.length_cons, List.length_nil]; omega))
        have hz := hsz y (by simp only [List.length_cons, List.length_nil]; omega)
        rw [mrg]
        simp only [len_0, len_pos, len_eq, len_ne, g_0, g_1, drop_hd, gt_hd, Bool.false_eq_true, if_false, if_true, Option.bind_eq_bind, Option.bind_some, and_self, decide_true, decide_false, and_true, true_and, Int.le_refl, z01, Int.lt_irrefl, Bool.not_false, Bool.not_true, e1, e2, e3, e4, hz, i1, i2, List.append_assoc, List.cons_append, List.nil_append]
    | cons x a =>
      cases b with
      | nil =>
        have i1 := ih a [] acc (by simp only [List.length_cons, List.length_nil] at h ⊢; omega) (by simp only [List.length_cons, List.length_nil] at hs ⊢; omega)
        have i2 := ih a [] (acc ++ [x]) (by simp only [List.length_cons, List.length_nil] at h ⊢; omega) (hsx x a [] (by simp only [List.length_cons, List.length_nil]; omega))
        have hz := hsz x (by simp only [List.length_cons, List.length_nil]; omega)
        rw [mrg]
        simp only [len_0, len_pos, len_eq, len_ne, g_0, g_1, drop_hd, gt_hd, Bool.false_eq_true, if_false, if_true, Option.bind_eq_bind, Option.bind_some, and_self, decide_true, decide_false, and_true, true_and, Int.le_refl, z01, Int.lt_irrefl, Bool.not_false, Bool.not_true, e1, e2, e3, e4, hz, i1, i2, List.append_assoc, List.cons_append, List.nil_append]
      | cons y b =>
        have hz := hsz x (by simp only [List.length_cons]; omega)
        have hzy := hsz y (by simp only [List.length_cons]; omega)
        have ia1 := ih a (y :: b) acc (by simp only [List.length_cons] at h ⊢; omega) (by simp only [List.length_cons] at hs ⊢; omega)
        have ia2 := ih a (y :: b) (acc ++ [x]) (by simp only [List.length_cons] at h ⊢; omega) (hsx x a (y :: b) (by simp only [List.length_cons]; omega))
        have ib1 := ih a b acc (by simp only [List.length_cons] at h ⊢; omega) (by simp only [List.length_cons] at hs ⊢; omega)
        have ib2 := ih a b (acc ++ [y]) (by simp only [List.length_cons] at h ⊢; omega) (hsx y a b (by simp only [List.length_cons]; omega))
        have ic1 := ih (x :: a) b acc (by simp only [List.length_cons] at h ⊢; omega) (by simp only [List.length_cons] at hs ⊢; omega)
        have ic2 := ih (x :: a) b (acc ++ [y]) (by simp only [List.length_cons] at h ⊢; omega) (hsx y (x :: a) b (by simp only [List.length_cons]; omega))
        rw [mrg]
        by_cases c1 : cmpF x y < 0
        · have f1 : decide (cmpF x y ≤ 0) = true := decide_eq_true (by omega)
          have f2 : decide (cmpF x y ≥ 0) = false := decide_eq_false (by omega)
          simp only [len_0, len_pos, len_eq, len_ne, g_0, g_1, drop_hd, gt_hd, Bool.false_eq_true, if_false, if_true, Option.bind_eq_bind, Option.bind_some, and_self, decide_true, decide_false, and_true, true_and, Int.le_refl, z01, Int.lt_irrefl, Bool.not_false, Bool.not_true, compare_s, f1, f2, c1, hz, ia1, ia2, List.append_assoc, List.cons_append, List.nil_append]
        · by_cases c2 : cmpF x y = 0
          · have f1 : decide (cmpF x y ≤ 0) = true := decide_eq_true (by omega)
            have f2 : decide (cmpF x y ≥ 0) = true := decide_eq_true (by omega)
            have c3 : ¬ ((0 : Int) < 0) := by omega
            rw [if_neg c1, if_pos c2]
            simp only [len_0, len_pos, len_eq, len_ne, g_0, g_1, drop_hd, gt_hd, Bool.false_eq_true, if_false, if_true, Option.bind_eq_bind, Option.bind_some, and_self, decide_true, decide_false, and_true, true_and, Int.le_refl, z01, Int.lt_irrefl, Bool.not_false, Bool.not_true, compare_s, f1, f2, hzy, ib1, ib2, List.append_assoc, List.cons_append, List.nil_append]
          · have f1 : decide (cmpF x y ≤ 0) = false := decide_eq_false (by omega)
            have f2 : decide (cmpF x y ≥ 0) = true := decide_eq_true (by omega)
            rw [if_neg c1, if_neg c2]
            simp only [len_0, len_pos, len_eq, len_ne, g_0, g_1, drop_hd, gt_hd, Bool.false_eq_true, if_false, if_true, Option.bind_eq_bind, Option.bind_some, and_self, decide_true, decide_false, and_true, true_and, Int.le_refl, z01, Int.lt_irrefl, Bool.not_false, Bool.not_true, compare_s, f1, f2, hzy, ic1, ic2, List.append_assoc, List.cons_append, List.nil_append]
theorem minus_s (a b : List api_Final) (hs : (a.length + b.length) * 392 ≤ 140737488355328) : state_Minus.f a b = some (if rises a = true ∧ rises b = true then (mrg true false false a b, 0) else ([], 100)) := by
  unfold state_Minus.f state_walk_2.f
  rw [rises_s a (by omega), rises_s b (by omega), minus_l (a.length + b.length) a b [] (Nat.le_refl _) (by simpa using hs)]
  cases rises a <;> cases rises b <;> simp

end Go.Proofs.YtjbhgahbaeoinaaDoor.K
