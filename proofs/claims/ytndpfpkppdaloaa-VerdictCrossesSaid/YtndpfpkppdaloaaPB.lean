/- The difference of two rising lists, and what Cross answers. -/
import Derived.Test.YtndpfpkppdaloaaPA
import Derived.Test.YtndpfpkppdaloaaO
set_option linter.unusedVariables false
set_option linter.unusedSimpArgs false
namespace Go.Proofs.Ytndpfpkppdaloaa.K
open Go

def minus : List api_Final → List api_Final → List api_Final
  | [], _ => []
  | x :: a, [] => x :: minus a []
  | x :: a, y :: b => if cmpF x y < 0 then x :: minus a (y :: b) else if cmpF x y = 0 then minus a b else minus (x :: a) b
termination_by a b => a.length + b.length
theorem minus_mem : ∀ (a b : List api_Final) (z : api_Final), z ∈ minus a b → z ∈ a
  | [], b, z, h => by rw [minus] at h; exact h
  | x :: a, [], z, h => by
    rw [minus] at h
    rcases List.mem_cons.1 h with rfl | h
    · simp
    · exact List.mem_cons_of_mem _ (minus_mem a [] z h)
  | x :: a, y :: b, z, h => by
    rw [minus] at h
    split at h
    · rcases List.mem_cons.1 h with rfl | h
      · simp
      · exact List.mem_cons_of_mem _ (minus_mem a (y :: b) z h)
    · split at h
      · exact List.mem_cons_of_mem _ (minus_mem a b z h)
      · exact minus_mem (x :: a) b z h
termination_by a b => a.length + b.length
theorem z01 : (0 : Int) ≤ 1 := by decide
theorem gt_hd {α : Type} [Inhabited α] (x : α) (l : List α) : gt (x :: l) 0 = x := rfl
theorem drop_hd {α : Type} (x : α) (l : List α) : ((x :: l).take (x :: l).length).drop ((1 : Int).toNat) = l := by simp
theorem len_pos {α : Type} (x : α) (l : List α) : decide (((x :: l).length : Int) > 0) = true := by rw [List.length_cons, decide_eq_true_iff]; omega
theorem len_0 {α : Type} : decide ((([] : List α).length : Int) > 0) = false := by simp
theorem len_ne {α : Type} (x : α) (l : List α) : (((x :: l).length : Int) == 0) = false := by simp; omega
theorem len_eq {α : Type} : ((([] : List α).length : Int) == 0) = true := by simp
theorem g_0 {α : Type} (x : α) (l : List α) : (0 : Int) ≤ (0 : Int) ∧ (0 : Int) < ((x :: l).length : Int) := by rw [List.length_cons]; exact ⟨Int.le_refl _, by omega⟩
theorem g_1 {α : Type} (x : α) (l : List α) : (0 : Int) ≤ (1 : Int) ∧ (1 : Int) ≤ ((x :: l).length : Int) := by rw [List.length_cons]; omega

set_option maxRecDepth 100000 in
theorem minus_l (n : Nat) : ∀ a b acc : List api_Final, a.length + b.length ≤ n → (acc.length + a.length) * 392 ≤ 140737488355328 → state_walk.l0 a b acc = some (acc ++ minus a b) := by
  induction n with
  | zero =>
    intro a b acc h _
    have ha : a = [] := List.eq_nil_of_length_eq_zero (by omega)
    have hb : b = [] := List.eq_nil_of_length_eq_zero (by omega)
    subst ha; subst hb
    rw [state_walk.l0, minus]; simp
  | succ n ih =>
    intro a b acc h hs
    rw [state_walk.l0]
    unfold state_Minus_1.f
    cases a with
    | nil =>
      cases b with
      | nil => rw [minus]; simp
      | cons y b =>
        have := ih [] b acc (by simp only [List.length_cons, List.length_nil] at h ⊢; omega) hs
        rw [minus] at this ⊢
        simp only [len_0, len_pos, len_eq, g_0, g_1, drop_hd, gt_hd, Bool.false_eq_true, if_false, if_true, Option.bind_eq_bind, Option.bind_some, and_self, decide_true, and_true, true_and, Int.le_refl, z01, Int.lt_irrefl]
        simpa using this
    | cons x a =>
      have hs' : (acc.length + (a.length + 1)) * 392 ≤ 140737488355328 := hs
      have hsz : (acc.length + ([x] : List api_Final).length) * 392 ≤ 140737488355328 := by rw [List.length_cons, List.length_nil]; omega
      have hsx : ((acc ++ [x]).length + a.length) * 392 ≤ 140737488355328 := by rw [List.length_append, List.length_cons, List.length_nil]; omega
      cases b with
      | nil =>
        have := ih a [] (acc ++ [x]) (by simp only [List.length_cons, List.length_nil] at h ⊢; omega) hsx
        rw [minus]
        simp only [len_0, len_pos, len_ne, g_0, g_1, drop_hd, gt_hd, Bool.false_eq_true, if_false, if_true, Option.bind_eq_bind, Option.bind_some, and_self, decide_true, and_true, true_and, Int.le_refl, z01, Int.lt_irrefl, Bool.not_false, Bool.not_true]
        have e1 : decide ((-1 : Int) ≤ 0) = true := rfl
        have e2 : decide ((-1 : Int) ≥ 0) = false := rfl
        simp only [e1, e2, Bool.false_eq_true, if_false, if_true, Option.bind_some, decide_true, and_true, true_and, Int.le_refl, z01, Int.lt_irrefl, hsz, this]
        rw [List.append_assoc]; rfl
      | cons y b =>
        rw [minus]
        simp only [len_pos, len_ne, g_0, g_1, drop_hd, gt_hd, Bool.false_eq_true, if_false, if_true, Option.bind_eq_bind, Option.bind_some, and_self, decide_true, and_true, true_and, Int.le_refl, z01, Int.lt_irrefl, compare_s, Bool.not_false, Bool.not_true]
        have h1 := ih a (y :: b) (acc ++ [x]) (by simp only [List.length_cons] at h ⊢; omega) hsx
        have h2 := ih a b acc (by simp only [List.length_cons] at h ⊢; omega) (by omega)
        have h3 := ih (x :: a) b acc (by simp only [List.length_cons] at h ⊢; omega) hs
        by_cases c1 : cmpF x y < 0
        · have e1 : decide (cmpF x y ≤ 0) = true := by simp; omega
          have e2 : decide (cmpF x y ≥ 0) = false := by simp; omega
          simp only [e1, e2, Bool.false_eq_true, if_false, if_true, Option.bind_some, decide_true, and_true, true_and, Int.le_refl, z01, Int.lt_irrefl, hsz, h1, c1]
          rw [List.append_assoc]; rfl
        · by_cases c2 : cmpF x y = 0
          · have e1 : decide (cmpF x y ≤ 0) = true := by simp; omega
            have e2 : decide (cmpF x y ≥ 0) = true := by simp; omega
            simp only [e1, e2, Bool.false_eq_true, if_false, if_true, Option.bind_some, decide_true, and_true, true_and, Int.le_refl, z01, Int.lt_irrefl, h2, c1, c2]
          · have e1 : decide (cmpF x y ≤ 0) = false := by simp; omega
            have e2 : decide (cmpF x y ≥ 0) = true := by simp; omega
            simp only [e1, e2, Bool.false_eq_true, if_false, if_true, Option.bind_some, decide_true, and_true, true_and, Int.le_refl, z01, Int.lt_irrefl, h3, c1, c2]
theorem minus_s (a b : List api_Final) (hs : a.length * 392 ≤ 140737488355328) (hb : b.length ≤ 9223372036854775807) : state_Minus.f a b = some (if rises a = true ∧ rises b = true then (minus a b, 0) else ([], 100)) := by
  unfold state_Minus.f state_walk.f
  rw [rises_s a (by omega), rises_s b hb]
  have := minus_l (a.length + b.length) a b [] (Nat.le_refl _) (by simpa using hs)
  rw [this]
  cases rises a <;> cases rises b <;> simp

/-! ### Cross -/
def zeroF : api_Final := ⟨0, Vector.replicate 48 0⟩
def cross : List api_Final → List api_Final → api_Final × Int
  | [], [] => (zeroF, 0)
  | [], y :: _ => (y, 2)
  | x :: _, [] => (x, 1)
  | x :: a, y :: b => if cmpF x y < 0 then (x, 1) else if cmpF x y > 0 then (y, 2) else cross a b
/-- What Cross makes of the two differences. -/
def pick : List api_Final → List api_Final → api_Final × Int
  | [], [] => (zeroF, 0)
  | [], y :: _ => (y, 2)
  | x :: _, [] => (x, 1)
  | x :: _, y :: _ => if cmpF x y < 0 then (x, 1) else (y, 2)
theorem minus_nil (a : List api_Final) : minus a [] = a := by
  induction a with
  | nil => rw [minus]
  | cons x a ih => rw [minus, ih]
theorem pick_lt {x : api_Final} {a b : List api_Final} (h : ∀ z ∈ b, cmpF x z < 0) : pick (x :: a) b = (x, 1) := by
  cases b with
  | nil => rfl
  | cons y b => simp only [pick]; rw [if_pos (h y (by simp))]
theorem pick_gt {y : api_Final} {a b : List api_Final} (h : ∀ z ∈ a, cmpF y z < 0) : pick a (y :: b) = (y, 2) := by
  cases a with
  | nil => rfl
  | cons x a =>
    simp only [pick]
    have := h x (by simp)
    have := cmpF_swap x y
    rw [if_neg (by omega)]
theorem pick_cross : ∀ a b : List api_Final, a.Pairwise (fun a b => cmpF a b < 0) → b.Pairwise (fun a b => cmpF a b < 0) → pick (minus a b) (minus b a) = cross a b
  | [], [], _, _ => by rw [minus]; rfl
  | [], y :: b, _, _ => by rw [minus, minus_nil]; rfl
  | x :: a, [], _, _ => by rw [minus_nil, minus]; rfl
  | x :: a, y :: b, ha, hb => by
    have ha' := List.pairwise_cons.1 ha
    have hb' := List.pairwise_cons.1 hb
    have hs := cmpF_swap x y
    by_cases c1 : cmpF x y < 0
    · have e1 : minus (x :: a) (y :: b) = x :: minus a (y :: b) := by rw [minus, if_pos c1]
      have e2 : minus (y :: b) (x :: a) = minus (y :: b) a := by rw [minus, if_neg (by omega), if_neg (by omega)]
      have e3 : cross (x :: a) (y :: b) = (x, 1) := by simp only [cross]; rw [if_pos c1]
      rw [e1, e2, e3]
      refine pick_lt (fun z hz => ?_)
      rcases List.mem_cons.1 (minus_mem _ _ z hz) with rfl | hz
      · exact c1
      · exact cmpF_lt_trans c1 (hb'.1 z hz)
    · by_cases c2 : cmpF x y > 0
      · have e1 : minus (y :: b) (x :: a) = y :: minus b (x :: a) := by rw [minus, if_pos (by omega)]
        have e2 : minus (x :: a) (y :: b) = minus (x :: a) b := by rw [minus, if_neg (by omega), if_neg (by omega)]
        have e3 : cross (x :: a) (y :: b) = (y, 2) := by simp only [cross]; rw [if_neg (by omega), if_pos c2]
        rw [e1, e2, e3]
        refine pick_gt (fun z hz => ?_)
        rcases List.mem_cons.1 (minus_mem _ _ z hz) with rfl | hz
        · omega
        · exact cmpF_lt_trans (by omega) (ha'.1 z hz)
      · have e1 : minus (x :: a) (y :: b) = minus a b := by rw [minus, if_neg (by omega), if_pos (by omega)]
        have e2 : minus (y :: b) (x :: a) = minus b a := by rw [minus, if_neg (by omega), if_pos (by omega)]
        have e3 : cross (x :: a) (y :: b) = cross a b := by simp only [cross]; rw [if_neg (by omega), if_neg (by omega)]
        rw [e1, e2, e3]
        exact pick_cross a b ha'.2 hb'.2
theorem cross_l (a b : List api_Final) (ha : a.length ≤ 9223372036854775807) (hb : b.length ≤ 9223372036854775807) : ∀ (n t : Nat), t ≤ a.length → t ≤ b.length → (a.length - t) + (b.length - t) ≤ n →
    weirref23_Cross.l0 a b t = some (if a.drop t = b.drop t then .inl () else .inr ((cross (a.drop t) (b.drop t)).1, (cross (a.drop t) (b.drop t)).2, 0)) := by
  intro n
  induction n with
  | zero =>
    intro t h1 h2 h3
    rw [weirref23_Cross.l0, List.drop_of_length_le (by omega), List.drop_of_length_le (by omega)]
    have e1 : decide ((t : Int) < (a.length : Int)) = false := by simp; omega
    have e2 : decide ((t : Int) < (b.length : Int)) = false := by simp; omega
    rw [if_neg (nt e1), if_neg (nt e2)]; rfl
  | succ n ih =>
    intro t h1 h2 h3
    rw [weirref23_Cross.l0]
    by_cases ka : t < a.length
    · have e1 : decide ((t : Int) < (a.length : Int)) = true := by simp; omega
      have g1 : (0 : Int) ≤ (t : Int) ∧ (t : Int) < (a.length : Int) := by omega
      have n1 : ((t : Int) == (a.length : Int)) = false := by simp; omega
      rw [if_pos e1]
      simp only [Option.bind_eq_bind, Option.bind_some]
      rw [if_neg (nt n1), List.drop_eq_getElem_cons ka]
      by_cases kb : t < b.length
      · have g2 : (0 : Int) ≤ (t : Int) ∧ (t : Int) < (b.length : Int) := by omega
        have n2 : ((t : Int) == (b.length : Int)) = false := by simp; omega
        rw [if_neg (nt n2), if_pos g1, if_pos g2, gt_nat ka, gt_nat kb, compare_r, List.drop_eq_getElem_cons kb]
        simp only [Option.bind_eq_bind, Option.bind_some, cross]
        by_cases c1 : cmpF a[t] b[t] < 0
        · have hne : ¬ (a[t] :: a.drop (t + 1) = b[t] :: b.drop (t + 1)) := by
            intro h; have := (List.cons.inj h).1; rw [this, cmpF_self] at c1; omega
          rw [if_pos (by simpa using c1), if_pos g1, if_neg hne, if_pos c1]
        · rw [if_neg (by simpa using c1)]
          by_cases c2 : cmpF a[t] b[t] > 0
          · have hne : ¬ (a[t] :: a.drop (t + 1) = b[t] :: b.drop (t + 1)) := by
              intro h; have := (List.cons.inj h).1; rw [this, cmpF_self] at c2; omega
            rw [if_pos (by simpa using c2), if_pos g2, if_neg hne, if_neg c1, if_pos c2]
          · have he : a[t] = b[t] := cmpF_zero.1 (by omega)
            rw [if_neg (by simpa using c2), w1 (by omega), ih (t + 1) (by omega) (by omega) (by omega), if_neg c1, if_neg c2]
            simp only [List.cons.injEq, he, true_and]
      · have n2 : ((t : Int) == (b.length : Int)) = true := by simp; omega
        rw [if_pos n2, if_pos g1, gt_nat ka, List.drop_of_length_le (by omega : b.length ≤ t), if_neg (List.cons_ne_nil _ _)]
        rfl
    · have e1 : decide ((t : Int) < (a.length : Int)) = false := by simp; omega
      by_cases kb : t < b.length
      · have e2 : decide ((t : Int) < (b.length : Int)) = true := by simp; omega
        have g2 : (0 : Int) ≤ (t : Int) ∧ (t : Int) < (b.length : Int) := by omega
        have n1 : ((t : Int) == (a.length : Int)) = true := by simp; omega
        rw [if_neg (nt e1), if_pos e2]
        simp only [Option.bind_eq_bind, Option.bind_some]
        rw [if_pos n1, if_pos g2, gt_nat kb, List.drop_of_length_le (by omega : a.length ≤ t), List.drop_eq_getElem_cons kb, if_neg (fun h => by cases h)]
        rfl
      · have e2 : decide ((t : Int) < (b.length : Int)) = false := by simp; omega
        rw [if_neg (nt e1), if_neg (nt e2), List.drop_of_length_le (by omega), List.drop_of_length_le (by omega)]; rfl
theorem cross_self : ∀ a : List api_Final, cross a a = (zeroF, 0)
  | [] => rfl
  | x :: a => by simp only [cross, cmpF_self]; exact cross_self a
theorem cross_r (a b : List api_Final) (ha : a.length ≤ 9223372036854775807) (hb : b.length ≤ 9223372036854775807) : weirref23_Cross.f a b = some (if rises a = true ∧ rises b = true then ((cross a b).1, (cross a b).2, 0) else (zeroF, 0, 100)) := by
  unfold weirref23_Cross.f
  rw [rises_r a ha, rises_r b hb]
  have := cross_l a b ha hb (a.length + b.length) 0 (by omega) (by omega) (by omega)
  rw [List.drop_zero, List.drop_zero] at this
  rw [show ((0 : Int)) = ((0 : Nat) : Int) from rfl, this]
  cases rises a
  · simp [zeroF]
  · cases rises b
    · simp [zeroF]
    · by_cases h : a = b
      · subst h; simp [cross_self, zeroF]
      · simp [h]
theorem cross_s (a b : List api_Final) (ha : a.length * 392 ≤ 140737488355328) (hb : b.length * 392 ≤ 140737488355328) : verdict_Cross.f a b = some (if rises a = true ∧ rises b = true then ((cross a b).1, (cross a b).2, 0) else (zeroF, 0, 100)) := by
  unfold verdict_Cross.f
  rw [minus_s a b ha (by omega), minus_s b a hb (by omega)]
  by_cases h : rises a = true ∧ rises b = true
  · rw [if_pos h, if_pos h.symm, if_pos h, ← pick_cross a b (rises_iff.1 h.1).2 (rises_iff.1 h.2).2]
    simp only [Option.bind_eq_bind, Option.bind_some]
    generalize minus a b = x
    generalize minus b a = y
    cases x with
    | nil =>
      cases y with
      | nil => simp [pick, zeroF]
      | cons v y =>
        have := len_pos v y
        simp only [bne_self_eq_false, Bool.false_eq_true, if_false, len_0, len_pos, g_0, if_true, gt_hd, pick, and_self, decide_true, and_true, true_and, Int.le_refl, z01, Int.lt_irrefl]
    | cons u x =>
      cases y with
      | nil => simp only [bne_self_eq_false, Bool.false_eq_true, if_false, len_0, len_eq, len_pos, g_0, if_true, gt_hd, pick, and_self, decide_true, and_true, true_and, Int.le_refl, z01, Int.lt_irrefl]
      | cons v y =>
        simp only [bne_self_eq_false, Bool.false_eq_true, if_false, len_0, len_ne, len_pos, g_0, if_true, gt_hd, pick, compare_s, Option.bind_some, and_self]
        by_cases c : cmpF u v < 0
        · simp [c]
        · simp [c]
  · have h' : ¬ (rises b = true ∧ rises a = true) := fun k => h k.symm
    rw [if_neg h, if_neg h]
    simp [zeroF]
theorem crosses_true (a b : List api_Final) (ha : a.length * 392 ≤ 140737488355328) (hb : b.length * 392 ≤ 140737488355328) : weirlaw23_VerdictCrosses.f a b = some true := by
  unfold weirlaw23_VerdictCrosses.f
  rw [cross_s a b ha hb, cross_r a b (by omega) (by omega)]
  simp
theorem crosses_law (a b : List api_Final) (ha : a.length * 392 ≤ reachBytes ∧ ∀ x ∈ a, ok_api_Final x) (hb : b.length * 392 ≤ reachBytes ∧ ∀ x ∈ b, ok_api_Final x) : weirlaw23_VerdictCrosses.f a b = some true :=
  crosses_true a b (Nat.le_trans ha.1 (by decide)) (Nat.le_trans hb.1 (by decide))
end Go.Proofs.Ytndpfpkppdaloaa.K
