/- Final states in plain Lean: their order, when they are right, lists that rise; what the program's and the document's functions answer. -/
import Derived.Test.YtcjaknnihjcajaaGreatVA
namespace Go.Proofs.YtcjaknnihjcajaaGreat.K
open Go
def cmpL : List Int → List Int → Int
 | [], [] => 0
 | [], _ :: _ => -1
 | _ :: _, [] => 1
 | a :: xs, b :: ys => if a < b then -1 else if b < a then 1 else cmpL xs ys
def key (f : api_Final) : List Int := f.N :: f.V.toList
def cmpF (a b : api_Final) : Int := cmpL (key a) (key b)
theorem vget_nat {n : Nat} {v : Vector Int n} {t : Nat} (h : t < n) : vget v (t : Int) = v.toList[t]'(by simpa using h) := by
 unfold vget; rw [Int.toNat_natCast, List.getD_eq_getElem?_getD, List.getElem?_eq_getElem (by simpa using h)]; rfl
theorem compare_c (x y : Int) : cmp_Compare_int64.f x y = some (if x < y then -1 else if y < x then 1 else 0) := by
 unfold cmp_Compare_int64.f cmp_isNaN_int64.f
 by_cases h1 : x < y
 ·simp [h1]
 ·by_cases h2 : y < x <;> simp [h1, h2]
def outL (c : Int) : Sum Unit Int := if c = 0 then .inl () else .inr c
theorem compare_l (a b : List Int) (hl : a.length = b.length) (hs : a.length ≤ 1000) : ∀ (n t : Nat), t + n = a.length →
  slices_Compare___int64_int64.l0 a b t = some (outL (cmpL (a.drop t) (b.drop t))) := by
 intro n
 induction n with
 | zero =>
  intro t ht;rw [slices_Compare___int64_int64.l0, List.drop_of_length_le (by omega), List.drop_of_length_le (by omega)]
  have : decide ((t : Int) < (a.length : Int)) = false := by simp; omega
  rw [if_neg (nt this)]; rfl
 | succ n ih =>
  intro t ht
  have h1 : t < a.length := by omega
  have h2 : t < b.length := by omega
  rw [slices_Compare___int64_int64.l0, List.drop_eq_getElem_cons h1, List.drop_eq_getElem_cons h2]
  have e1 : decide ((t : Int) < (a.length : Int)) = true := by simp; omega
  have e2 : decide ((t : Int) ≥ (b.length : Int)) = false := by simp; omega
  rw [if_pos e1, if_pos (by omega), if_neg (nt e2), if_pos (by omega), gt_nat h1, gt_nat h2, compare_c];simp only [Option.bind_eq_bind, Option.bind_some, cmpL]
  by_cases h3 : a[t] < b[t]
  ·simp [h3, outL]
  ·by_cases h4 : b[t] < a[t]
   ·simp [h3, h4, outL]
   ·simp only [h3, h4, if_false, bne_self_eq_false, Bool.false_eq_true];rw [w1 (by omega)];exact ih (t + 1) (by omega)
theorem compare_s (a b : api_Final) : state_Compare.f a b = some (cmpF a b) := by
 unfold state_Compare.f cmpF key;simp only [cmpL]
 by_cases h1 : a.N < b.N
 ·simp [h1]
 ·by_cases h2 : b.N < a.N
  ·simp [h1, h2]
  ·have e1 : decide (a.N < b.N) = false := by simpa using h1
   have e2 : decide (a.N > b.N) = false := by simpa using h2
   have la : a.V.toList.length = 48 := by simp
   have lb : b.V.toList.length = 48 := by simp
   rw [if_neg (nt e1), if_neg (nt e2), if_neg h1, if_neg h2];rw [List.take_of_length_le (by omega), List.take_of_length_le (by omega), List.drop_zero, List.drop_zero];unfold slices_Compare___int64_int64.f;have := compare_l a.V.toList b.V.toList (by omega) (by omega) 48 0 (by omega);rw [List.drop_zero, List.drop_zero] at this;rw [show ((0 : Int)) = ((0 : Nat) : Int) from rfl, this]
   by_cases h3 : cmpL a.V.toList b.V.toList = 0
   ·simp [h3, outL]
   ·simp [h3, outL]
theorem compare_rl (a b : api_Final) : ∀ (n t : Nat), t + n = 48 → weirref10_Compare.l0 a b t = some (outL (cmpL (a.V.toList.drop t) (b.V.toList.drop t))) := by
 intro n
 have la : a.V.toList.length = 48 := by simp
 have lb : b.V.toList.length = 48 := by simp
 induction n with
 | zero =>
  intro t ht;rw [weirref10_Compare.l0, List.drop_of_length_le (by omega), List.drop_of_length_le (by omega)]
  have : decide ((t : Int) < 48) = false := by simp; omega
  rw [if_neg (nt this)]; rfl
 | succ n ih =>
  intro t ht
  have h1 : t < a.V.toList.length := by omega
  have h2 : t < b.V.toList.length := by omega
  rw [weirref10_Compare.l0, List.drop_eq_getElem_cons h1, List.drop_eq_getElem_cons h2]
  have e1 : decide ((t : Int) < 48) = true := by simp; omega
  rw [if_pos e1, if_pos (by omega), if_pos (by omega), vget_nat (by omega), vget_nat (by omega)];have ih' := ih (t + 1) (by omega);generalize a.V.toList[t] = x;generalize b.V.toList[t] = y;simp only [cmpL]
  by_cases h3 : x < y
  ·rw [if_pos (by simpa using h3), if_pos h3]; rfl
  ·rw [if_neg (by simpa using h3), if_pos (by omega), if_pos (by omega), if_neg h3]
   by_cases h4 : y < x
   ·rw [if_pos (by simpa using h4), if_pos h4]; rfl
   ·rw [if_neg (by simpa using h4), if_neg h4, w1 (by omega)];exact ih'
theorem compare_r (a b : api_Final) : weirref10_Compare.f a b = some (cmpF a b) := by
 unfold weirref10_Compare.f cmpF key;simp only [cmpL]
 by_cases h0 : a.N = b.N
 ·have := compare_rl a b 48 0 (by omega);rw [List.drop_zero, List.drop_zero] at this;rw [if_neg (by simp [h0]), show ((0 : Int)) = ((0 : Nat) : Int) from rfl, this, if_neg (by omega), if_neg (by omega)]
  by_cases h3 : cmpL a.V.toList b.V.toList = 0
  ·simp [h3, outL]
  ·simp [h3, outL]
 ·rw [if_pos (by simpa using h0)]
  by_cases h1 : a.N < b.N
  ·simp [h1]
  ·rw [if_neg (by simpa using h1), if_neg h1, if_pos (by omega)]
def okV (f : api_Final) : Bool := decide (0 ≤ f.N) && decide (f.N ≤ 48) && (f.V.toList.drop f.N.toNat).all (· == 0)
def chk (f : api_Final) : Int := if okV f = true then 0 else 4
theorem check_sl (f : api_Final) (l : List Int) (hl : (f.V.toList.take 48).drop f.N.toNat = l) (hs : l.length ≤ 1000) : ∀ (n t : Nat), t + n = l.length →
  state_Check.l0 f t = some (if (l.drop t).all (· == 0) = true then .inl () else .inr 4) := by
 intro n
 induction n with
 | zero =>
  intro t ht;rw [state_Check.l0, hl, List.drop_of_length_le (by omega)]
  have : decide ((t : Int) < (l.length : Int)) = false := by simp; omega
  rw [if_neg (nt this)]; rfl
 | succ n ih =>
  intro t ht
  have h1 : t < l.length := by omega
  rw [state_Check.l0, hl, List.drop_eq_getElem_cons h1];rw [if_pos (by simp; omega), if_pos (by omega), gt_nat h1]
  by_cases h2 : l[t] = 0
  ·rw [if_neg (by simp [h2]), w1 (by omega), ih (t + 1) (by omega)];simp [h2]
  ·rw [if_pos (by simpa using h2)]
   have h3 : (l[t] == 0) = false := by simpa using h2
   simp only [List.all_cons, h3, Bool.false_and, Bool.false_eq_true, if_false]
theorem check_s (f : api_Final) : state_Check.f f = some (chk f) := by
 unfold state_Check.f chk okV
 by_cases h1 : f.N < 0
 ·have : decide (0 ≤ f.N) = false := by simp; omega
  simp [h1, this]
 ·by_cases h2 : 48 < f.N
  ·have : decide (f.N ≤ 48) = false := by simp; omega
   simp [h1, h2, this]
  ·have la : f.V.toList.length = 48 := by simp
   have := check_sl f _ rfl (by simp; omega) (((f.V.toList.take 48).drop f.N.toNat).length) 0 (by omega);rw [if_neg (by simpa using h1), if_neg (by simpa using h2), if_pos (by omega), show ((0 : Int)) = ((0 : Nat) : Int) from rfl, this, List.drop_zero, List.take_of_length_le (by omega)]
   have e1 : decide (0 ≤ f.N) = true := by simp; omega
   have e2 : decide (f.N ≤ 48) = true := by simp; omega
   simp only [Int.natCast_zero, e1, e2, Bool.true_and]
   by_cases h3 : (f.V.toList.drop f.N.toNat).all (· == 0) = true
   ·simp only [h3, if_true]; rfl
   ·simp only [h3, Bool.false_eq_true, if_false]; rfl
theorem check_rl (f : api_Final) : ∀ (n t : Nat), t + n = 48 →
  weirref10_Check.l0 f t = some (if (f.V.toList.drop t).all (· == 0) = true then .inl () else .inr 4) := by
 intro n
 have la : f.V.toList.length = 48 := by simp
 induction n with
 | zero =>
  intro t ht;rw [weirref10_Check.l0, List.drop_of_length_le (by omega)]
  have : decide ((t : Int) < 48) = false := by simp; omega
  simp [this]
 | succ n ih =>
  intro t ht
  have h1 : t < f.V.toList.length := by omega
  rw [weirref10_Check.l0, List.drop_eq_getElem_cons h1];rw [if_pos (by simp; omega), if_pos (by omega), vget_nat (by omega)]
  by_cases h2 : f.V.toList[t] = 0
  ·rw [if_neg (by simpa using h2), w1 (by omega), ih (t + 1) (by omega)];simp only [List.all_cons, h2, beq_self_eq_true, Bool.true_and]
  ·rw [if_pos (by simpa using h2)]
   have : (f.V.toList[t] == 0) = false := by simpa using h2
   simp only [List.all_cons, this, Bool.false_and, Bool.false_eq_true, if_false]
theorem check_r (f : api_Final) : weirref10_Check.f f = some (chk f) := by
 unfold weirref10_Check.f chk okV
 by_cases h1 : f.N < 0
 ·have : decide (0 ≤ f.N) = false := by simp; omega
  simp [h1, this]
 ·by_cases h2 : 48 < f.N
  ·have : decide (f.N ≤ 48) = false := by simp; omega
   simp [h1, h2, this]
  ·have := check_rl f (48 - f.N.toNat) f.N.toNat (by omega);rw [Int.toNat_of_nonneg (by omega)] at this;rw [if_neg (by simpa using h1), if_neg (by simpa using h2), this]
   have e1 : decide (0 ≤ f.N) = true := by simp; omega
   have e2 : decide (f.N ≤ 48) = true := by simp; omega
   simp only [e1, e2, Bool.true_and]
   by_cases h3 : (f.V.toList.drop f.N.toNat).all (· == 0) = true
   ·simp only [h3, if_true]; rfl
   ·simp only [h3, Bool.false_eq_true, if_false]; rfl
def risesFrom : Option api_Final → List api_Final → Bool
 | _, [] => true
 | p, f :: l => okV f && (match p with | none => true | some q => decide (cmpF q f < 0)) && risesFrom (some f) l
def rises (l : List api_Final) : Bool := risesFrom none l
theorem chk_ne (f : api_Final) : ((chk f != 0) = true) ↔ okV f = false := by
 unfold chk; cases okV f <;> simp
def prevOf (l : List api_Final) (t : Nat) : Option api_Final := if t = 0 then none else l[t - 1]?
theorem rises_ls (l : List api_Final) (hs : l.length ≤ 9223372036854775807) : ∀ (n t : Nat), t + n = l.length →
  state_Rises.l0 l t = some (if risesFrom (prevOf l t) (l.drop t) = true then .inl () else .inr false) := by
 intro n
 induction n with
 | zero =>
  intro t ht;rw [state_Rises.l0, List.drop_of_length_le (by omega)]
  have : decide ((t : Int) < (l.length : Int)) = false := by simp; omega
  rw [if_neg (nt this)]; rfl
 | succ n ih =>
  intro t ht
  have h1 : t < l.length := by omega
  have hn := ih (t + 1) (by omega)
  have hp : prevOf l (t + 1) = some l[t] := by unfold prevOf; rw [if_neg (by omega), Nat.add_sub_cancel, List.getElem?_eq_getElem h1]
  rw [hp] at hn
  have hlt : (0 : Int) ≤ (t : Int) ∧ (t : Int) < (l.length : Int) := by omega
  have hw : IntKind.i64.wrap ((t : Int) + 1) = ((t + 1 : Nat) : Int) := w1 (by omega);rw [state_Rises.l0, List.drop_eq_getElem_cons h1];simp only [risesFrom]
  have e0 : decide ((t : Int) < (l.length : Int)) = true := by simp; omega
  rw [if_pos e0, if_pos hlt, gt_nat h1, check_s];simp only [Option.bind_eq_bind, Option.bind_some]
  by_cases hk : okV l[t] = true
  ·have e1 : ¬ ((chk l[t] != 0) = true) := by rw [chk_ne]; simp [hk]
   rw [if_neg e1]
   by_cases h0 : t = 0
   ·subst h0
    have e2 : decide (((0 : Nat) : Int) > 0) = false := by simp
    rw [if_neg (nt e2), hw, hn];simp only [hk, prevOf, if_true, Bool.true_and]
   ·have e2 : decide ((t : Int) > 0) = true := by simp; omega
    have e3 : IntKind.i64.wrap ((t : Int) - 1) = ((t - 1 : Nat) : Int) := by rw [wi64_id (by omega) (by omega)]; omega
    have h5 : (0 : Int) ≤ ((t - 1 : Nat) : Int) ∧ ((t - 1 : Nat) : Int) < (l.length : Int) := by omega
    rw [if_pos e2, e3, if_pos h5, gt_nat (show t - 1 < l.length by omega), compare_s];simp only [Option.bind_eq_bind, Option.bind_some, hw]
    have hq : prevOf l t = some l[t - 1] := by unfold prevOf; rw [if_neg h0, List.getElem?_eq_getElem (by omega)]
    rw [hq]
    by_cases h4 : cmpF l[t - 1] l[t] < 0
    ·have e4 : decide (cmpF l[t - 1] l[t] ≥ 0) = false := by simp; omega
     rw [if_neg (nt e4), hn];simp only [hk, h4, decide_true, Bool.true_and]
    ·have e4 : decide (cmpF l[t - 1] l[t] ≥ 0) = true := by simp; omega
     have e5 : decide (cmpF l[t - 1] l[t] < 0) = false := by simpa using h4
     rw [if_pos e4];simp only [e5, Bool.and_false, Bool.false_and, Bool.false_eq_true, if_false]
  ·have e1 : (chk l[t] != 0) = true := by rw [chk_ne]; simpa using hk
   rw [if_pos e1]
   have : okV l[t] = false := by simpa using hk
   simp only [this, Bool.false_and, Bool.false_eq_true, if_false]
theorem rises_s (l : List api_Final) (hs : l.length ≤ 9223372036854775807) : state_Rises.f l = some (rises l) := by
 unfold state_Rises.f rises;have := rises_ls l hs l.length 0 (by omega);rw [show ((0 : Int)) = ((0 : Nat) : Int) from rfl, this];simp only [prevOf, if_true, List.drop_zero]
 cases risesFrom none l <;> rfl
theorem rises_lr (l : List api_Final) (hs : l.length ≤ 9223372036854775807) : ∀ (n t : Nat), t + n = l.length →
  weirref10_Rises.l0 l t = some (if risesFrom (prevOf l t) (l.drop t) = true then .inl () else .inr false) := by
 intro n
 induction n with
 | zero =>
  intro t ht;rw [weirref10_Rises.l0, List.drop_of_length_le (by omega)]
  have : decide ((t : Int) < (l.length : Int)) = false := by simp; omega
  rw [if_neg (nt this)]; rfl
 | succ n ih =>
  intro t ht
  have h1 : t < l.length := by omega
  have hn := ih (t + 1) (by omega)
  have hp : prevOf l (t + 1) = some l[t] := by unfold prevOf; rw [if_neg (by omega), Nat.add_sub_cancel, List.getElem?_eq_getElem h1]
  rw [hp] at hn
  have hlt : (0 : Int) ≤ (t : Int) ∧ (t : Int) < (l.length : Int) := by omega
  have hw : IntKind.i64.wrap ((t : Int) + 1) = ((t + 1 : Nat) : Int) := w1 (by omega);rw [weirref10_Rises.l0, List.drop_eq_getElem_cons h1];simp only [risesFrom]
  have e0 : decide ((t : Int) < (l.length : Int)) = true := by simp; omega
  rw [if_pos e0, if_pos hlt, gt_nat h1, check_r];simp only [Option.bind_eq_bind, Option.bind_some]
  by_cases hk : okV l[t] = true
  ·have e1 : ¬ ((chk l[t] != 0) = true) := by rw [chk_ne]; simp [hk]
   rw [if_neg e1]
   by_cases h0 : t = 0
   ·subst h0
    have e2 : decide (((0 : Nat) : Int) > 0) = false := by simp
    rw [if_neg (nt e2), hw, hn];simp only [hk, prevOf, if_true, Bool.true_and]
   ·have e2 : decide ((t : Int) > 0) = true := by simp; omega
    have e3 : IntKind.i64.wrap ((t : Int) - 1) = ((t - 1 : Nat) : Int) := by rw [wi64_id (by omega) (by omega)]; omega
    have h5 : (0 : Int) ≤ ((t - 1 : Nat) : Int) ∧ ((t - 1 : Nat) : Int) < (l.length : Int) := by omega
    rw [if_pos e2, e3, if_pos h5, if_pos hlt, gt_nat (show t - 1 < l.length by omega), compare_r];simp only [Option.bind_eq_bind, Option.bind_some, hw]
    have hq : prevOf l t = some l[t - 1] := by unfold prevOf; rw [if_neg h0, List.getElem?_eq_getElem (by omega)]
    rw [hq]
    by_cases h4 : cmpF l[t - 1] l[t] < 0
    ·have e4 : decide (cmpF l[t - 1] l[t] ≥ 0) = false := by simp; omega
     rw [if_neg (nt e4), hn];simp only [hk, h4, decide_true, Bool.true_and]
    ·have e4 : decide (cmpF l[t - 1] l[t] ≥ 0) = true := by simp; omega
     have e5 : decide (cmpF l[t - 1] l[t] < 0) = false := by simpa using h4
     rw [if_pos e4];simp only [e5, Bool.and_false, Bool.false_and, Bool.false_eq_true, if_false]
  ·have e1 : (chk l[t] != 0) = true := by rw [chk_ne]; simpa using hk
   rw [if_pos e1]
   have : okV l[t] = false := by simpa using hk
   simp only [this, Bool.false_and, Bool.false_eq_true, if_false]
theorem rises_r (l : List api_Final) (hs : l.length ≤ 9223372036854775807) : weirref10_Rises.f l = some (rises l) := by
 unfold weirref10_Rises.f rises;have := rises_lr l hs l.length 0 (by omega);rw [show ((0 : Int)) = ((0 : Nat) : Int) from rfl, this];simp only [prevOf, if_true, List.drop_zero]
 cases risesFrom none l <;> rfl
end Go.Proofs.YtcjaknnihjcajaaGreat.K
