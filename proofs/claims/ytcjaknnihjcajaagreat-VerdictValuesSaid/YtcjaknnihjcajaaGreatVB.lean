/- When nodes make a condition: the program's table of first nodes against the document's heap. -/
import Derived.Test.YtcjaknnihjcajaaGreatVA
namespace Go.Proofs.YtcjaknnihjcajaaGreat.K
open Go
def noR : api_Ref := ⟨0, ⟨#[]⟩⟩
def fd (n : api_Node) : Bool :=
 if n.Op = 2 then decide (n.A = 0 ∧ n.B = 0 ∧ -1 ≤ n.Ref.Thread ∧ n.Ref.Thread ≤ 9999) && isName n.Ref.Name
 else if n.Op = 1 then decide (n.A = 0 ∧ n.B = 0 ∧ n.Ref = noR ∧ n.Value = 0)
 else if n.Op = 3 then decide (n.B = 0 ∧ n.Ref = noR ∧ n.Value = 0)
 else if n.Op = 4 ∨ n.Op = 5 then decide (n.Ref = noR ∧ n.Value = 0)
 else false
theorem fields_p (n : api_Node) : cond_fields.f n = some (fd n) := by
 unfold cond_fields.f fd;obtain ⟨op, a, b, ⟨th, nm⟩, v⟩ := n;simp only [name_p, Option.bind_eq_bind, Option.bind_some, noR]
 by_cases h2 : op = 2
 ·subst h2
  by_cases ha : a = 0 <;> by_cases hb : b = 0 <;> by_cases h1 : -1 ≤ th <;> by_cases h3 : th ≤ 9999 <;> simp [ha, hb, h1, h3]
 ·by_cases h1 : op = 1
  ·subst h1
   by_cases ha : a = 0 <;> by_cases hb : b = 0 <;> by_cases hr : (⟨th, nm⟩ : api_Ref) = ⟨0, ⟨#[]⟩⟩ <;> by_cases h3 : v = 0 <;> simp [ha, hb, hr, h3]
  ·by_cases h3 : op = 3
   ·subst h3
    by_cases hb : b = 0 <;> by_cases hr : (⟨th, nm⟩ : api_Ref) = ⟨0, ⟨#[]⟩⟩ <;> by_cases h3 : v = 0 <;> simp [hb, hr, h3]
   ·by_cases h4 : op = 4
    ·subst h4
     by_cases hr : (⟨th, nm⟩ : api_Ref) = ⟨0, ⟨#[]⟩⟩ <;> by_cases h3 : v = 0 <;> simp [hr, h3]
    ·by_cases h5 : op = 5
     ·subst h5
      by_cases hr : (⟨th, nm⟩ : api_Ref) = ⟨0, ⟨#[]⟩⟩ <;> by_cases h3 : v = 0 <;> simp [hr, h3]
     ·simp [h1, h2, h3, h4, h5]
def rvl (rs : List Nat) : List Int := rs.reverse.map (fun (x : Nat) => (x : Int))
def stp (n : api_Node) (i : Nat) (rs : List Nat) : Option (List Nat) :=
 if fd n then
  (if n.Op = 3 then (match rs with
   | a :: l => if n.A = (a : Int) then some (i :: l) else none
   | _ => none)
  else if n.Op = 4 ∨ n.Op = 5 then (match rs with
   | b :: a :: l => if n.A = (a : Int) ∧ n.B = (b : Int) then some (i :: l) else none
   | _ => none)
  else some (i :: rs))
 else none
theorem rvl_snoc (i : Nat) (rs : List Nat) : rvl rs ++ ([(i : Int)] : List Int) = rvl (i :: rs) := by simp [rvl]
theorem rvl_len (rs : List Nat) : (rvl rs).length = rs.length := by simp [rvl]
theorem makes_d (c : List api_Node) (i : Nat) (rs : List Nat) (hi : i < c.length) (hc : c.length ≤ 1024) (hr : rs.length ≤ 1024) :
  weirref06_Makes.l0 c (rvl rs) (i : Int) = match stp (c[i]) i rs with
   | some r => weirref06_Makes.l0 c (rvl r) ((i + 1 : Nat) : Int)
   | none => some (.inr false) := by
 rw [weirref06_Makes.l0, if_pos (decide_eq_true (by omega)), if_pos (by omega), gt_nat hi, w1 (by omega)];generalize hn : c[i] = n;obtain ⟨op, a, b, ⟨th, nm⟩, v⟩ := n
 clear hn
 unfold stp fd;simp only [name_d, Option.bind_eq_bind, Option.bind_some, noR, rvl_len]
 have z0 : IntKind.i64.wrap ((rs.length : Int) - 0) = (rs.length : Int) := by rw [wi64_id (by omega) (by omega)]; omega
 have k0 : ¬ ((rs.length : Int) < 0) := by omega
 have g0 : (0 : Int) ≤ (rs.length : Int) ∧ (rs.length : Int) ≤ (rs.length : Int) := by omega
 have t0 : ((rvl rs).take ((rs.length : Int)).toNat).drop 0 = rvl rs := by rw [Int.toNat_natCast, List.drop_zero, List.take_of_length_le (by rw [rvl_len]; omega)]
 have q0 : ((rvl rs).length + ([(i : Int)] : List Int).length) * 8 ≤ 140737488355328 := by rw [rvl_len]; simp only [List.length_cons, List.length_nil]; omega
 by_cases h1 : op = 1
 ·subst h1;simp only [Int.reduceBEq, Int.reduceBNe, Int.reduceLT, decide_true, decide_false, beq_self_eq_true, if_true, Option.bind_some, decide_eq_false k0, Bool.false_eq_true, if_false, z0, if_pos g0, t0, if_pos q0, rvl_snoc]
  by_cases ha : a = 0 <;> by_cases hb : b = 0 <;> by_cases hr : (⟨th, nm⟩ : api_Ref) = ⟨0, ⟨#[]⟩⟩ <;> by_cases hv : v = 0 <;> simp [ha, hb, hr, hv]
 ·by_cases h2 : op = 2
  ·subst h2;simp only [Int.reduceBEq, Int.reduceBNe, Int.reduceLT, decide_true, decide_false, beq_self_eq_true, if_true, Option.bind_some, decide_eq_false k0, Bool.false_eq_true, if_false, z0, if_pos g0, t0, if_pos q0, rvl_snoc]
   by_cases ht : th < -1
   ·have : ¬ (-1 ≤ th) := by omega
    by_cases ha : a = 0 <;> by_cases hb : b = 0 <;> simp [ha, hb, ht, this]
   ·have h3 : -1 ≤ th := by omega
    by_cases hT : th > 9999
    ·have : ¬ (th ≤ 9999) := by omega
     by_cases ha : a = 0 <;> by_cases hb : b = 0 <;> simp [ha, hb, ht, hT, h3, this]
    ·have h4 : th ≤ 9999 := by omega
     by_cases ha : a = 0 <;> by_cases hb : b = 0 <;> by_cases hm : isName nm = true <;> simp [ha, hb, ht, hT, h3, h4, hm]
  ·by_cases h3 : op = 3
   ·subst h3
    cases rs with
    | nil =>
     simp only [Int.reduceBEq, Int.reduceBNe, Int.reduceLT, decide_true, decide_false, beq_self_eq_true, if_true, Option.bind_some, Bool.false_eq_true, if_false, List.length_nil]
     by_cases hb : b = 0 <;> by_cases hr : (⟨th, nm⟩ : api_Ref) = ⟨0, ⟨#[]⟩⟩ <;> by_cases hv : v = 0 <;> simp [hb, hr, hv]
    | cons x l =>
     rw [List.length_cons] at hr
     have e1 : IntKind.i64.wrap (((x :: l).length : Int) - 1) = (l.length : Int) := by rw [List.length_cons, wi64_id (by omega) (by omega)]; omega
     have k1 : ¬ (((x :: l).length : Int) < 1) := by rw [List.length_cons]; omega
     have g1 : (0 : Int) ≤ (l.length : Int) ∧ (l.length : Int) < ((x :: l).length : Int) := by rw [List.length_cons]; omega
     have g2 : (0 : Int) ≤ (l.length : Int) ∧ (l.length : Int) ≤ ((x :: l).length : Int) := by rw [List.length_cons]; omega
     have hx : rvl (x :: l) = rvl l ++ [(x : Int)] := (rvl_snoc x l).symm
     have e2 : gt (rvl (x :: l)) (l.length : Int) = (x : Int) := by
      rw [gt_nat (by rw [rvl_len, List.length_cons]; omega)];simp only [hx];rw [List.getElem_append_right (by rw [rvl_len]; exact Nat.le_refl _)]; simp [rvl_len]
     have e3 : ((rvl (x :: l)).take ((l.length : Int)).toNat).drop 0 = rvl l := by
      rw [Int.toNat_natCast, List.drop_zero, hx, List.take_left' (rvl_len l)]
     have q1 : ((rvl l).length + ([(i : Int)] : List Int).length) * 8 ≤ 140737488355328 := by rw [rvl_len]; simp only [List.length_cons, List.length_nil]; omega
     simp only [Int.reduceBEq, Int.reduceBNe, Int.reduceLT, decide_true, decide_false, beq_self_eq_true, if_true, Option.bind_some, Bool.false_eq_true, if_false, decide_eq_false k1, e1, if_pos g1, e2, if_pos g2, e3, if_pos q1, rvl_snoc]
     by_cases ha : a = (x : Int) <;> by_cases hb : b = 0 <;> by_cases hr : (⟨th, nm⟩ : api_Ref) = ⟨0, ⟨#[]⟩⟩ <;> by_cases hv : v = 0 <;> simp [ha, hb, hr, hv]
   ·by_cases h45 : op = 4 ∨ op = 5
    ·have eb : ((if (op == 4) = true then some true else if (op == 5) = true then some true else some false) : Option Bool) = some true := by
      rcases h45 with rfl | rfl <;> rfl
     have c1 : (op == 1) = false := by simpa using h1
     have c2 : (op == 2) = false := by simpa using h2
     have c3 : (op == 3) = false := by simpa using h3
     have c2' : (op != 2) = true := by simpa using h2
     match rs, hr with
     | [], _ =>
      simp only [Int.reduceBEq, Int.reduceBNe, Int.reduceLT, decide_true, decide_false, beq_self_eq_true, if_true, Option.bind_some, Bool.false_eq_true, if_false, List.length_nil, c1, c2, c3, c2', eb, if_neg h1, if_neg h2, if_neg h3, if_pos h45]
      by_cases hr : (⟨th, nm⟩ : api_Ref) = ⟨0, ⟨#[]⟩⟩ <;> by_cases hv : v = 0 <;> simp [hr, hv]
     | [x], _ =>
      simp only [Int.reduceBEq, Int.reduceBNe, Int.reduceLT, decide_true, decide_false, beq_self_eq_true, if_true, Option.bind_some, Bool.false_eq_true, if_false, List.length_nil, List.length_cons, c1, c2, c3, c2', eb, if_neg h1, if_neg h2, if_neg h3, if_pos h45]
      by_cases hr : (⟨th, nm⟩ : api_Ref) = ⟨0, ⟨#[]⟩⟩ <;> by_cases hv : v = 0 <;> simp [hr, hv]
     | y :: x :: l, hr =>
      rw [List.length_cons, List.length_cons] at hr
      have e1 : IntKind.i64.wrap (((y :: x :: l).length : Int) - 1) = ((l.length + 1 : Nat) : Int) := by rw [List.length_cons, List.length_cons, wi64_id (by omega) (by omega)]; omega
      have e0 : IntKind.i64.wrap (((y :: x :: l).length : Int) - 2) = (l.length : Int) := by rw [List.length_cons, List.length_cons, wi64_id (by omega) (by omega)]; omega
      have k1 : ¬ (((y :: x :: l).length : Int) < 2) := by rw [List.length_cons, List.length_cons]; omega
      have g1 : (0 : Int) ≤ (l.length : Int) ∧ (l.length : Int) < ((y :: x :: l).length : Int) := by rw [List.length_cons, List.length_cons]; omega
      have g3 : (0 : Int) ≤ ((l.length + 1 : Nat) : Int) ∧ ((l.length + 1 : Nat) : Int) < ((y :: x :: l).length : Int) := by rw [List.length_cons, List.length_cons]; omega
      have g2 : (0 : Int) ≤ (l.length : Int) ∧ (l.length : Int) ≤ ((y :: x :: l).length : Int) := by rw [List.length_cons, List.length_cons]; omega
      have hx : rvl (y :: x :: l) = rvl l ++ [(x : Int), (y : Int)] := by rw [← rvl_snoc, ← rvl_snoc, List.append_assoc]; rfl
      have e2 : gt (rvl (y :: x :: l)) (l.length : Int) = (x : Int) := by
       rw [gt_nat (by rw [rvl_len, List.length_cons, List.length_cons]; omega)];simp only [hx];rw [List.getElem_append_right (by rw [rvl_len]; exact Nat.le_refl _)]; simp [rvl_len]
      have e4 : gt (rvl (y :: x :: l)) ((l.length + 1 : Nat) : Int) = (y : Int) := by
       rw [gt_nat (by rw [rvl_len, List.length_cons, List.length_cons]; omega)];simp only [hx];rw [List.getElem_append_right (by rw [rvl_len]; omega)]; simp [rvl_len]
      have e3 : ((rvl (y :: x :: l)).take ((l.length : Int)).toNat).drop 0 = rvl l := by
       rw [Int.toNat_natCast, List.drop_zero, hx, List.take_left' (rvl_len l)]
      have q1 : ((rvl l).length + ([(i : Int)] : List Int).length) * 8 ≤ 140737488355328 := by rw [rvl_len]; simp only [List.length_cons, List.length_nil]; omega
      simp only [Int.reduceBEq, Int.reduceBNe, Int.reduceLT, decide_true, decide_false, beq_self_eq_true, if_true, Option.bind_some, Bool.false_eq_true, if_false, decide_eq_false k1, e1, e0, if_pos g1, e2, if_pos g2, e3, if_pos g3, e4, if_pos q1, rvl_snoc, c1, c2, c3, c2', eb, if_neg h1, if_neg h2, if_neg h3, if_pos h45]
      by_cases ha : a = (x : Int) <;> by_cases hb : b = (y : Int) <;> by_cases hr : (⟨th, nm⟩ : api_Ref) = ⟨0, ⟨#[]⟩⟩ <;> by_cases hv : v = 0 <;> simp [ha, hb, hr, hv]
    ·have h4 : ¬ op = 4 := fun h => h45 (.inl h);have h5 : ¬ op = 5 := fun h => h45 (.inr h);simp [h1, h2, h3, h4, h5]
def updn (g : Nat → Nat) (i v : Nat) : Nat → Nat := fun j => if j = i then v else g j
theorem updn_self (g : Nat → Nat) (i v : Nat) : updn g i v i = v := by simp [updn]
theorem updn_ne {g : Nat → Nat} {i v j : Nat} (h : j ≠ i) : updn g i v j = g j := by simp [updn, h]
def Chain (g : Nat → Nat) : List Nat → Prop
 | [] => True
 | [a] => g a = 0
 | a :: b :: l => g a = b + 1 ∧ b < a ∧ Chain g (b :: l)
theorem chain_upd {g : Nat → Nat} {i v : Nat} : ∀ {rs : List Nat}, Chain g rs → (∀ x ∈ rs, x < i) → Chain (updn g i v) rs
 | [], _, _ => trivial
 | [a], h, hx => by
  have := hx a (List.mem_singleton.2 rfl);simp only [Chain] at *;rw [updn_ne (by omega)]; exact h
 | a :: b :: l, h, hx => by
  have := hx a (List.mem_cons_self ..);simp only [Chain] at h ⊢;rw [updn_ne (by omega)];exact ⟨h.1, h.2.1, chain_upd h.2.2 (fun x hx' => hx x (List.mem_cons_of_mem _ hx'))⟩
def Wn (c : List api_Node) (g : Nat → Nat) (j : Nat) : Prop :=
 g j ≤ j ∧ ((gt c (j : Int)).Op = 3 → 1 ≤ j ∧ (gt c (j : Int)).A = ((j - 1 : Nat) : Int) ∧ g j = g (j - 1)) ∧
 ((gt c (j : Int)).Op = 4 ∨ (gt c (j : Int)).Op = 5 → 1 ≤ j ∧ (gt c (j : Int)).B = ((j - 1 : Nat) : Int) ∧ 1 ≤ g (j - 1) ∧ (gt c (j : Int)).A = ((g (j - 1) - 1 : Nat) : Int) ∧ g j = g (g (j - 1) - 1))
def Wf (c : List api_Node) (g : Nat → Nat) (m : Nat) : Prop := ∀ j, j < m → Wn c g j
theorem wf_upd {c : List api_Node} {g : Nat → Nat} {i v : Nat} (h : Wf c g i) : Wf c (updn g i v) i := by
 intro j hj;have hg : g (j - 1) ≤ j - 1 := (h (j - 1) (by omega)).1;obtain ⟨h1, h2, h3⟩ := h j hj;unfold Wn;rw [updn_ne (show j ≠ i by omega), updn_ne (show j - 1 ≠ i by omega)];refine ⟨h1, h2, fun h => ?_⟩;rw [updn_ne (show g (j - 1) - 1 ≠ i by omega)];exact h3 h
def Top (rs : List Nat) (i : Nat) : Prop := match rs with
 | [] => i = 0
 | a :: _ => a + 1 = i
structure Inv (c : List api_Node) (i : Nat) (t : List Int) (g : Nat → Nat) (rs : List Nat) : Prop where
 len : t.length = c.length
 vals : ∀ j, j < i → gt t (j : Int) = (g j : Int)
 chain : Chain g rs
 top : Top rs i
 below : ∀ x ∈ rs, x < i
 few : rs.length ≤ i
 wf : Wf c g i
 fds : ∀ j, j < i → fd (gt c (j : Int)) = true
theorem gt_setl {t : List Int} {i j : Nat} {v : Int} (hi : i < t.length) (hj : j < t.length) : gt (setl t (i : Int) v) (j : Int) = if j = i then v else gt t (j : Int) := by
 rw [gt_nat (by rw [setl_len]; exact hj), gt_nat hj];simp only [setl, Int.toNat_natCast];rw [List.getElem_set]
 by_cases h : j = i
 ·rw [if_pos h.symm, if_pos h]
 ·rw [if_neg (fun e => h e.symm), if_neg h]
theorem inv_step {c : List api_Node} {i : Nat} {t : List Int} {g : Nat → Nat} {rs r : List Nat} {v : Nat} (h : Inv c i t g rs) (hi : i < c.length) (hfd : fd (gt c (i : Int)) = true)
  (hc : Chain (updn g i v) r) (htop : Top r (i + 1)) (hb : ∀ x ∈ r, x < i + 1) (hf : r.length ≤ i + 1) (hw : Wn c (updn g i v) i) : Inv c (i + 1) (setl t (i : Int) (v : Int)) (updn g i v) r := by
 refine ⟨by rw [setl_len, h.len], fun j hj => ?_, hc, htop, hb, hf, fun j hj => ?_, fun j hj => ?_⟩
 ·rw [gt_setl (by rw [h.len]; exact hi) (by rw [h.len]; omega)];unfold updn
  by_cases e : j = i
  ·rw [if_pos e, if_pos e]
  ·rw [if_neg e, if_neg e, h.vals j (by omega)]
 ·by_cases e : j = i
  ·rw [e]; exact hw
  ·exact wf_upd h.wf j (by omega)
 ·by_cases e : j = i
  ·rw [e]; exact hfd
  ·exact h.fds j (by omega)
theorem makes_p {c : List api_Node} {i : Nat} {t : List Int} {g : Nat → Nat} {rs : List Nat} (hi : i < c.length) (hc : c.length ≤ 1024) (h : Inv c i t g rs) :
  match stp (c[i]) i rs with
   | none => cond_makes.l0 c (i : Int) t = some (.inr false)
   | some r => ∃ (t' : List Int) (g' : Nat → Nat), cond_makes.l0 c (i : Int) t = cond_makes.l0 c ((i + 1 : Nat) : Int) t' ∧ Inv c (i + 1) t' g' r := by
 have hgt : gt c (i : Int) = c[i] := gt_nat hi;rw [cond_makes.l0, if_pos (decide_eq_true (by omega)), if_pos (by omega), fields_p, w1 (by omega)];simp only [Option.bind_eq_bind, Option.bind_some];have hlen := h.len
 have gi : (0 : Int) ≤ (i : Int) ∧ (i : Int) < (t.length : Int) := by omega
 rw [hgt];generalize hn : c[i] = n at *;unfold stp
 by_cases hf : fd n = true
 ·rw [hf];simp only [if_true, Bool.not_true, Bool.false_eq_true, if_false]
  by_cases h3 : n.Op = 3
  ·rw [if_pos h3, if_pos (by rw [h3]; rfl)]
   match rs, h with
   | [], h =>
    have : i = 0 := h.top;rw [if_pos (by simp [this])]
   | a :: l, h =>
    have ha : a + 1 = i := h.top
    have e1 : IntKind.i64.wrap ((i : Int) - 1) = (a : Int) := by rw [wi64_id (by omega) (by omega)]; omega
    rw [if_neg (by simp; omega), e1]
    by_cases hA : n.A = (a : Int)
    ·have g1 : (0 : Int) ≤ n.A ∧ n.A < (t.length : Int) := by omega
     simp only [if_pos hA];rw [if_neg (by simp [hA]), if_pos g1, if_pos gi, hA, h.vals a (by omega)];have hb : ∀ x ∈ l, x < i := fun x hx => h.below x (List.mem_cons_of_mem _ hx);refine ⟨_, updn g i (g a), rfl, inv_step h hi (by rw [hgt]; exact hf) ?_ rfl ?_ ?_ ?_⟩
     ·have hch := h.chain
      match l, hch, hb with
      | [], hch, _ => simp only [Chain] at *; rw [updn_self]; exact hch
      | b :: l, hch, hb =>
       simp only [Chain] at hch ⊢;rw [updn_self];exact ⟨hch.1, by omega, chain_upd hch.2.2 hb⟩
     ·intro x hx
      rcases List.mem_cons.1 hx with rfl | hx
      ·omega
      ·have := hb x hx; omega
     ·have := h.few; simp only [List.length_cons] at *; omega
     ·have hga := (h.wf a (by omega)).1;unfold Wn; rw [hgt];refine ⟨by rw [updn_self]; omega, fun _ => ⟨by omega, by rw [hA]; omega, ?_⟩, fun h4 => ?_⟩
      ·rw [updn_self, updn_ne (by omega), show i - 1 = a by omega]
      ·rcases h4 with h4 | h4 <;> omega
    ·simp only [if_neg hA];rw [if_pos (by simpa using hA)]
  ·rw [if_neg h3, if_neg (show ¬ (n.Op == 3) = true by simpa using h3)]
   by_cases h45 : n.Op = 4 ∨ n.Op = 5
   ·have eb : ((if (n.Op == 4) = true then some true else if (n.Op == 5) = true then some true else some false) : Option Bool) = some true := by
     rcases h45 with h | h <;> rw [h] <;> rfl
    rw [if_pos h45, eb];simp only [Option.bind_some, if_true]
    match rs, h with
    | [], h =>
     have : i = 0 := h.top;rw [if_pos (by simp [this])]
    | [b], h =>
     have hb : b + 1 = i := h.top
     have e1 : IntKind.i64.wrap ((i : Int) - 1) = (b : Int) := by rw [wi64_id (by omega) (by omega)]; omega
     rw [if_neg (by simp; omega), e1]
     by_cases hB : n.B = (b : Int)
     ·have g1 : (0 : Int) ≤ n.B ∧ n.B < (t.length : Int) := by omega
      have h0 : g b = 0 := h.chain;rw [if_neg (by simp [hB]), if_pos g1, hB, h.vals b (by omega), h0, if_pos (by rfl)]
     ·rw [if_pos (by simpa using hB)]
    | b :: a :: l, h =>
     have hb : b + 1 = i := h.top;have hch := h.chain;simp only [Chain] at hch
     have e1 : IntKind.i64.wrap ((i : Int) - 1) = (b : Int) := by rw [wi64_id (by omega) (by omega)]; omega
     have e2 : IntKind.i64.wrap (((a + 1 : Nat) : Int) - 1) = (a : Int) := by rw [wi64_id (by omega) (by omega)]; omega
     have z1 : ¬ ((i : Int) == 0) = true := by simp; omega
     have g1 : (0 : Int) ≤ (b : Int) ∧ (b : Int) < (t.length : Int) := by omega
     have z2 : ¬ ((((a + 1 : Nat) : Int)) == 0) = true := by simp; omega
     have g2 : (0 : Int) ≤ (a : Int) ∧ (a : Int) < (t.length : Int) := by omega
     by_cases hB : n.B = (b : Int)
     ·by_cases hA : n.A = (a : Int)
      ·simp only [hA, hB, and_self, if_true, if_neg z1, e1, if_pos g1, h.vals b (by omega), hch.1, if_neg z2, e2, if_pos g2, if_pos gi, h.vals a (by omega), bne_self_eq_false, Bool.false_eq_true, if_false];have hbl : ∀ x ∈ l, x < i := fun x hx => h.below x (List.mem_cons_of_mem _ (List.mem_cons_of_mem _ hx));refine ⟨_, updn g i (g a), rfl, inv_step h hi (by rw [hgt]; exact hf) ?_ rfl ?_ ?_ ?_⟩
       ·have hch2 := hch.2.2
        match l, hch2, hbl with
        | [], hch, _ => simp only [Chain] at *; rw [updn_self]; exact hch
        | b :: l, hch, hb =>
         simp only [Chain] at hch ⊢;rw [updn_self];exact ⟨hch.1, by omega, chain_upd hch.2.2 hb⟩
       ·intro x hx
        rcases List.mem_cons.1 hx with rfl | hx
        ·omega
        ·have := hbl x hx; omega
       ·have := h.few; simp only [List.length_cons] at *; omega
       ·have hga := (h.wf a (by omega)).1;unfold Wn; rw [hgt];refine ⟨by rw [updn_self]; omega, fun h4 => absurd h4 h3, fun _ => ⟨by omega, by rw [hB]; omega, ?_⟩⟩;rw [updn_ne (show i - 1 ≠ i by omega), show i - 1 = b by omega, hch.1, updn_self];refine ⟨by omega, by rw [hA]; omega, ?_⟩;rw [updn_ne (show a + 1 - 1 ≠ i by omega), show a + 1 - 1 = a by omega]
      ·have z3 : (n.A != (a : Int)) = true := by simpa using hA
       simp only [hA, hB, and_self, false_and, if_true, if_neg z1, e1, if_pos g1, h.vals b (by omega), hch.1, if_neg z2, e2, bne_self_eq_false, Bool.false_eq_true, if_false, z3]
     ·have z3 : (n.B != (b : Int)) = true := by simpa using hB
      simp only [hB, and_false, if_false, if_neg z1, e1, z3, if_true]
   ·have h4 : ¬ n.Op = 4 := fun h => h45 (.inl h);have h5 : ¬ n.Op = 5 := fun h => h45 (.inr h)
    have eb : ((if (n.Op == 4) = true then some true else if (n.Op == 5) = true then some true else some false) : Option Bool) = some false := by
     simp [h4, h5]
    rw [if_neg h45, eb];simp only [Option.bind_some, Bool.false_eq_true, if_false];rw [if_pos gi];refine ⟨_, updn g i i, rfl, inv_step h hi (by rw [hgt]; exact hf) ?_ rfl ?_ ?_ ?_⟩
    ·match rs, h with
     | [], h =>
      have : i = 0 := h.top;simp only [Chain]; rw [updn_self]; exact this
     | a :: l, h =>
      have ha : a + 1 = i := h.top;simp only [Chain]; rw [updn_self];exact ⟨by omega, by omega, chain_upd h.chain h.below⟩
    ·intro x hx
     rcases List.mem_cons.1 hx with rfl | hx
     ·omega
     ·have := h.below x hx; omega
    ·have := h.few; simp only [List.length_cons] at *; omega
    ·unfold Wn; rw [hgt];exact ⟨by rw [updn_self]; omega, fun h => absurd h h3, fun h => absurd h h45⟩
 ·rw [Bool.not_eq_true] at hf;rw [hf]; rfl
theorem makes_l {c : List api_Node} (hc : c.length ≤ 1024) : ∀ (n i : Nat) (t : List Int) (g : Nat → Nat) (rs : List Nat), i + n = c.length → Inv c i t g rs →
  (cond_makes.l0 c (i : Int) t = some (.inr false) ∧ weirref06_Makes.l0 c (rvl rs) (i : Int) = some (.inr false)) ∨
  ∃ (t' : List Int) (g' : Nat → Nat) (r : List Nat), cond_makes.l0 c (i : Int) t = some (.inl t') ∧ weirref06_Makes.l0 c (rvl rs) (i : Int) = some (.inl (rvl r)) ∧ Inv c c.length t' g' r := by
 intro n
 induction n with
 | zero =>
  intro i t g rs hi h
  have e : i = c.length := by omega
  refine .inr ⟨t, g, rs, ?_, ?_, by rw [← e]; exact h⟩
  ·rw [cond_makes.l0, if_neg (nt (decide_eq_false (by omega)))]
  ·rw [weirref06_Makes.l0, if_neg (nt (decide_eq_false (by omega)))]
 | succ n ih =>
  intro i t g rs hi h
  have hi' : i < c.length := by omega
  have h1 := makes_p hi' hc h;have h2 := makes_d c i rs hi' hc (by have := h.few; omega)
  cases hs : stp c[i] i rs with
  | none =>
   rw [hs] at h1 h2;exact .inl ⟨h1, h2⟩
  | some r =>
   rw [hs] at h1 h2;obtain ⟨t', g', e1, h'⟩ := h1;simp only at h2;rw [e1, h2];exact ih (i + 1) t' g' r (by omega) h'
theorem makes_pd (c : List api_Node) : ∃ b, cond_makes.f c = some b ∧ weirref06_Makes.f c = some b ∧ (b = true → 1 ≤ c.length ∧ c.length ≤ 1024 ∧ ∃ g, Wf c g c.length ∧ g (c.length - 1) = 0 ∧ ∀ j, j < c.length → fd (gt c (j : Int)) = true) := by
 unfold cond_makes.f weirref06_Makes.f
 by_cases h1 : (c.length : Int) < 1
 ·exact ⟨false, by rw [if_pos (decide_eq_true h1)], by rw [if_pos (decide_eq_true h1)], fun h => by cases h⟩
 ·rw [if_neg (nt (decide_eq_false h1)), if_neg (nt (decide_eq_false h1))]
  by_cases h2 : (c.length : Int) > 1024
  ·exact ⟨false, by rw [if_pos (decide_eq_true h2)], by rw [if_pos (decide_eq_true h2)], fun h => by cases h⟩
  ·rw [if_neg (nt (decide_eq_false h2)), if_neg (nt (decide_eq_false h2)), if_pos (by omega)];have h0 : Inv c 0 (List.replicate ((c.length : Int)).toNat (0 : Int)) (fun _ => 0) [] := ⟨by simp, (fun j hj => by omega), trivial, rfl, (fun x hx => by cases hx), Nat.le_refl _, (fun j hj => by omega), (fun j hj => by omega)⟩;have hm := makes_l (c := c) (by omega) c.length 0 _ _ _ (by omega) h0;have hr : rvl [] = [] := rfl;rw [hr] at hm
   rcases hm with ⟨e1, e2⟩ | ⟨t', g', r, e1, e2, hv⟩
   ·rw [show ((0 : Int)) = ((0 : Nat) : Int) from rfl] at *;rw [e1, e2];exact ⟨false, rfl, rfl, fun h => by cases h⟩
   ·have hw : IntKind.i64.wrap ((c.length : Int) - 1) = ((c.length - 1 : Nat) : Int) := wsub1 (by omega) (by omega);have hlen := hv.len
    have g1 : (0 : Int) ≤ ((c.length - 1 : Nat) : Int) ∧ ((c.length - 1 : Nat) : Int) < (t'.length : Int) := by omega
    rw [hw];rw [show ((0 : Int)) = ((0 : Nat) : Int) from rfl] at *;rw [e1, e2];simp only [Option.bind_eq_bind, Option.bind_some, rvl_len];rw [if_pos g1, hv.vals _ (by omega)]
    match r, hv with
    | [], hv => have : c.length = 0 := hv.top; omega
    | [a], hv =>
     have ha : a + 1 = c.length := hv.top;have h0 : g' a = 0 := hv.chain
     have : c.length - 1 = a := by omega
     rw [this, h0];exact ⟨true, rfl, rfl, fun _ => ⟨by omega, by omega, g', hv.wf, by omega, hv.fds⟩⟩
    | a :: b :: l, hv =>
     have ha : a + 1 = c.length := hv.top;have h0 : g' a = b + 1 := hv.chain.1
     have : c.length - 1 = a := by omega
     rw [this, h0];refine ⟨false, by rw [if_neg (by simp; omega)], by rw [if_neg (by simp only [List.length_cons, beq_iff_eq]; omega)], fun h => by cases h⟩
end Go.Proofs.YtcjaknnihjcajaaGreat.K
