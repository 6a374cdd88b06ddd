/- Programs: when one is right. -/
import Derived.Test.YtcjaknnihjcajaaGreatGC
namespace Go.Proofs.YtcjaknnihjcajaaGreat.K
open Go
def nu (u : Bool) (n m : Int) : Bool := if u = true then decide (n ≥ 0) && decide (n < m) else n == 0
theorem fits1_p (u : Bool) (n m : Int) : prog_fits_1.f u n m = some (nu u n m) := by
 unfold prog_fits_1.f nu;cases u
 ·simp only [Bool.false_eq_true, if_false]; cases n == 0 <;> rfl
 ·simp only [if_true]; cases decide (n ≥ 0) <;> cases decide (n < m) <;> rfl
theorem gt_inj {l : List ByteArray} (h : rzb l = true) (hl : l.length ≤ big) : ∀ n i : Nat, i + n < l.length → 0 < n → slt (gt l (i : Int)) (gt l ((i + n : Nat) : Int)) = true := by
 have h1 : ∀ k, 0 < k → k < l.length → slt (gt l ((k - 1 : Nat) : Int)) (gt l (k : Int)) = true := by
  intro k h0 hk;unfold rzb at h;rw [Bool.not_eq_true'] at h;have := (List.any_eq_false.1 h) k (List.mem_range.2 hk);unfold badb at this;rw [dT h0] at this;simpa using this
 intro n
 induction n with
 | zero => intro i _ h0; omega
 | succ n ih =>
  intro i hi h0;have h2 := h1 (i + (n + 1)) (by omega) hi;rw [show i + (n + 1) - 1 = i + n by omega] at h2
  by_cases hn : n = 0
  ·subst hn; exact h2
  ·exact slt_trans (ih i (by omega) (by omega)) h2
theorem gt_one {l : List ByteArray} (h : rzb l = true) (hl : l.length ≤ big) {i j : Nat} (hi : i < l.length) (hj : j < l.length) (e : gt l (i : Int) = gt l (j : Int)) : i = j := by
 rcases Nat.lt_trichotomy i j with h1 | h1 | h1
 ·have := gt_inj h hl (j - i) i (by omega) (by omega);rw [show i + (j - i) = j by omega, e, slt_irrefl] at this; cases this
 ·exact h1
 ·have := gt_inj h hl (i - j) j (by omega) (by omega);rw [show j + (i - j) = i by omega, e, slt_irrefl] at this; cases this
def eax : ByteArray := ⟨#[69,65,88]⟩
def rt (o : api_Op) (regs : List ByteArray) (m : Nat) : Bool := (kd o.Kind).2 && nu (kd o.Kind).1.src o.Src regs.length && nu (kd o.Kind).1.loc o.Loc m && ((kd o.Kind).1.imm || o.Imm == 0) &&
 (if o.Kind == 8 then decide (o.Reg ≥ 0) && decide (o.Reg < regs.length) && decide (gt regs o.Reg = eax) else nu (kd o.Kind).1.reg o.Reg regs.length)
theorem fits_p (o : api_Op) (regs locs : List ByteArray) : prog_fits.f o regs locs = some (rt o regs locs.length) := by
 unfold prog_fits.f rt;rw [kind_p];simp only [fits1_p, seq_p, Option.bind_eq_bind, Option.bind_some];generalize kd o.Kind = q;obtain ⟨⟨r, s, l, m, ev⟩, ok⟩ := q;simp only;have hi : (o.Imm != 0) = !(o.Imm == 0) := rfl;rw [hi];generalize (o.Imm == 0) = b4;cases ok
 ·rfl
 have hd : decide (gt regs o.Reg = (⟨#[69,65,88]⟩ : ByteArray)) = decide (gt regs o.Reg = eax) := rfl;rw [hd];generalize decide (gt regs o.Reg = eax) = b8;generalize (o.Kind == 8) = c8
 have hl : (if decide (o.Reg ≥ 0) = true then (if decide (o.Reg < (regs.length : Int)) = true then (if 0 ≤ o.Reg ∧ o.Reg < (regs.length : Int) then (if b8 = true then some true else some false) else none) else some false) else some false : Option Bool) = some (decide (o.Reg ≥ 0) && decide (o.Reg < (regs.length : Int)) && b8) := by
  by_cases h1 : o.Reg ≥ 0
  ·by_cases h2 : o.Reg < (regs.length : Int)
   ·rw [if_pos (dT h1), if_pos (dT h2), if_pos ⟨h1, h2⟩, dT h1, dT h2]; cases b8 <;> rfl
   ·rw [if_pos (dT h1), if_neg (dF h2), dT h1, decide_eq_false h2]; rfl
  ·rw [if_neg (dF h1), decide_eq_false h1]; rfl
 rw [hl];generalize (decide (o.Reg ≥ 0) && decide (o.Reg < (regs.length : Int)) && b8) = b9
 have es : nu s o.Src (regs.length : Int) = (if s = true then nu true o.Src (regs.length : Int) else nu false o.Src (regs.length : Int)) := by cases s <;> rfl
 have el : nu l o.Loc (locs.length : Int) = (if l = true then nu true o.Loc (locs.length : Int) else nu false o.Loc (locs.length : Int)) := by cases l <;> rfl
 have er : nu r o.Reg (regs.length : Int) = (if r = true then nu true o.Reg (regs.length : Int) else nu false o.Reg (regs.length : Int)) := by cases r <;> rfl
 rw [es, el, er];generalize nu true o.Src (regs.length : Int) = b1;generalize nu false o.Src (regs.length : Int) = b2;generalize nu true o.Loc (locs.length : Int) = b5;generalize nu false o.Loc (locs.length : Int) = b6;generalize nu true o.Reg (regs.length : Int) = b7;generalize nu false o.Reg (regs.length : Int) = b10
 clear hl hd es el er
 cases s <;> cases b1 <;> cases b2 <;> (first | rfl | (cases l <;> cases b5 <;> cases b6 <;> (first | rfl | (cases m <;> cases b4 <;> (first | rfl | (cases c8 <;> cases r <;> rfl))))))
theorem right_d (o : api_Op) (regs : List ByteArray) (n : Nat) (hr : rzb regs = true) (hl : regs.length ≤ big) : weirref09_right.f o regs (n : Int) = some (rt o regs n) := by
 unfold weirref09_right.f rt;rw [uses_d];simp only [Option.bind_eq_bind, Option.bind_some];have hk := kd_ok o.Kind;generalize hq : kd o.Kind = q at hk ⊢;obtain ⟨⟨r, s, l, m, ev⟩, ok⟩ := q;simp only at hk ⊢
 by_cases ho : 1 ≤ o.Kind ∧ o.Kind ≤ 9
 ·rw [dT ho] at hk;subst hk;rw [if_neg (dF (by omega)), if_neg (dF (by omega))];have hi : (o.Imm != 0) = !(o.Imm == 0) := rfl;rw [hi];generalize (o.Imm == 0) = b4;have h1 : (if (o.Kind == 8) = true then (weirref09_number.f regs (⟨#[69,65,88]⟩ : ByteArray)).bind fun t114 => (if (decide (t114 < 0)) = true then some (.inr (false)) else (if (o.Reg != t114) = true then some (.inr (false)) else some (.inl ()))) else (if r = true then (if (decide (o.Reg < 0)) = true then some (.inr (false)) else (if (decide (o.Reg ≥ (regs.length : Int))) = true then some (.inr (false)) else some (.inl ()))) else (if (o.Reg != 0) = true then some (.inr (false)) else some (.inl ()))) : Option (Sum Unit Bool)) =
    some (if (if o.Kind == 8 then decide (o.Reg ≥ 0) && decide (o.Reg < regs.length) && decide (gt regs o.Reg = eax) else nu r o.Reg regs.length) = true then .inl () else .inr false) := by
   by_cases h8 : (o.Kind == 8) = true
   ·rw [if_pos h8, if_pos h8]
    rcases number_s regs eax hl with ⟨i, h1, h2, h3⟩ | ⟨h1, h2⟩
    ·rw [show (⟨#[69,65,88]⟩ : ByteArray) = eax from rfl, h3, Option.bind_some, if_neg (dF (by omega))]
     by_cases he : o.Reg = (i : Int)
     ·rw [he, dT (show (i : Int) ≥ 0 by omega), dT (show (i : Int) < (regs.length : Int) by omega), h2, dT rfl];simp
     ·have : (o.Reg != (i : Int)) = true := by simpa using he
      rw [if_pos this]
      have hf : (decide (o.Reg ≥ 0) && decide (o.Reg < (regs.length : Int)) && decide (gt regs o.Reg = eax)) = false := by
       by_cases a1 : o.Reg ≥ 0
       ·by_cases a2 : o.Reg < (regs.length : Int)
        ·have : ¬ gt regs o.Reg = eax := by
          intro e;obtain ⟨j, hj⟩ : ∃ j : Nat, o.Reg = (j : Int) := ⟨o.Reg.toNat, by omega⟩;rw [hj] at e a2;exact he (by rw [hj, gt_one hr hl (by omega) h1 (e.trans h2.symm)])
         rw [decide_eq_false this, Bool.and_false]
        ·rw [decide_eq_false a2, Bool.and_false, Bool.false_and]
       ·rw [decide_eq_false a1, Bool.false_and, Bool.false_and]
      rw [hf]; rfl
    ·rw [show (⟨#[69,65,88]⟩ : ByteArray) = eax from rfl, h2, Option.bind_some, if_pos (dT (by omega))]
     have hf : (decide (o.Reg ≥ 0) && decide (o.Reg < (regs.length : Int)) && decide (gt regs o.Reg = eax)) = false := by
      by_cases a1 : o.Reg ≥ 0
      ·by_cases a2 : o.Reg < (regs.length : Int)
       ·have : ¬ gt regs o.Reg = eax := by
         intro e;obtain ⟨j, hj⟩ : ∃ j : Nat, o.Reg = (j : Int) := ⟨o.Reg.toNat, by omega⟩;rw [hj] at e a2;rw [gt_nat (by omega)] at e;exact h1 (e ▸ List.getElem_mem _)
        rw [decide_eq_false this, Bool.and_false]
       ·rw [decide_eq_false a2, Bool.and_false, Bool.false_and]
      ·rw [decide_eq_false a1, Bool.false_and, Bool.false_and]
     rw [hf]; rfl
   ·rw [if_neg h8, if_neg h8];unfold nu;cases r
    ·simp only [Bool.false_eq_true, if_false];cases hz : o.Reg == 0
     ·have : (o.Reg != 0) = true := by unfold bne; rw [hz]; rfl
      rw [if_pos this]; rfl
     ·have : ¬ (o.Reg != 0) = true := by unfold bne; rw [hz]; decide
      rw [if_neg this]; rfl
    ·simp only [if_true]
     by_cases a1 : o.Reg < 0
     ·rw [if_pos (dT a1), decide_eq_false (show ¬ o.Reg ≥ 0 by omega)]; rfl
     ·rw [if_neg (dF a1), dT (show o.Reg ≥ 0 by omega)]
      by_cases a2 : o.Reg ≥ (regs.length : Int)
      ·rw [if_pos (dT a2), decide_eq_false (show ¬ o.Reg < (regs.length : Int) by omega)]; rfl
      ·rw [if_neg (dF a2), dT (show o.Reg < (regs.length : Int) by omega)]; rfl
  have h2 : (if s = true then (if (decide (o.Src < 0)) = true then some (.inr (false)) else (if (decide (o.Src ≥ (regs.length : Int))) = true then some (.inr (false)) else some (.inl ()))) else (if (o.Src != 0) = true then some (.inr (false)) else some (.inl ())) : Option (Sum Unit Bool)) = some (if nu s o.Src regs.length = true then .inl () else .inr false) := by
   unfold nu;cases s
   ·simp only [Bool.false_eq_true, if_false];cases hz : o.Src == 0
    ·have : (o.Src != 0) = true := by unfold bne; rw [hz]; rfl
     rw [if_pos this]; rfl
    ·have : ¬ (o.Src != 0) = true := by unfold bne; rw [hz]; decide
     rw [if_neg this]; rfl
   ·simp only [if_true]
    by_cases a1 : o.Src < 0
    ·rw [if_pos (dT a1), decide_eq_false (show ¬ o.Src ≥ 0 by omega)]; rfl
    ·rw [if_neg (dF a1), dT (show o.Src ≥ 0 by omega)]
     by_cases a2 : o.Src ≥ (regs.length : Int)
     ·rw [if_pos (dT a2), decide_eq_false (show ¬ o.Src < (regs.length : Int) by omega)]; rfl
     ·rw [if_neg (dF a2), dT (show o.Src < (regs.length : Int) by omega)]; rfl
  have h3 : (if l = true then (if (decide (o.Loc < 0)) = true then some (false) else (if (decide (o.Loc ≥ (n : Int))) = true then some (false) else (if (!m) = true then (if (!b4) = true then some (false) else some (true)) else some (true)))) else (if (o.Loc != 0) = true then some (false) else (if (!m) = true then (if (!b4) = true then some (false) else some (true)) else some (true))) : Option Bool) = some (nu l o.Loc n && (m || b4)) := by
   unfold nu;cases l
   ·simp only [Bool.false_eq_true, if_false];cases hz : o.Loc == 0
    ·have : (o.Loc != 0) = true := by unfold bne; rw [hz]; rfl
     rw [if_pos this]; rfl
    ·have : ¬ (o.Loc != 0) = true := by unfold bne; rw [hz]; decide
     rw [if_neg this]; cases m <;> cases b4 <;> rfl
   ·simp only [if_true]
    by_cases a1 : o.Loc < 0
    ·rw [if_pos (dT a1), decide_eq_false (show ¬ o.Loc ≥ 0 by omega)]; rfl
    ·rw [if_neg (dF a1), dT (show o.Loc ≥ 0 by omega)]
     by_cases a2 : o.Loc ≥ (n : Int)
     ·rw [if_pos (dT a2), decide_eq_false (show ¬ o.Loc < (n : Int) by omega)]; rfl
     ·rw [if_neg (dF a2), dT (show o.Loc < (n : Int) by omega)]; cases m <;> cases b4 <;> rfl
  rw [h1];simp only [Option.bind_some];rw [h2, h3];generalize (if o.Kind == 8 then decide (o.Reg ≥ 0) && decide (o.Reg < regs.length) && decide (gt regs o.Reg = eax) else nu r o.Reg regs.length) = b1;generalize nu s o.Src regs.length = b2;generalize nu l o.Loc n = b3
  cases b1 <;> cases b2 <;> cases b3 <;> cases m <;> cases b4 <;> rfl
 ·rw [decide_eq_false ho] at hk;subst hk
  by_cases h1 : o.Kind < 1
  ·rw [if_pos (dT h1)]; rfl
  ·rw [if_neg (dF h1), if_pos (dT (by omega))]; rfl
end Go.Proofs.YtcjaknnihjcajaaGreat.K
