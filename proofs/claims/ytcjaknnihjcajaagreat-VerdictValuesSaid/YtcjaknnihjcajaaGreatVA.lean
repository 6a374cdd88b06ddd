/- Names and brackets, as the program and as the document have them; lists that are lent, compared, spoiled. -/
import Derived.Test.YtcjaknnihjcajaaGreatFZ
namespace Go.Proofs.YtcjaknnihjcajaaGreat.K
open Go
theorem nt {b : Bool} (h : b = false) : ¬ b = true := by simp [h]
theorem gt_nat {α : Type} [Inhabited α] {xs : List α} {t : Nat} (h : t < xs.length) : gt xs (t : Int) = xs[t] := by
 unfold gt; rw [Int.toNat_natCast, List.getD_eq_getElem?_getD, List.getElem?_eq_getElem h]; rfl
theorem w1 {t : Nat} (h : t < 9223372036854775807) : IntKind.i64.wrap ((t : Int) + 1) = ((t + 1 : Nat) : Int) := by rw [wi64_id (by omega) (by omega)]; omega
theorem wsub1 {t : Nat} (h0 : 0 < t) (h : t < 9223372036854775807) : IntKind.i64.wrap ((t : Int) - 1) = ((t - 1 : Nat) : Int) := by rw [wi64_id (by omega) (by omega)]; omega
theorem seq_p (x y : ByteArray) : seq x y = decide (x = y) := by
 unfold seq
 by_cases h : x = y
 ·subst h; simp
 ·rw [decide_eq_false h, ByteArray.toList_eq, ByteArray.toList_eq];refine Bool.eq_false_iff.2 (fun e => h ?_);obtain ⟨a⟩ := x;obtain ⟨b⟩ := y;rw [beq_iff_eq] at e;exact congrArg ByteArray.mk (Array.toList_inj.1 e)
def isL (b : Int) : Bool := (lexis_letter.f b).getD false
def isD (b : Int) : Bool := (lexis_digit.f b).getD false
theorem letter_p (b : Int) : lexis_letter.f b = some (isL b) := by
 unfold isL lexis_letter.f; (repeat' split) <;> rfl
theorem digit_p (b : Int) : lexis_digit.f b = some (isD b) := by
 unfold isD lexis_digit.f; (repeat' split) <;> rfl
theorem letter_d (b : Int) : weirref05_letter.f b = some (isL b) := (rfl : weirref05_letter.f b = lexis_letter.f b).trans (letter_p b)
theorem digit_d (b : Int) : weirref05_digit.f b = some (isD b) := (rfl : weirref05_digit.f b = lexis_digit.f b).trans (digit_p b)
theorem isL0 : isL 0 = false := by decide
theorem isD0 : isD 0 = false := by decide
def byA (s : ByteArray) (k : Nat) : Int := if k < s.size then byt s (k : Int) else 0
theorem byteAt_p (s : ByteArray) (k : Nat) : lexis_byteAt.f s (k : Int) = some (byA s k) := by
 unfold lexis_byteAt.f byA
 by_cases h : k < s.size
 ·rw [if_pos (decide_eq_true (by omega)), if_pos (by omega), if_pos h]
 ·rw [if_neg (nt (decide_eq_false (by omega))), if_neg h]
def onB (s : ByteArray) (k : Nat) : Bool := isL (byA s k) || isD (byA s k) || byA s k == 46 || ((byA s k == 43 || byA s k == 45) && (isL (byA s (k + 1)) || isD (byA s (k + 1))))
def endN (s : ByteArray) : Nat → Nat → Nat
 | 0, k => k
 | n + 1, k => if onB s k then endN s n (k + 1) else k
theorem endN_s (s : ByteArray) (n k : Nat) : endN s (n + 1) k = if onB s k then endN s n (k + 1) else k := rfl
theorem name_pl (s : ByteArray) (hs : s.size ≤ 64) : ∀ (n k : Nat), k + n = s.size → lexis_name.l0 s (k : Int) = some ((endN s n k : Nat) : Int) := by
 intro n
 induction n with
 | zero =>
  intro k hk;rw [lexis_name.l0, byteAt_p, w1 (by omega), byteAt_p];simp only [Option.bind_eq_bind, Option.bind_some];rw [if_pos (by simp; omega)]; rfl
 | succ n ih =>
  intro k hk;rw [lexis_name.l0, byteAt_p, w1 (by omega), byteAt_p];simp only [Option.bind_eq_bind, Option.bind_some, letter_p, digit_p];rw [if_neg (by simp; omega), ih (k + 1) (by omega)];rw [endN_s]; unfold onB;generalize endN s n (k + 1) = z
  cases isL (byA s k) <;> cases isD (byA s k) <;> cases isL (byA s (k + 1)) <;> cases isD (byA s (k + 1)) <;> cases byA s k == 46 <;> cases byA s k == 43 <;> cases byA s k == 45 <;> rfl
theorem name_dl (s : ByteArray) (hs : s.size ≤ 64) : ∀ (n k : Nat), k + n = s.size → weirref05_name.l0 s 0 (k : Int) = some ((endN s n k : Nat) : Int) := by
 intro n
 induction n with
 | zero =>
  intro k hk;rw [weirref05_name.l0, Int.zero_add, wi64_id (by omega) (by omega), if_neg (nt (decide_eq_false (by omega)))]; rfl
 | succ n ih =>
  intro k hk
  have e : byt s (k : Int) = byA s k := by unfold byA; rw [if_pos (by omega)]
  rw [weirref05_name.l0, Int.zero_add, wi64_id (n := (k : Int)) (by omega) (by omega), if_pos (decide_eq_true (by omega)), if_pos (by omega), w1 (by omega), e, ih (k + 1) (by omega)];simp only [Option.bind_eq_bind, Option.bind_some, letter_d, digit_d];rw [endN_s]; unfold onB;generalize endN s n (k + 1) = z
  have n3 : isL 43 = false := by decide
  have n4 : isD 43 = false := by decide
  have n5 : isL 45 = false := by decide
  have n6 : isD 45 = false := by decide
  by_cases h1 : k + 1 < s.size
  ·have e1 : byt s ((k + 1 : Nat) : Int) = byA s (k + 1) := by unfold byA; rw [if_pos h1]
   have d1 : decide (((k + 1 : Nat) : Int) < (s.size : Int)) = true := decide_eq_true (by omega)
   have g1 : 0 ≤ ((k + 1 : Nat) : Int) ∧ ((k + 1 : Nat) : Int) < (s.size : Int) := by omega
   simp only [d1, if_pos g1, e1, if_true]
   by_cases h43 : byA s k = 43
   ·rw [h43, n3, n4]; cases isL (byA s (k + 1)) <;> cases isD (byA s (k + 1)) <;> rfl
   ·by_cases h45 : byA s k = 45
    ·rw [h45, n5, n6]; cases isL (byA s (k + 1)) <;> cases isD (byA s (k + 1)) <;> rfl
    ·have f1 : (byA s k == 43) = false := by simpa using h43
     have f2 : (byA s k == 45) = false := by simpa using h45
     rw [f1, f2]
     cases isL (byA s k) <;> cases isD (byA s k) <;> cases byA s k == 46 <;> rfl
  ·have e1 : byA s (k + 1) = 0 := by unfold byA; rw [if_neg h1]
   have d1 : decide (((k + 1 : Nat) : Int) < (s.size : Int)) = false := decide_eq_false (by omega);simp only [d1, e1, isL0, isD0]
   cases isL (byA s k) <;> cases isD (byA s k) <;> cases byA s k == 46 <;> cases byA s k == 43 <;> cases byA s k == 45 <;> rfl
def isName (s : ByteArray) : Bool := decide (0 < s.size) && decide (s.size ≤ 64) && isL (byA s 0) && endN s (s.size - 1) 1 == s.size
theorem size0 {s : ByteArray} : s.size = 0 ↔ s = ⟨#[]⟩ := by
 constructor
 ·intro h;obtain ⟨a⟩ := s;have : a = #[] := Array.size_eq_zero_iff.1 h;rw [this]
 ·rintro rfl; rfl
theorem name_p (s : ByteArray) : lexis_Name.f s = some (isName s) := by
 unfold lexis_Name.f isName
 by_cases h0 : s.size = 0
 ·rw [if_neg (by rw [size0.1 h0]; simp [seq]), h0]; rfl
 ·have h1 : ¬ s = ⟨#[]⟩ := fun h => h0 (size0.2 h);rw [if_pos (by rw [seq_p, decide_eq_false h1]; rfl)]
  by_cases h2 : s.size ≤ 64
  ·have hb : byt s ((0 : Nat) : Int) = byA s 0 := by unfold byA; rw [if_pos (by omega)]
   rw [if_pos (decide_eq_true (by omega))];unfold lexis_name.f;rw [if_neg (by rw [seq_p, decide_eq_false h1]; decide), if_pos (by omega), show ((0 : Int)) = ((0 : Nat) : Int) from rfl, hb, letter_p, show ((1 : Int)) = ((1 : Nat) : Int) from rfl, name_pl s h2 (s.size - 1) 1 (by omega)];simp only [Option.bind_eq_bind, Option.bind_some];rw [decide_eq_true (show 0 < s.size by omega), decide_eq_true h2];generalize endN s (s.size - 1) 1 = z;cases isL (byA s 0)
   ·have : ((0 : Int) == (s.size : Int)) = false := by simp; omega
    simp only [Bool.not_false, if_true, Option.bind_some];simp [this]
   ·by_cases hz : z = s.size
    ·subst hz; simp
    ·have : ¬ ((z : Int) = (s.size : Int)) := by omega
     simp [hz, this]
  ·rw [if_neg (nt (decide_eq_false (by omega))), decide_eq_false h2]; simp
theorem name_d (s : ByteArray) : weirref05_Name.f s = some (isName s) := by
 unfold weirref05_Name.f isName
 by_cases h0 : s.size = 0
 ·rw [if_neg (nt (decide_eq_false (by omega))), h0]; rfl
 ·rw [if_pos (decide_eq_true (by omega))]
  by_cases h2 : s.size ≤ 64
  ·have hb : byt s ((0 : Nat) : Int) = byA s 0 := by unfold byA; rw [if_pos (by omega)]
   rw [if_pos (decide_eq_true (by omega))];unfold weirref05_name.f;rw [if_neg (nt (decide_eq_false (by omega))), if_pos (by omega), show ((0 : Int)) = ((0 : Nat) : Int) from rfl, hb, letter_d, show ((1 : Int)) = ((1 : Nat) : Int) from rfl, show (((0 : Nat) : Int)) = (0 : Int) from rfl, name_dl s h2 (s.size - 1) 1 (by omega)];simp only [Option.bind_eq_bind, Option.bind_some];rw [decide_eq_true (show 0 < s.size by omega), decide_eq_true h2];generalize endN s (s.size - 1) 1 = z;cases isL (byA s 0)
   ·have : ((0 : Int) == (s.size : Int)) = false := by simp; omega
    simp only [Bool.not_false, if_true, Option.bind_some];simp [this]
   ·by_cases hz : z = s.size
    ·subst hz; simp
    ·have : ¬ ((z : Int) = (s.size : Int)) := by omega
     simp [hz, this]
  ·rw [if_neg (nt (decide_eq_false (by omega))), decide_eq_false h2]; simp
end Go.Proofs.YtcjaknnihjcajaaGreat.K
