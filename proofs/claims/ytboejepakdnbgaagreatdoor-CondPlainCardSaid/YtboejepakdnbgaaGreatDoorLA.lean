/- Bytes, letters, names. -/
import Derived.Test.YtboejepakdnbgaaGreatDoorWD
set_option linter.unusedVariables false
set_option linter.unusedSimpArgs false
namespace Go.Proofs.YtboejepakdnbgaaGreatDoor.K
open Go

theorem nt {b : Bool} (h : b = false) : ¬ b = true := by simp [h]
theorem w1 {t : Nat} (h : t < 9223372036854775807) : IntKind.i64.wrap ((t : Int) + 1) = ((t + 1 : Nat) : Int) := by rw [wi64_id (by omega) (by omega)]; omega
theorem wa {a b : Nat} (h : a + b < 9223372036854775807) : IntKind.i64.wrap ((a : Int) + (b : Int)) = ((a + b : Nat) : Int) := by rw [wi64_id (by omega) (by omega)]; omega
theorem w2 {t : Nat} (h : t < 9223372036854775805) : IntKind.i64.wrap ((t : Int) + 2) = ((t + 2 : Nat) : Int) := by rw [wi64_id (by omega) (by omega)]; omega
theorem wsub {a b : Nat} (hb : b ≤ a) (h : a < 9223372036854775807) : IntKind.i64.wrap ((a : Int) - (b : Int)) = ((a - b : Nat) : Int) := by rw [wi64_id (by omega) (by omega)]; omega
theorem gt_nat {α : Type} [Inhabited α] {xs : List α} {t : Nat} (h : t < xs.length) : gt xs (t : Int) = xs[t] := by
  unfold gt; rw [Int.toNat_natCast, List.getD_eq_getElem?_getD, List.getElem?_eq_getElem h]; rfl
theorem seq_p (x y : ByteArray) : seq x y = decide (x = y) := by
  unfold seq
  by_cases h : x = y
  · subst h; simp
  · rw [decide_eq_false h, ByteArray.toList_eq, ByteArray.toList_eq]
    refine Bool.eq_false_iff.2 (fun e => h ?_)
    obtain ⟨a⟩ := x
    obtain ⟨b⟩ := y
    rw [beq_iff_eq] at e
    exact congrArg ByteArray.mk (Array.toList_inj.1 e)
theorem ba_ext {x y : ByteArray} (h : x.data.toList = y.data.toList) : x = y := by
  obtain ⟨a⟩ := x
  obtain ⟨b⟩ := y
  exact congrArg ByteArray.mk (Array.toList_inj.1 h)
theorem size_l (s : ByteArray) : s.size = s.data.toList.length := Lib.size_eq s
theorem cut_l (s : ByteArray) (a b : Nat) : (s.extract a b).data.toList = (s.data.toList.take b).drop a := by
  rw [ByteArray.data_extract, Array.toList_extract, List.extract_eq_take_drop, List.drop_take]
abbrev bA (s : ByteArray) (k : Nat) : Int := byt s (k : Int)
theorem bA_l (s : ByteArray) (k : Nat) : bA s k = ((s.data.toList.getD k 0).toNat : Int) := by unfold bA byt; rw [Int.toNat_natCast]
theorem bA_end {s : ByteArray} {k : Nat} (h : s.size ≤ k) : bA s k = 0 := by
  rw [bA_l, List.getD_eq_getElem?_getD, List.getElem?_eq_none (by rw [← size_l]; exact h)]; rfl
theorem bA_b (s : ByteArray) (k : Nat) : 0 ≤ bA s k ∧ bA s k ≤ 255 := by
  rw [bA_l]; have := (s.data.toList.getD k 0).toNat_lt; omega
theorem bA_cut (s : ByteArray) (a k : Nat) : bA (s.extract a s.size) k = bA s (a + k) := by
  rw [bA_l, bA_l, cut_l, size_l, List.take_length, List.getD_eq_getElem?_getD, List.getD_eq_getElem?_getD, List.getElem?_drop]
theorem bA_part {s : ByteArray} {a b k : Nat} (h : a + k < b) : bA (s.extract a b) k = bA s (a + k) := by
  rw [bA_l, bA_l, cut_l, List.getD_eq_getElem?_getD, List.getD_eq_getElem?_getD, List.getElem?_drop, List.getElem?_take, if_pos h]
theorem cut_size {s : ByteArray} {a b : Nat} (h : b ≤ s.size) : (s.extract a b).size = b - a := by
  rw [ByteArray.size_extract]; omega
/-! ### Letters -/
def isL (b : Int) : Bool := (lexis_letter.f b).getD false
def isD (b : Int) : Bool := (lexis_digit.f b).getD false
theorem letter_p (b : Int) : lexis_letter.f b = some (isL b) := by
  unfold isL lexis_letter.f; (repeat' split) <;> rfl
theorem digit_p (b : Int) : lexis_digit.f b = some (isD b) := by
  unfold isD lexis_digit.f; (repeat' split) <;> rfl
theorem byteAt_p (s : ByteArray) (k : Nat) : lexis_byteAt.f s (k : Int) = some (bA s k) := by
  unfold lexis_byteAt.f
  by_cases h : k < s.size
  · rw [if_pos (decide_eq_true (by omega)), if_pos (by omega)]
  · rw [if_neg (nt (decide_eq_false (by omega))), bA_end (by omega)]
def onB (s : ByteArray) (k : Nat) : Bool := isL (bA s k) || isD (bA s k) || bA s k == 46 || ((bA s k == 43 || bA s k == 45) && (isL (bA s (k + 1)) || isD (bA s (k + 1))))
def endN (s : ByteArray) : Nat → Nat → Nat
  | 0, k => k
  | n + 1, k => if onB s k then endN s n (k + 1) else k
theorem endN_s (s : ByteArray) (n k : Nat) : endN s (n + 1) k = if onB s k then endN s n (k + 1) else k := rfl
theorem endN_ge (s : ByteArray) : ∀ n k, k ≤ endN s n k ∧ endN s n k ≤ k + n
  | 0, k => by unfold endN; omega
  | n + 1, k => by
    have := endN_ge s n (k + 1)
    rw [endN_s]; split <;> omega
theorem endN_cut (s : ByteArray) (a : Nat) : ∀ n k, a + endN (s.extract a s.size) n k = endN s n (a + k)
  | 0, k => rfl
  | n + 1, k => by
    have h : onB (s.extract a s.size) k = onB s (a + k) := by unfold onB; rw [bA_cut, bA_cut, Nat.add_assoc]
    rw [endN_s, endN_s, h]
    split
    · exact endN_cut s a n (k + 1)
    · rfl
theorem name_pl (s : ByteArray) (hs : s.size ≤ 1048576) : ∀ (n k : Nat), k + n = s.size → lexis_name.l0 s (k : Int) = some ((endN s n k : Nat) : Int) := by
  intro n
  induction n with
  | zero =>
    intro k hk
    rw [lexis_name.l0, byteAt_p, w1 (by omega), byteAt_p]
    simp only [Option.bind_eq_bind, Option.bind_some]
    rw [if_pos (by simp; omega)]; rfl
  | succ n ih =>
    intro k hk
    rw [lexis_name.l0, byteAt_p, w1 (by omega), byteAt_p]
    simp only [Option.bind_eq_bind, Option.bind_some, letter_p, digit_p]
    rw [if_neg (by simp; omega), ih (k + 1) (by omega)]
    rw [endN_s]; unfold onB
    generalize endN s n (k + 1) = z
    cases isL (bA s k) <;> cases isD (bA s k) <;> cases isL (bA s (k + 1)) <;> cases isD (bA s (k + 1)) <;> cases bA s k == 46 <;> cases bA s k == 43 <;> cases bA s k == 45 <;> rfl
theorem name_p {s : ByteArray} (hs : s.size ≤ 1048576) {a : Nat} (ha : a < s.size) (hl : isL (bA s a) = true) :
    lexis_name.f (s.extract a s.size) = some ((endN s (s.size - (a + 1)) (a + 1) - a : Nat) : Int) := by
  have hz : (s.extract a s.size).size = s.size - a := cut_size (Nat.le_refl _)
  unfold lexis_name.f
  rw [if_neg (fun h => by
    rw [seq_p] at h
    have := of_decide_eq_true h
    rw [this] at hz
    have h0 : (⟨#[]⟩ : ByteArray).size = 0 := rfl
    omega), if_pos (by rw [hz]; omega)]
  have hb : byt (s.extract a s.size) (0 : Int) = bA s a := bA_cut s a 0
  rw [letter_p, hb, hl]
  simp only [Option.bind_eq_bind, Option.bind_some]
  rw [if_neg (by simp)]
  have hc := endN_cut s a (s.size - (a + 1)) 1
  have h1 : lexis_name.l0 (s.extract a s.size) 1 = _ := name_pl (s.extract a s.size) (by omega) (s.size - (a + 1)) 1 (by omega)
  rw [h1]; simp only [Option.bind_some]
  rw [← hc, Nat.add_sub_cancel_left]
end Go.Proofs.YtboejepakdnbgaaGreatDoor.K
