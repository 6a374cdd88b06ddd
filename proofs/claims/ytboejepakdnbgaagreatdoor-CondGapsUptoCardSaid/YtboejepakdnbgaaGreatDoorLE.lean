/- The token at a place, as the program and as the document have it. -/
import Derived.Test.YtboejepakdnbgaaGreatDoorLC
import Derived.Test.YtboejepakdnbgaaGreatDoorLD
set_option linter.unusedVariables false
set_option linter.unusedSimpArgs false
namespace Go.Proofs.YtboejepakdnbgaaGreatDoor.K
open Go

abbrev noTk : api_Token := ⟨0, (⟨#[]⟩ : ByteArray), 0, 0, 0, 0, 0⟩
def tkE (s : ByteArray) (a : Nat) : Sum (Int × Nat) (Int × ByteArray × Int × Nat) :=
  if isL (bA s a) = true then
    (if 64 < endN s (s.size - (a + 1)) (a + 1) - a then .inl (1, a) else .inr (1, s.extract a (endN s (s.size - (a + 1)) (a + 1)), 0, endN s (s.size - (a + 1)) (a + 1)))
  else if isD (bA s a) = true ∨ (bA s a = 45 ∧ isD (bA s (a + 1)) = true) then
    (if (numP (s.extract a (noE s (s.size - (a + 1)) (a + 1)))).2 = 0 then .inr (2, s.extract a (noE s (s.size - (a + 1)) (a + 1)), (numP (s.extract a (noE s (s.size - (a + 1)) (a + 1)))).1, noE s (s.size - (a + 1)) (a + 1))
      else .inl ((numP (s.extract a (noE s (s.size - (a + 1)) (a + 1)))).2, a))
  else if bA s a = 34 then
    (if stE s (s.size - (a + 1)) (a + 1) = s.size then .inl (50, s.size) else if bA s (stE s (s.size - (a + 1)) (a + 1)) = 10 then .inl (50, stE s (s.size - (a + 1)) (a + 1))
      else .inr (3, s.extract (a + 1) (stE s (s.size - (a + 1)) (a + 1)), 0, stE s (s.size - (a + 1)) (a + 1) + 1))
  else if sgE s a = 0 then .inl (50, a) else .inr (4, s.extract a (a + sgE s a), 0, a + sgE s a)
def tkD (a : Nat) : Sum (Int × Nat) (Int × ByteArray × Int × Nat) → api_Token × Int × Int
  | .inl (c, p) => (noTk, c, (p : Int))
  | .inr (k, t, v, e) => (⟨k, t, v, 0, 0, (a : Int), (e : Int)⟩, 0, 0)
theorem seq_e (x : ByteArray) : seq x (⟨#[]⟩ : ByteArray) = decide (x.size = 0) := by
  rw [seq_p]
  refine decide_eq_decide.2 ⟨fun h => by rw [h]; rfl, fun h => ba_ext ?_⟩
  rw [size_l] at h
  exact List.eq_nil_of_length_eq_zero h
theorem token_d (s : ByteArray) (hs : s.size ≤ 1048576) (a : Nat) (ha : a < s.size) : weirref05_token.f s a = some (tkD a (tkE s a)) := by
  have g : 0 ≤ (a : Int) ∧ (a : Int) < (s.size : Int) := by omega
  have he := endN_ge s (s.size - (a + 1)) (a + 1)
  have hn := noE_b s (s.size - (a + 1)) (a + 1)
  have ht := stE_b s (s.size - (a + 1)) (a + 1)
  have hg := sgE_le ha
  have en : ∀ e : Nat, a ≤ e → e ≤ s.size → IntKind.i64.wrap ((a : Int) + ((e - a : Nat) : Int)) = (e : Int) := fun e h1 h2 => by rw [wa (by omega)]; omega
  have eB : ∀ j : Nat, byt s (j : Int) = bA s j := fun _ => rfl
  have n1 : weirref05_token.l1 s a 1 = some ((noE s (s.size - (a + 1)) (a + 1) - a : Nat) : Int) := no_d1 s hs a (s.size - (a + 1)) 1 (by omega)
  have n4 : weirref05_token.l4 s a 1 = some ((noE s (s.size - (a + 1)) (a + 1) - a : Nat) : Int) := no_d4 s hs a (s.size - (a + 1)) 1 (by omega)
  have hx : (s.extract a (noE s (s.size - (a + 1)) (a + 1))).size ≤ 1048576 := by rw [cut_size (by omega)]; omega
  have hst := stE_q s (s.size - (a + 1)) (a + 1)
  unfold weirref05_token.f tkE
  simp only [if_pos g, letter_d, digit_d, Option.bind_eq_bind, Option.bind_some]
  by_cases hl : isL (byt s (a : Int)) = true
  · have hl' : isL (bA s a) = true := hl
    simp only [hl, if_true]
    rw [name_d hs ha hl']
    simp only [Option.bind_some]
    by_cases h64 : 64 < endN s (s.size - (a + 1)) (a + 1) - a
    · rw [if_pos (decide_eq_true (by omega)), if_pos h64]; rfl
    · rw [if_neg (nt (decide_eq_false (by omega))), if_neg h64, en _ (by omega) (by omega), if_pos (by omega), Int.toNat_natCast, Int.toNat_natCast]; rfl
  · simp only [hl, if_false, Bool.false_eq_true]
    by_cases hd : isD (byt s (a : Int)) = true
    · simp only [hd, if_true, true_or]
      rw [n4]
      simp only [Option.bind_some]
      rw [en _ (by omega) (by omega), if_pos (by omega), Int.toNat_natCast, Int.toNat_natCast, parse_d _ hx]
      simp only [Option.bind_some]
      by_cases h0 : (numP (s.extract a (noE s (s.size - (a + 1)) (a + 1)))).2 = 0
      · rw [if_neg (by rw [h0]; decide), if_pos h0, if_pos (by omega)]; rfl
      · rw [if_pos (by rw [bne_iff_ne]; exact h0), if_neg h0]; rfl
    · simp only [hd, if_false, Bool.false_eq_true, false_or]
      by_cases h45 : bA s a = 45
      · have hnq : ¬ bA s a = 34 := by omega
        have b45 : (byt s (a : Int) == 45) = true := by rw [beq_iff_eq]; exact h45
        have b34 : ¬ (byt s (a : Int) == 34) = true := by rw [beq_iff_eq]; exact hnq
        simp only [if_pos b45, if_neg b34, if_neg hnq, w1 (show a < 9223372036854775807 by omega)]
        by_cases hb : a + 1 < s.size
        · simp only [decide_eq_true (show ((a + 1 : Nat) : Int) < (s.size : Int) by omega), if_true, if_pos (show 0 ≤ ((a + 1 : Nat) : Int) ∧ ((a + 1 : Nat) : Int) < (s.size : Int) by omega), Option.bind_some]
          by_cases hd1 : isD (byt s ((a + 1 : Nat) : Int)) = true
          · rw [if_pos hd1, if_pos (show bA s a = 45 ∧ isD (bA s (a + 1)) = true from ⟨h45, hd1⟩)]
            rw [n1]
            simp only [Option.bind_some]
            rw [en _ (by omega) (by omega), if_pos (by omega), Int.toNat_natCast, Int.toNat_natCast, parse_d _ hx]
            simp only [Option.bind_some]
            by_cases h0 : (numP (s.extract a (noE s (s.size - (a + 1)) (a + 1)))).2 = 0
            · rw [if_neg (by rw [h0]; decide), if_pos h0, if_pos (by omega)]; rfl
            · rw [if_pos (by rw [bne_iff_ne]; exact h0), if_neg h0]; rfl
          · rw [if_neg hd1, if_neg (show ¬ (bA s a = 45 ∧ isD (bA s (a + 1)) = true) from fun h => hd1 h.2)]
            rw [sign_d s hs a ha]
            simp only [Option.bind_some]
            rw [seq_e, cut_size hg, Nat.add_sub_cancel_left]
            by_cases h0 : sgE s a = 0
            · rw [if_pos (decide_eq_true h0), if_pos h0]; rfl
            · rw [if_neg (nt (decide_eq_false h0)), if_neg h0, wa (by omega)]; rfl
        · have hd1 : ¬ isD (bA s (a + 1)) = true := by rw [bA_end (by omega), isD0]; simp
          rw [if_neg (nt (decide_eq_false (by omega))), if_neg (show ¬ (bA s a = 45 ∧ isD (bA s (a + 1)) = true) from fun h => hd1 h.2)]
          rw [sign_d s hs a ha]
          simp only [Option.bind_some]
          rw [seq_e, cut_size hg, Nat.add_sub_cancel_left]
          by_cases h0 : sgE s a = 0
          · rw [if_pos (decide_eq_true h0), if_pos h0]; rfl
          · rw [if_neg (nt (decide_eq_false h0)), if_neg h0, wa (by omega)]; rfl
      · have b45 : ¬ (byt s (a : Int) == 45) = true := by rw [beq_iff_eq]; exact h45
        rw [if_neg b45, if_neg (show ¬ (bA s a = 45 ∧ isD (bA s (a + 1)) = true) from fun h => h45 h.1)]
        by_cases h34 : bA s a = 34
        · have b34 : (byt s (a : Int) == 34) = true := by rw [beq_iff_eq]; exact h34
          rw [if_pos b34, if_pos h34, w1 (by omega)]
          rw [show weirref05_token.l3 s ((a + 1 : Nat) : Int) = some ((stE s (s.size - (a + 1)) (a + 1) : Nat) : Int) from st_d3 s hs (s.size - (a + 1)) (a + 1) (by omega)]
          simp only [Option.bind_some]
          by_cases he1 : stE s (s.size - (a + 1)) (a + 1) = s.size
          · rw [if_pos (by rw [beq_iff_eq, he1]), if_pos he1, he1]; rfl
          · rw [if_neg (by rw [beq_iff_eq]; omega), if_neg he1, if_pos (by omega)]
            by_cases h10 : bA s (stE s (s.size - (a + 1)) (a + 1)) = 10
            · rw [if_pos (by rw [beq_iff_eq]; exact h10), if_pos h10]; rfl
            · rw [if_neg (by rw [beq_iff_eq]; exact h10), if_neg h10, if_pos (by omega), w1 (by omega), Int.toNat_natCast, Int.toNat_natCast]; rfl
        · have b34 : ¬ (byt s (a : Int) == 34) = true := by rw [beq_iff_eq]; exact h34
          rw [if_neg b34, if_neg h34]
          rw [sign_d s hs a ha]
          simp only [Option.bind_some]
          rw [seq_e, cut_size hg, Nat.add_sub_cancel_left]
          by_cases h0 : sgE s a = 0
          · rw [if_pos (decide_eq_true h0), if_pos h0]; rfl
          · rw [if_neg (nt (decide_eq_false h0)), if_neg h0, wa (by omega)]; rfl
end Go.Proofs.YtboejepakdnbgaaGreatDoor.K
