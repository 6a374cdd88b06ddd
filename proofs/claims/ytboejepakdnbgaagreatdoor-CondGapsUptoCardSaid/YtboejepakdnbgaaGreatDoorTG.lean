/- Every token of a text: the program's All. -/
import Derived.Test.YtboejepakdnbgaaGreatDoorLG
import Derived.Test.YtboejepakdnbgaaGreatDoorZB
set_option linter.unusedVariables false
set_option linter.unusedSectionVars false
set_option linter.unusedSimpArgs false
namespace Go.Proofs.YtboejepakdnbgaaGreatDoor.K.C
open Go

theorem nilP (x y z : Int) : PErr.isNil (.pos x y z) = false := rfl
theorem nilN : PErr.isNil .nil = true := rfl
def ferr (s : ByteArray) : Option (Int × Nat) → PErr
  | none => .nil
  | some (c, p) => .pos (plc s p).1 (plc s p).2 c
theorem all_l (s : ByteArray) (hs : s.size ≤ 1048576) : ∀ (n a : Nat) (acc : List api_Token), a ≤ s.size → s.size < a + n → acc.length ≤ a →
    lexis_Tokens_1.l0 s .nil acc (a : Int) (plc s a).1 (plc s a).2 .nil = some (match (tks s n a).2 with | none => 0 | some _ => 1, ferr s (tks s n a).2, acc ++ (tks s n a).1) := by
  intro n
  induction n with
  | zero => intro a acc h1 h2; omega
  | succ n ih =>
    intro a acc h1 h2 h3
    have hd := dnext s hs a 0 h1 (Nat.zero_le _)
    rw [tks_s, lexis_Tokens_1.l0, next_f s hs a h1]
    cases hx : nxE s a with
    | inl x =>
      obtain ⟨c, p⟩ := x
      unfold nxP lexis_All_r_1.f
      simp only [Option.bind_eq_bind, Option.bind_some, nilP, Bool.not_false, Bool.false_eq_true, if_true, if_false]
      rw [if_neg (by simp), List.append_nil]
      rfl
    | inr x =>
      obtain ⟨t, e⟩ := x
      obtain ⟨he1, he2, he3, -⟩ := hd.2 t e hx
      unfold nxP
      simp only [Option.bind_eq_bind, Option.bind_some, nilN, if_true]
      by_cases hk : t.Kind = 0
      · rw [if_pos (by rw [beq_iff_eq]; exact hk), if_pos hk, List.append_nil]
        rfl
      · have hae := he3.resolve_left hk
        rw [if_neg (by rw [beq_iff_eq]; exact hk), if_neg hk]
        unfold lexis_All_r_1.f
        simp only [nilN, Bool.not_true, Bool.false_eq_true, if_false]
        rw [if_pos (by rw [List.length_singleton]; omega)]
        simp only [Option.bind_some]
        rw [if_pos (by decide), ih e (acc ++ [t]) he2 (by omega) (by rw [List.length_append, List.length_singleton]; omega), List.append_assoc]
        rfl
abbrev tT (s : ByteArray) : List api_Token := (tks s (s.size + 1) 0).1
abbrev tB (s : ByteArray) : Option (Int × Nat) := (tks s (s.size + 1) 0).2
theorem tks_b (s : ByteArray) (hs : s.size ≤ 1048576) : (tT s).length ≤ s.size ∧ ∀ c p, tB s = some (c, p) → c ≠ 0 ∧ p ≤ s.size :=
  (toks_l s hs (s.size + 1) 0 0 [] (by omega) (Nat.le_refl _) (by omega) (Nat.le_refl _)).2
theorem all_p (s : ByteArray) (hs : s.size ≤ 1048576) : lexis_All.f s = some (match tB s with | none => (tT s, .nil) | some (c, p) => ([], .pos (plc s p).1 (plc s p).2 c)) := by
  have h : lexis_Tokens_1.l0 s .nil [] 0 1 1 .nil = _ := all_l s hs (s.size + 1) 0 [] (by omega) (by omega) (by simp)
  unfold lexis_All.f lexis_Tokens.f lexis_Tokens_1.f lexis_New.f
  simp only [Option.bind_eq_bind, Option.bind_some]
  rw [if_neg (nt (decide_eq_false (by omega)))]
  simp only [Option.bind_some]
  rw [h]
  simp only [Option.bind_some]
  unfold tT tB
  cases (tks s (s.size + 1) 0).2 with
  | none => simp only [decide_true, if_true, List.nil_append]
  | some x => obtain ⟨c, p⟩ := x; rfl
end Go.Proofs.YtboejepakdnbgaaGreatDoor.K.C
