/- Every token of a text: the program's All. -/
import Derived.Test.YtboejepakdnbgaaGreatDoorLG
import Derived.Test.YtboejepakdnbgaaGreatDoorZB
set_option linter.unusedVariables false
set_option linter.unusedSectionVars false
set_option linter.unusedSimpArgs false
namespace Go.Proofs.YtboejepakdnbgaaGreatDoor.K.C
open Go

theorem nilP (x y z : Int) : PErr.isNil (.pos x y z) = false := rfl
theorem nilN : PErr.isNil .nil = true := rfl
def ferr (s : ByteArray) : Option (Int × Nat) → PErr
  | none => .nil
  | some (c, p) => .pos (plc s p).1 (plc s p).2 c
theorem nx_b {s : ByteArray} {a : Nat} (ha : a ≤ s.size) : (∀ c p, nxE s a = .inl (c, p) → c ≠ 0 ∧ p ≤ s.size) ∧ (∀ t e, nxE s a = .inr (t, e) → a ≤ e ∧ e ≤ s.size ∧ (t.Kind = 0 ∨ a < e)) := by
  have hb := blE_b s s.size a ha
  have h1 : a ≤ blA s a ∧ blA s a ≤ s.size := ⟨hb.1, hb.2.1⟩
  unfold nxE
  by_cases hS : blS s a = false
  · rw [if_pos hS]
    refine ⟨fun c p h => ?_, fun t e h => (by cases h)⟩
    cases h; exact ⟨by decide, h1.2⟩
  · rw [if_neg hS]
    by_cases hz : blA s a = s.size
    · rw [if_pos hz]
      refine ⟨fun c p h => (by cases h), fun t e h => ?_⟩
      cases h; exact ⟨ha, Nat.le_refl _, .inl rfl⟩
    · rw [if_neg hz]
      have hk := tkE_b (s := s) (a := blA s a) (by omega)
      cases hx : tkE s (blA s a) with
      | inl x =>
        obtain ⟨c0, p0⟩ := x
        refine ⟨fun c p h => ?_, fun t e h => (by cases h)⟩
        cases h
        have := hk.1 _ _ hx
        exact ⟨this.1, this.2.2⟩
      | inr x =>
        obtain ⟨k0, t0, v0, e0⟩ := x
        refine ⟨fun c p h => (by cases h), fun t e h => ?_⟩
        cases h
        have := hk.2 _ _ _ _ hx
        exact ⟨by omega, this.2.2, .inr (by omega)⟩
theorem tks_c (s : ByteArray) : ∀ (n a : Nat), a ≤ s.size → (tks s n a).1.length ≤ s.size - a ∧ ∀ c p, (tks s n a).2 = some (c, p) → c ≠ 0 ∧ p ≤ s.size
  | 0, a, h => ⟨Nat.zero_le _, fun c p h => by cases h⟩
  | n + 1, a, h => by
    have hb := nx_b h
    rw [tks_s]
    cases hx : nxE s a with
    | inl x =>
      obtain ⟨c0, p0⟩ := x
      refine ⟨Nat.zero_le _, fun c p h => ?_⟩
      cases h; exact hb.1 _ _ hx
    | inr x =>
      obtain ⟨t, e⟩ := x
      obtain ⟨h1, h2, h3⟩ := hb.2 _ _ hx
      simp only
      by_cases hk : t.Kind = 0
      · rw [if_pos hk]; exact ⟨Nat.zero_le _, fun c p h => by cases h⟩
      · rw [if_neg hk]
        have h4 := h3.resolve_left hk
        have hi := tks_c s n e h2
        refine ⟨?_, hi.2⟩
        simp only [List.length_cons]
        omega
theorem all_l (s : ByteArray) (hs : s.size ≤ 1048576) : ∀ (n a : Nat) (acc : List api_Token), a ≤ s.size → s.size < a + n → acc.length ≤ a →
    lexis_Tokens_1.l0 s .nil acc (a : Int) (plc s a).1 (plc s a).2 .nil = some (match (tks s n a).2 with | none => 0 | some _ => 1, ferr s (tks s n a).2, acc ++ (tks s n a).1) := by
  intro n
  induction n with
  | zero => intro a acc h1 h2; omega
  | succ n ih =>
    intro a acc h1 h2 h3
    have hd := nx_b (s := s) h1
    rw [tks_s, lexis_Tokens_1.l0, next_f s hs a h1]
    cases hx : nxE s a with
    | inl x =>
      obtain ⟨c, p⟩ := x
      unfold nxP lexis_All_r_1.f
      simp only [Option.bind_eq_bind, Option.bind_some, nilP, Bool.not_false, Bool.false_eq_true, if_true, if_false]
      rw [if_neg (by simp), List.append_nil]
      rfl
    | inr x =>
      obtain ⟨t, e⟩ := x
      obtain ⟨he1, he2, he3⟩ := hd.2 t e hx
      unfold nxP
      simp only [Option.bind_eq_bind, Option.bind_some, nilN, if_true]
      by_cases hk : t.Kind = 0
      · rw [if_pos (by rw [beq_iff_eq]; exact hk), if_pos hk, List.append_nil]
        rfl
      · have hae := he3.resolve_left hk
        rw [if_neg (by rw [beq_iff_eq]; exact hk), if_neg hk]
        unfold lexis_All_r_1.f
        simp only [nilN, Bool.not_true, Bool.false_eq_true, if_false]
        rw [if_pos (by rw [List.length_singleton]; omega)]
        simp only [Option.bind_some]
        rw [if_pos (by decide), ih e (acc ++ [t]) he2 (by omega) (by rw [List.length_append, List.length_singleton]; omega), List.append_assoc]
        rfl
abbrev tT (s : ByteArray) : List api_Token := (tks s (s.size + 1) 0).1
abbrev tB (s : ByteArray) : Option (Int × Nat) := (tks s (s.size + 1) 0).2
theorem tks_b (s : ByteArray) (hs : s.size ≤ 1048576) : (tT s).length ≤ s.size ∧ ∀ c p, tB s = some (c, p) → c ≠ 0 ∧ p ≤ s.size :=
  tks_c s (s.size + 1) 0 (Nat.zero_le _)
theorem all_p (s : ByteArray) (hs : s.size ≤ 1048576) : lexis_All.f s = some (match tB s with | none => (tT s, .nil) | some (c, p) => ([], .pos (plc s p).1 (plc s p).2 c)) := by
  have h : lexis_Tokens_1.l0 s .nil [] 0 1 1 .nil = _ := all_l s hs (s.size + 1) 0 [] (by omega) (by omega) (by simp)
  unfold lexis_All.f lexis_Tokens.f lexis_Tokens_1.f lexis_New.f
  simp only [Option.bind_eq_bind, Option.bind_some]
  rw [if_neg (nt (decide_eq_false (by omega)))]
  simp only [Option.bind_some]
  rw [h]
  simp only [Option.bind_some]
  unfold tT tB
  cases (tks s (s.size + 1) 0).2 with
  | none => simp only [decide_true, if_true, List.nil_append]
  | some x => obtain ⟨c, p⟩ := x; rfl
end Go.Proofs.YtboejepakdnbgaaGreatDoor.K.C
