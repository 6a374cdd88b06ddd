/- CondParses: whatever the text, Parse and the document agree. -/
import Derived.Test.YtboejepakdnbgaaGreatDoorLG
import Derived.Test.YtboejepakdnbgaaGreatDoorZE
set_option linter.unusedVariables false
set_option linter.unusedSimpArgs false
namespace Go.Proofs.YtboejepakdnbgaaGreatDoor.K.C
open Go

theorem nilP (x y z : Int) : PErr.isNil (.pos x y z) = false := rfl
theorem nilN : PErr.isNil .nil = true := rfl
theorem nilM (x : Int) : PErr.isNil (.num x) = false := rfl
/-- What a fault is to the program. -/
def ferr (s : ByteArray) : Option (Int × Nat) → PErr
  | none => .nil
  | some (c, p) => .pos (plc s p).1 (plc s p).2 c
theorem all_l (s : ByteArray) (hs : s.size ≤ 1048576) : ∀ (n a : Nat) (acc : List api_Token), a ≤ s.size → s.size < a + n → acc.length ≤ a →
    lexis_Tokens_1.l0 s .nil acc (a : Int) (plc s a).1 (plc s a).2 .nil = some (match (tks s n a).2 with | none => 0 | some _ => 1, ferr s (tks s n a).2, acc ++ (tks s n a).1) := by
  intro n
  induction n with
  | zero => intro a acc h1 h2; omega
  | succ n ih =>
    intro a acc h1 h2 h3
    have hd := dnext s hs a 0 h1 (Nat.zero_le _)
    rw [tks_s, lexis_Tokens_1.l0, next_f s hs a h1]
    cases hx : nxE s a with
    | inl x =>
      obtain ⟨c, p⟩ := x
      unfold nxP lexis_All_r_1.f
      simp only [Option.bind_eq_bind, Option.bind_some, nilP, Bool.not_false, Bool.false_eq_true, if_true, if_false]
      rw [if_neg (by simp), List.append_nil]
      rfl
    | inr x =>
      obtain ⟨t, e⟩ := x
      obtain ⟨he1, he2, he3, -⟩ := hd.2 t e hx
      unfold nxP
      simp only [Option.bind_eq_bind, Option.bind_some, nilN, if_true]
      by_cases hk : t.Kind = 0
      · rw [if_pos (by rw [beq_iff_eq]; exact hk), if_pos hk, List.append_nil]
        rfl
      · have hae := he3.resolve_left hk
        rw [if_neg (by rw [beq_iff_eq]; exact hk), if_neg hk]
        unfold lexis_All_r_1.f
        simp only [nilN, Bool.not_true, Bool.false_eq_true, if_false]
        rw [if_pos (by rw [List.length_singleton]; omega)]
        simp only [Option.bind_some]
        rw [if_pos (by decide), ih e (acc ++ [t]) he2 (by omega) (by rw [List.length_append, List.length_singleton]; omega), List.append_assoc]
        rfl
abbrev tT (s : ByteArray) : List api_Token := (tks s (s.size + 1) 0).1
abbrev tB (s : ByteArray) : Option (Int × Nat) := (tks s (s.size + 1) 0).2
theorem tks_b (s : ByteArray) (hs : s.size ≤ 1048576) : (tT s).length ≤ s.size ∧ ∀ c p, tB s = some (c, p) → c ≠ 0 ∧ p ≤ s.size :=
  (toks_l s hs (s.size + 1) 0 0 [] (by omega) (Nat.le_refl _) (by omega) (Nat.le_refl _)).2
theorem all_p (s : ByteArray) (hs : s.size ≤ 1048576) : lexis_All.f s = some (match tB s with | none => (tT s, .nil) | some (c, p) => ([], .pos (plc s p).1 (plc s p).2 c)) := by
  have h : lexis_Tokens_1.l0 s .nil [] 0 1 1 .nil = _ := all_l s hs (s.size + 1) 0 [] (by omega) (by omega) (by simp)
  unfold lexis_All.f lexis_Tokens.f lexis_Tokens_1.f lexis_New.f
  simp only [Option.bind_eq_bind, Option.bind_some]
  rw [if_neg (nt (decide_eq_false (by omega)))]
  simp only [Option.bind_some]
  rw [h]
  simp only [Option.bind_some]
  unfold tT tB
  cases (tks s (s.size + 1) 0).2 with
  | none => simp only [decide_true, if_true, List.nil_append]
  | some x => obtain ⟨c, p⟩ := x; rfl
theorem next_num (n : Nat) (s : ByteArray) (a b c k : Int) : lexis_Lexer__Next.f (n + 1) s a b c (.num k) = some ((⟨0, (⟨#[]⟩ : ByteArray), 0, 0, 0, 0, 0⟩ : api_Token), .num k, a, b, c, .num k) := rfl
theorem all_long (s : ByteArray) (hs : 1048576 < s.size) : lexis_All.f s = some ([], .num 1) := by
  obtain ⟨n, hn⟩ : ∃ n, fuelN = n + 1 := ⟨fuelN - 1, by have := fuelN_ge; omega⟩
  unfold lexis_All.f lexis_Tokens.f lexis_Tokens_1.f lexis_New.f
  simp only [Option.bind_eq_bind, Option.bind_some]
  rw [if_pos (decide_eq_true (by omega))]
  simp only [Option.bind_some]
  rw [lexis_Tokens_1.l0, hn, next_num]
  unfold lexis_All_r_1.f
  simp only [Option.bind_eq_bind, Option.bind_some, nilM, Bool.not_false, Bool.false_eq_true, if_true, if_false]
  rfl
theorem toks_long (s : ByteArray) (hs : 1048576 < s.size) : weirref05_Tokens.f s = some ([], ⟨-1, 0, 1⟩) := by
  unfold weirref05_Tokens.f weirref05_New.f
  rw [if_pos (decide_eq_true (by omega))]
  simp only [Option.bind_eq_bind, Option.bind_some]
  rw [weirref05_Tokens.l0]
  unfold weirref05_Lexer__Next.f
  rw [if_pos (by simp)]
  simp only [Option.bind_eq_bind, Option.bind_some]
  rw [if_pos (by simp)]
  rfl
/-- What Parse answers, and what the document does. -/
theorem parse_both (s : ByteArray) : ∃ c e F, cond_Parse.f s = some (c, e) ∧ weirref06_Parse.f s = some (c, F) ∧ weirlaw06_fault.f e = some F ∧ c.length ≤ 1024 := by
  unfold cond_Parse.f weirref06_Parse.f
  by_cases hs : s.size ≤ 1048576
  · obtain ⟨hl, hb⟩ := tks_b s hs
    rw [all_p s hs, toks_d s hs]
    simp only [Option.bind_eq_bind, Option.bind_some]
    cases hB : tB s with
    | some x =>
      obtain ⟨c, p⟩ := x
      have hc := (hb c p hB).1
      have hB' : (tks s (s.size + 1) 0).2 = some (c, p) := hB
      rw [hB']
      simp only [flt, nilP, Bool.not_false, if_true]
      refine ⟨[], _, ⟨(plc s p).1, (plc s p).2, c⟩, rfl, ?_, rfl, by simp⟩
      have hcc : (c != 0) = true := bne_iff_ne.2 hc
      simp only [hcc, if_true]
    | none =>
      have hB' : (tks s (s.size + 1) 0).2 = none := hB
      rw [hB']
      have z0 : ((0 : Int) != 0) = false := rfl
      simp only [flt, nilN, z0, Bool.not_true, Bool.false_eq_true, if_false, tT]
      rw [place_p s hs s.size (Nat.le_refl _), place_f s hs s.size (Nat.le_refl _)]
      simp only [Option.bind_some]
      generalize hen : (⟨0, (⟨#[]⟩ : ByteArray), 0, (plc s s.size).1, (plc s s.size).2, (s.size : Int), (s.size : Int)⟩ : api_Token) = en
      have hek : en.Kind = 0 := by rw [← hen]
      have hg : (List.length (tks s (s.size + 1) 0).1 + List.length [en]) * 64 ≤ 140737488355328 := by
        have : (tks s (s.size + 1) 0).1.length ≤ s.size := hl
        rw [List.length_singleton]; omega
      simp only [if_pos hg]
      generalize hL : (tks s (s.size + 1) 0).1 ++ [en] = L
      have hLl : L.length = (tT s).length + 1 := by rw [← hL, List.length_append, List.length_singleton]
      have hlast : (gt L ((L.length - 1 : Nat) : Int)).Kind = 0 := by
        have h1 : L.length - 1 < L.length := by omega
        rw [gt_nat h1]
        have : L[L.length - 1]'h1 = en := by
          subst hL
          simp
        rw [this]; exact hek
      have hM : M L = L.length - 1 := by
        unfold M
        rw [if_pos ⟨by omega, hlast⟩]
      rcases take_both L (by omega) with ⟨c, k, p1, q1, hc, hk⟩ | ⟨e, F, p1, q1, hF, hF0, he⟩
      · rw [p1, q1]
        simp only [Option.bind_some]
        have hkl : k < L.length := by omega
        have g : (0 : Int) ≤ (k : Int) ∧ (k : Int) < (L.length : Int) := by omega
        have z0' : (F0.Code != 0) = false := rfl
        simp only [nilN, z0', Bool.not_true, Bool.false_eq_true, if_false, if_pos g]
        by_cases hkk : (gt L (k : Int)).Kind = 0
        · refine ⟨c, .nil, F0, ?_, ?_, rfl, hc⟩
          · rw [if_neg (by simp [hkk])]
          · rw [if_neg (by simp [hkk])]
        · refine ⟨[], .pos (gt L (k : Int)).Line (gt L (k : Int)).Col 70, ⟨(gt L (k : Int)).Line, (gt L (k : Int)).Col, 70⟩, ?_, ?_, rfl, by simp⟩
          · rw [if_pos (by rw [bne_iff_ne]; exact hkk)]
          · rw [if_pos (by rw [bne_iff_ne]; exact hkk)]
      · rw [p1, q1]
        simp only [Option.bind_some]
        refine ⟨[], e, F, ?_, ?_, hF, by simp⟩
        · rw [if_pos he]
        · rw [if_pos (by rw [bne_iff_ne]; exact hF0)]
  · rw [all_long s (by omega), toks_long s (by omega)]
    simp only [Option.bind_eq_bind, Option.bind_some]
    simp only [nilM, Bool.not_false, if_true]
    exact ⟨[], .num 1, ⟨-1, 0, 1⟩, rfl, rfl, rfl, by simp⟩
theorem law (s : ByteArray) : weirlaw06_CondParses.f s = some true := by
  obtain ⟨c, e, F, h1, h2, h3, h4⟩ := parse_both s
  unfold weirlaw06_CondParses.f
  simp only [h1, h2, h3, Option.bind_eq_bind, Option.bind_some, same c c (by omega), decide_true, Bool.not_true, Bool.false_eq_true, if_false, spoil c (by omega)]
end Go.Proofs.YtboejepakdnbgaaGreatDoor.K.C
namespace Go.Proofs.YtboejepakdnbgaaGreatDoor.K
theorem law0 (s : ByteArray) (_ : s.size ≤ bnd) : weirlaw06_CondParses.f s = some true := C.law s
end Go.Proofs.YtboejepakdnbgaaGreatDoor.K
