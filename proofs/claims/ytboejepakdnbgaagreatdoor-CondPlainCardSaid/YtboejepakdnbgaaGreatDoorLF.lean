/- The program's next token. -/
import Derived.Test.YtboejepakdnbgaaGreatDoorLE
set_option linter.unusedVariables false
set_option linter.unusedSimpArgs false
namespace Go.Proofs.YtboejepakdnbgaaGreatDoor.K
open Go

theorem cut_cut (s : ByteArray) (b i j : Nat) : (s.extract b s.size).extract i j = s.extract (b + i) (b + j) := by
  refine ba_ext ?_
  rw [cut_l, cut_l, cut_l, size_l, List.take_length, ← List.drop_drop]
  congr 1
  rw [List.drop_take, Nat.add_sub_cancel_left]
theorem stE_cut (s : ByteArray) (a : Nat) : ∀ n k, a + stE (s.extract a s.size) n k = stE s n (a + k)
  | 0, k => rfl
  | n + 1, k => by
    rw [stE_s, stE_s, bA_cut]
    split
    · rfl
    · exact stE_cut s a n (k + 1)
abbrev blS (s : ByteArray) (a : Nat) : Bool := (blE s s.size a).1
abbrev blA (s : ByteArray) (a : Nat) : Nat := (blE s s.size a).2
def nxE (s : ByteArray) (a : Nat) : Sum (Int × Nat) (api_Token × Nat) :=
  if blS s a = false then .inl (51, blA s a)
  else if blA s a = s.size then .inr (⟨0, (⟨#[]⟩ : ByteArray), 0, (plc s s.size).1, (plc s s.size).2, (s.size : Int), (s.size : Int)⟩, s.size)
  else match tkE s (blA s a) with
    | .inl (c, p) => .inl (c, p)
    | .inr (k, t, v, e) => .inr (⟨k, t, v, (plc s (blA s a)).1, (plc s (blA s a)).2, (blA s a : Int), (e : Int)⟩, e)
abbrev Nx := api_Token × PErr × Int × Int × Int × PErr
def nxP (s : ByteArray) (b : Nat) : Sum (Int × Nat) (api_Token × Nat) → Nx
  | .inl (c, p) => (noTk, .pos (plc s p).1 (plc s p).2 c, (b : Int), (plc s b).1, (plc s b).2, .pos (plc s p).1 (plc s p).2 c)
  | .inr (t, e) => (t, .nil, (e : Int), (plc s e).1, (plc s e).2, .nil)
variable {rec : ByteArray → Int → Int → Int → PErr → Option Nx} (hrec : ∀ s a b c x y z, rec s a b c (.pos x y z) = some (noTk, .pos x y z, a, b, c, .pos x y z))
include hrec
theorem fail_p (s : ByteArray) (hs : s.size ≤ 1048576) (b o p : Nat) (hp : b + o = p) (hb : p ≤ s.size) (code : Int) :
    lexis_Lexer__fail_2.f rec s b (plc s b).1 (plc s b).2 o code = some (nxP s b (.inl (code, p))) := by
  subst hp
  unfold lexis_Lexer__fail_2.f
  rw [wa (by omega), place_p s hs (b + o) hb]
  simp only [Option.bind_eq_bind, Option.bind_some, hrec]
  rfl
theorem body_p (s : ByteArray) (hs : s.size ≤ 1048576) (a : Nat) (ha : a ≤ s.size) : lexis_Lexer__Next.body rec s a (plc s a).1 (plc s a).2 .nil = some (nxP s (blA s a) (nxE s a)) := by
  have hbl := blE_b s s.size a ha
  unfold lexis_Lexer__Next.body nxE PErr.cas
  rw [blanks_p s hs s.size a ha (by omega)]
  simp only [Option.bind_eq_bind, Option.bind_some]
  generalize hB : blA s a = b
  have hB' : (blE s s.size a).2 = b := hB
  rw [hB'] at hbl ⊢
  have hb1 := hbl.2.1
  have f0 := fun c => fail_p hrec s hs b 0 b rfl hb1 c
  have f0' : ∀ c, lexis_Lexer__fail_2.f rec s b (plc s b).1 (plc s b).2 0 c = some (nxP s b (.inl (c, b))) := f0
  by_cases hS : blS s a = false
  · have hS' : (blE s s.size a).1 = false := hS
    rw [if_pos hS, hS', if_pos (by rfl), f0']; rfl
  · have hS' : (blE s s.size a).1 = true := by simpa using hS
    rw [if_neg hS, hS', if_neg (by decide)]
    by_cases hE : b = s.size
    · rw [if_pos (by rw [beq_iff_eq, hE]), if_pos hE, hE]; rfl
    · rw [if_neg (by rw [beq_iff_eq]; omega), if_neg hE]
      have hlt : b < s.size := by omega
      have hz : (s.extract b s.size).size = s.size - b := cut_size (Nat.le_refl _)
      have eb : ∀ j : Nat, byt (s.extract b s.size) (j : Int) = bA s (b + j) := fun j => bA_cut s b j
      have eb0 : byt (s.extract b s.size) 0 = bA s b := eb 0
      have e1 : lexis_byteAt.f (s.extract b s.size) 1 = some (bA s (b + 1)) := (byteAt_p (s.extract b s.size) 1).trans (by rw [bA_cut])
      have he := endN_ge s (s.size - (b + 1)) (b + 1)
      have hn := noE_b s (s.size - (b + 1)) (b + 1)
      have ht := stE_b s (s.size - (b + 1)) (b + 1)
      have hg := sgE_le hlt
      have nl : lexis_Lexer__Next.l0 s b 1 = some ((noE s (s.size - (b + 1)) (b + 1) - b : Nat) : Int) := no_p s hs b (by omega) (s.size - (b + 1)) 1 (by omega)
      have hx : (s.extract b (noE s (s.size - (b + 1)) (b + 1))).size ≤ 1048576 := by rw [cut_size (by omega)]; omega
      have hst := stE_q s (s.size - (b + 1)) (b + 1)
      have ps : ∀ e : Nat, b ≤ e → e ≤ s.size → lexis_Lexer__pass.f s b (plc s b).1 (plc s b).2 ((e - b : Nat) : Int) = some ((e : Int), (plc s e).1, (plc s e).2) := fun e h1 h2 => by
        have := pass_p s hs b (e - b) (by omega)
        rw [show b + (e - b) = e by omega] at this; exact this
      have en : ∀ e : Nat, b ≤ e → e ≤ s.size → IntKind.i64.wrap ((b : Int) + ((e - b : Nat) : Int)) = (e : Int) := fun e h1 h2 => by rw [wa (by omega)]; omega
      rw [if_pos (by omega), Int.toNat_natCast, hz, if_pos (by omega), eb0]
      unfold tkE
      simp only [letter_p, digit_p, Option.bind_some]
      by_cases hl : isL (bA s b) = true
      · rw [if_pos hl, if_pos hl, name_p hs hlt hl]
        simp only [Option.bind_some]
        by_cases h64 : 64 < endN s (s.size - (b + 1)) (b + 1) - b
        · rw [if_pos (decide_eq_true (by omega)), if_pos h64, f0']; rfl
        · rw [if_neg (nt (decide_eq_false (by omega))), if_neg h64, if_pos (by omega), Int.toNat_natCast, cut_cut]
          simp only [Option.bind_some]
          rw [ps _ (by omega) (by omega)]
          simp only [Option.bind_some]
          rw [en _ (by omega) (by omega), Nat.add_zero, show b + (endN s (s.size - (b + 1)) (b + 1) - b) = endN s (s.size - (b + 1)) (b + 1) by omega]; rfl
      · rw [if_neg hl, if_neg hl]
        have h119 : ((if isD (bA s b) = true then some (true) else (if (bA s b == 45) = true then (lexis_byteAt.f (s.extract b s.size) 1).bind (fun t369 => some (isD t369)) else some (false))) : Option Bool) = some (decide (isD (bA s b) = true ∨ (bA s b = 45 ∧ isD (bA s (b + 1)) = true))) := by
          rw [e1]
          by_cases h1 : isD (bA s b) = true
          · rw [if_pos h1, decide_eq_true (.inl h1)]
          · rw [if_neg h1]
            by_cases h2 : bA s b = 45
            · rw [if_pos (by rw [beq_iff_eq]; exact h2)]
              simp only [Option.bind_some]
              congr 1
              rw [Bool.eq_iff_iff, decide_eq_true_eq]
              exact ⟨fun h => .inr ⟨h2, h⟩, fun h => h.elim (fun h => absurd h h1) (·.2)⟩
            · rw [if_neg (by rw [beq_iff_eq]; exact h2), decide_eq_false (fun h => h.elim h1 (fun h => h2 h.1))]
        rw [h119]
        simp only [Option.bind_some]
        by_cases hd : isD (bA s b) = true ∨ (bA s b = 45 ∧ isD (bA s (b + 1)) = true)
        · rw [if_pos (decide_eq_true hd), if_pos hd]
          rw [nl]
          simp only [Option.bind_some]
          rw [if_pos (by omega), Int.toNat_natCast, cut_cut, Nat.add_zero, show b + (noE s (s.size - (b + 1)) (b + 1) - b) = noE s (s.size - (b + 1)) (b + 1) by omega, parse_p _ hx]
          simp only [Option.bind_some]
          by_cases h0 : (numP (s.extract b (noE s (s.size - (b + 1)) (b + 1)))).2 = 0
          · rw [if_neg (by rw [h0]; decide), if_pos h0, if_pos (by omega)]
            simp only [Option.bind_some]
            rw [ps _ (by omega) (by omega)]
            simp only [Option.bind_some]
            rw [en _ (by omega) (by omega)]; rfl
          · rw [if_pos (by rw [bne_iff_ne]; exact h0), if_neg h0, f0']; rfl
        · rw [if_neg (nt (decide_eq_false hd)), if_neg hd]
          by_cases h34 : bA s b = 34
          · have hc1 : (s.extract b s.size).extract 1 (s.size - b) = s.extract (b + 1) s.size := by rw [cut_cut, show b + (s.size - b) = s.size by omega]
            have hz1 : (s.extract (b + 1) s.size).size = s.size - (b + 1) := cut_size (Nat.le_refl _)
            have hsc := stE_cut s (b + 1) (s.size - (b + 1)) 0
            rw [Nat.add_zero] at hsc
            rw [if_pos (by rw [beq_iff_eq]; exact h34), if_pos h34, if_pos (by omega)]
            rw [show (1 : Int).toNat = 1 from rfl, hc1, any_p _ (by omega), hz1]
            simp only [Option.bind_some]
            by_cases hq : stE s (s.size - (b + 1)) (b + 1) = s.size
            · rw [if_neg (show ¬ stE (s.extract (b + 1) s.size) (s.size - (b + 1)) 0 < s.size - (b + 1) by omega), if_pos (by decide), if_pos hq, fail_p hrec s hs b (s.size - b) s.size (by omega) (Nat.le_refl _)]; rfl
            · rw [if_pos (show stE (s.extract (b + 1) s.size) (s.size - (b + 1)) 0 < s.size - (b + 1) by omega), if_neg (nt (decide_eq_false (by omega))), if_neg hq]
              have ew : IntKind.i64.wrap (1 + ((stE (s.extract (b + 1) s.size) (s.size - (b + 1)) 0 : Nat) : Int)) = ((stE s (s.size - (b + 1)) (b + 1) - b : Nat) : Int) := by
                rw [wi64_id (by omega) (by omega)]; omega
              have ew2 : IntKind.i64.wrap (((stE (s.extract (b + 1) s.size) (s.size - (b + 1)) 0 : Nat) : Int) + 2) = ((stE s (s.size - (b + 1)) (b + 1) + 1 - b : Nat) : Int) := by
                rw [wi64_id (by omega) (by omega)]; omega
              have e10 := eb (stE s (s.size - (b + 1)) (b + 1) - b)
              rw [show b + (stE s (s.size - (b + 1)) (b + 1) - b) = stE s (s.size - (b + 1)) (b + 1) by omega] at e10
              rw [ew, ew2, e10, if_pos (by omega)]
              by_cases h10 : bA s (stE s (s.size - (b + 1)) (b + 1)) = 10
              · rw [if_pos (by rw [beq_iff_eq]; exact h10), if_pos h10, fail_p hrec s hs b (stE s (s.size - (b + 1)) (b + 1) - b) (stE s (s.size - (b + 1)) (b + 1)) (by omega) (by omega)]; rfl
              · rw [if_neg (by rw [beq_iff_eq]; exact h10), if_neg h10, if_pos (by omega), Int.toNat_natCast, cut_cut]
                simp only [Option.bind_some]
                rw [ps _ (by omega) (by omega)]
                simp only [Option.bind_some]
                rw [en _ (by omega) (by omega), show b + (stE s (s.size - (b + 1)) (b + 1) - b) = stE s (s.size - (b + 1)) (b + 1) by omega]; rfl
          · rw [if_neg (by rw [beq_iff_eq]; exact h34), if_neg h34]
            have sp : lexis_sign.f (s.extract b s.size) = some (sgE s b : Int) := sign_p s b hlt
            rw [sp]
            simp only [Option.bind_some]
            by_cases h0 : sgE s b = 0
            · rw [if_pos (by rw [h0]; rfl), if_pos h0, f0']; rfl
            · rw [if_neg (by rw [beq_iff_eq]; omega), if_neg h0, if_pos (by omega), Int.toNat_natCast, cut_cut, Nat.add_zero]
              simp only [Option.bind_some]
              have hp := pass_p s hs b (sgE s b) hg
              rw [hp]
              simp only [Option.bind_some]
              rw [wa (by omega)]; rfl
omit hrec
theorem next_err (n : Nat) (s : ByteArray) (a b c x y z : Int) : lexis_Lexer__Next.f (n + 1) s a b c (.pos x y z) = some (noTk, .pos x y z, a, b, c, .pos x y z) := rfl
theorem next_f (s : ByteArray) (hs : s.size ≤ 1048576) (a : Nat) (ha : a ≤ s.size) : lexis_Lexer__Next.f fuelN s a (plc s a).1 (plc s a).2 .nil = some (nxP s (blA s a) (nxE s a)) := by
  obtain ⟨n, hn⟩ : ∃ n, fuelN = n + 2 := ⟨fuelN - 2, by have := fuelN_ge; omega⟩
  rw [hn]
  exact body_p (rec := lexis_Lexer__Next.f (n + 1)) (fun s a b c x y z => next_err n s a b c x y z) s hs a ha
theorem tkE_b {s : ByteArray} {a : Nat} (ha : a < s.size) : (∀ c p, tkE s a = .inl (c, p) → c ≠ 0 ∧ a ≤ p ∧ p ≤ s.size) ∧ (∀ k t v e, tkE s a = .inr (k, t, v, e) → k ≠ 0 ∧ a < e ∧ e ≤ s.size) := by
  have he := endN_ge s (s.size - (a + 1)) (a + 1)
  have hn := noE_b s (s.size - (a + 1)) (a + 1)
  have ht := stE_b s (s.size - (a + 1)) (a + 1)
  have hg := sgE_le ha
  unfold tkE
  constructor
  · intro c p h
    (repeat' split at h) <;> first | (simp only [reduceCtorEq] at h; done) | (simp only [Sum.inl.injEq, Prod.mk.injEq] at h; obtain ⟨rfl, rfl⟩ := h; first | exact ⟨by decide, by omega, by omega⟩ | exact ⟨by assumption, by omega, by omega⟩)
  · intro k t v e h
    (repeat' split at h) <;> first | (simp only [reduceCtorEq] at h; done) | (simp only [Sum.inr.injEq, Prod.mk.injEq] at h; obtain ⟨rfl, -, -, rfl⟩ := h; exact ⟨by decide, by omega, by omega⟩)
end Go.Proofs.YtboejepakdnbgaaGreatDoor.K
