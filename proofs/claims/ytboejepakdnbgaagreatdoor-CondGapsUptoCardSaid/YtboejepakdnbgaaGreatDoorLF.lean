/- The program's next token. -/
import Derived.Test.YtboejepakdnbgaaGreatDoorLE
set_option linter.unusedVariables false
set_option linter.unusedSimpArgs false
namespace Go.Proofs.YtboejepakdnbgaaGreatDoor.K
open Go

theorem cut_cut (s : ByteArray) (b i j : Nat) : (s.extract b s.size).extract i j = s.extract (b + i) (b + j) := by
  refine ba_ext ?_
  rw [cut_l, cut_l, cut_l, size_l, List.take_length, ← List.drop_drop]
  congr 1
  rw [List.drop_take, Nat.add_sub_cancel_left]
theorem stE_cut (s : ByteArray) (a : Nat) : ∀ n k, a + stE (s.extract a s.size) n k = stE s n (a + k)
  | 0, k => rfl
  | n + 1, k => by
    rw [stE_s, stE_s, bA_cut]
    split
    · rfl
    · exact stE_cut s a n (k + 1)
abbrev blS (s : ByteArray) (a : Nat) : Bool := (blE s s.size a).1
abbrev blA (s : ByteArray) (a : Nat) : Nat := (blE s s.size a).2
def nxE (s : ByteArray) (a : Nat) : Sum (Int × Nat) (api_Token × Nat) :=
  if blS s a = false then .inl (51, blA s a)
  else if blA s a = s.size then .inr (⟨0, (⟨#[]⟩ : ByteArray), 0, (plc s s.size).1, (plc s s.size).2, (s.size : Int), (s.size : Int)⟩, s.size)
  else match tkE s (blA s a) with
    | .inl (c, p) => .inl (c, p)
    | .inr (k, t, v, e) => .inr (⟨k, t, v, (plc s (blA s a)).1, (plc s (blA s a)).2, (blA s a : Int), (e : Int)⟩, e)
abbrev Nx := api_Token × PErr × Int × Int × Int × PErr
def nxP (s : ByteArray) (b : Nat) : Sum (Int × Nat) (api_Token × Nat) → Nx
  | .inl (c, p) => (noTk, .pos (plc s p).1 (plc s p).2 c, (b : Int), (plc s b).1, (plc s b).2, .pos (plc s p).1 (plc s p).2 c)
  | .inr (t, e) => (t, .nil, (e : Int), (plc s e).1, (plc s e).2, .nil)
variable {rec : ByteArray → Int → Int → Int → PErr → Option Nx} (hrec : ∀ s a b c x y z, rec s a b c (.pos x y z) = some (noTk, .pos x y z, a, b, c, .pos x y z))
include hrec
theorem fail_p (s : ByteArray) (hs : s.size ≤ 1048576) (b o p : Nat) (hp : b + o = p) (hb : p ≤ s.size) (code : Int) :
    lexis_Lexer__fail_2.f rec s b (plc s b).1 (plc s b).2 o code = some (nxP s b (.inl (code, p))) := by
  subst hp
  unfold lexis_Lexer__fail_2.f
  rw [wa (by omega), place_p s hs (b + o) hb]
  simp only [Option.bind_eq_bind, Option.bind_some, hrec]
  rfl
theorem body_p (s : ByteArray) (hs : s.size ≤ 1048576) (a : Nat) (ha : a ≤ s.size) : lexis_Lexer__Next.body rec s a (plc s a).1 (plc s a).2 .nil = some (nxP s (blA s a) (nxE s a)) := by
  have hbl := blE_b s s.size a ha
  unfold lexis_Lexer__Next.body nxE PErr.cas
  rw [blanks_p s hs s.size a ha (by omega)]
  simp only [Option.bind_eq_bind, Option.bind_some]
  generalize hB : blA s a = b
  have hB' : (blE s s.size a).2 = b := hB
  rw [hB'] at hbl ⊢
  have hb1 := hbl.2.1
  have f0 := fun c => fail_p hrec s hs b 0 b rfl hb1 c
  have f0' : ∀ c, lexis_Lexer__fail_2.f rec s b (plc s b).1 (plc s b).2 0 c = some (nxP s b (.inl (c, b))) := f0
  by_cases hS : blS s a = false
  · have hS' : (blE s s.size a).1 = false := hS
    rw [if_pos hS, hS', if_pos (by rfl), f0']; rfl
  · have hS' : (blE s s.size a).1 = true := by simpa using hS
    rw [if_neg hS, hS', if_neg (by decide)]
    by_cases hE : b = s.size
    · rw [if_pos (by rw [beq_iff_eq, hE]), if_pos hE, hE]; rfl
    · rw [if_neg (by rw [beq_iff_eq]; omega), if_neg hE]
      have hlt : b < s.size := by omega
      have hz : (s.extract b s.size).size = s.size - b := cut_size (Nat.le_refl _)
      have eb : ∀ j : Nat, byt (s.extract b s.size) (j : Int) = bA s (b + j) := fun j => bA_cut s b j
      have eb0 : byt (s.extract b s.size) 0 = bA s b := eb 0
      have e1 : lexis_byteAt.f (s.extract b s.size) 1 = some (bA s (b + 1)) := (byteAt_p (s.extract b s.size) 1).trans (by rw [bA_cut])
      have he := endN_ge s (s.size - (b + 1)) (b + 1)
      have hn := noE_b s (s.size - (b + 1)) (b + 1)
      have ht := stE_b s (s.size - (b + 1)) (b + 1)
      have hg := sgE_le hlt
      have nl : lexis_Lexer__Next.l0 s b 1 = some ((noE s (s.size - (b + 1)) (b + 1) - b : Nat) : Int) := no_p s hs b (by omega) (s.size - (b + 1)) 1 (by omega)
      have hx : (s.extract b (noE s (s.size - (b + 1)) (b + 1))).size ≤ 1048576 := by rw [cut_size (by omega)]; omega
      have hst := stE_q s (s.size - (b + 1)) (b + 1)
      have ps : ∀ e : Nat, b ≤ e → e ≤ s.size → lexis_Lexer__pass.f s b (plc s b).1 (plc s b).2 ((e - b : Nat) : Int) = some ((e : Int), (plc s e).1, (plc s e).2) := fun e h1 h2 => by
        have := pass_p s hs b (e - b) (by omega)
        rw [show b + (e - b) = e by omega] at this; exact this
      have en : ∀ e : Nat, b ≤ e → e ≤ s.size → IntKind.i64.wrap ((b : Int) + ((e - b : Nat) : Int)) = (e : Int) := fun e h1 h2 => by rw [wa (by omega)]; omega
      rw [if_pos (by omega), Int.toNat_natCast, hz, if_pos (by omega), eb0]
      unfold tkE
      simp only [letter_p, digit_p, Option.bind_some]
      by_cases hl : isL (bA s b) = true
      · rw [if_pos hl, if_pos hl, name_p hs hlt hl]
        simp only [Option.bind_some]
        by_cases h64 : 64 < endN s (s.size - (b + 1)) (b + 1) - b
        · rw [if_pos (decide_eq_true (by omega)), if_pos h64, f0']; rfl
        · rw [if_neg (nt (decide_eq_false (by omega))), if_neg h64, if_pos (by omega), Int.toNat_natCast, cut_cut]
          simp only [Option.bind_some]
          rw [ps _ (by omega) (by omega)]
          simp only [Option.bind_some]
          rw [en _ (by omega) (by omega), Nat.add_zero, show b + (endN s (s.size - (b + 1)) (b + 1) - b) = endN s (s.size - (b + 1)) (b + 1) by omega]; rfl
      · rw [if_neg hl, if_neg hl]
        have h119 : ((if isD (bA s b) = true then some (true) else (if (bA s b == 45) = true then (lexis_byteAt.f (s.extract b s.size) 1).bind (fun t369 => some (isD t369)) else some (false))) : Option Bool) = some (decide (isD (bA s b) = true ∨ (bA s b = 45 ∧ isD (bA s (b + 1)) = true))) := by
          rw [e1]
          by_cases h1 : isD (bA s b) = true
          · rw [if_pos h1, decide_eq_true (.inl h1)]
          · rw [if_neg h1]
            by_cases h2 : bA s b = 45
            · rw [if_pos (by rw [beq_iff_eq]; exact h2)]
              simp only [Option.bind_some]
              congr 1
              rw [Bool.eq_iff_iff, decide_eq_true_eq]
              exact ⟨fun h => .inr ⟨h2, h⟩, fun h => h.elim (fun h => absurd h h1) (·.2)⟩
            · rw [if_neg (by rw [beq_iff_eq]; exact h2), decide_eq_false (fun h => h.elim h1 (fun h => h2 h.1))]
        rw [h119]
        simp only [Option.bind_some]
        by_cases hd : isD (bA s b) = true ∨ (bA s b = 45 ∧ isD (bA s (b + 1)) = true)
        · rw [if_pos (decide_eq_true hd), if_pos hd]
          rw [nl]
          simp only [Option.bind_some]
          rw [if_pos (by omega), Int.toNat_natCast, cut_cut, Nat.add_zero, show b + (noE s (s.size - (b + 1)) (b + 1) - b) = noE s (s.size - (b + 1)) (b + 1) by omega, parse_p _ hx]
          simp only [Option.bind_some]
          by_cases h0 : (numP (s.extract b (noE s (s.size - (b + 1)) (b + 1)))).2 = 0
          · rw [if_neg (by rw [h0]; decide), if_pos h0, if_pos (by omega)]
            simp only [Option.bind_some]
            rw [ps _ (by omega) (by omega)]
            simp only [Option.bind_some]
            rw [en _ (by omega) (by omega)]; rfl
          · rw [if_pos (by rw [bne_iff_ne]; exact h0), if_neg h0, f0']; rfl
        · rw [if_neg (nt (decide_eq_false hd)), if_neg hd]
          by_cases h34 : bA s b = 34
          · have hc1 : (s.extract b s.size).extract 1 (s.size - b) = s.extract (b + 1) s.size := by rw [cut_cut, show b + (s.size - b) = s.size by omega]
            have hz1 : (s.extract (b + 1) s.size).size = s.size - (b + 1) := cut_size (Nat.le_refl _)
            have hsc := stE_cut s (b + 1) (s.size - (b + 1)) 0
            rw [Nat.add_zero] at hsc
            rw [if_pos (by rw [beq_iff_eq]; exact h34), if_pos h34, if_pos (by omega)]
            rw [show (1 : Int).toNat = 1 from rfl, hc1, any_p _ (by omega), hz1]
            simp only [Option.bind_some]
            by_cases hq : stE s (s.size - (b + 1)) (b + 1) = s.size
            · rw [if_neg (show ¬ stE (s.extract (b + 1) s.size) (s.size - (b + 1)) 0 < s.size - (b + 1) by omega), if_pos (by decide), if_pos hq, fail_p hrec s hs b (s.size - b) s.size (by omega) (Nat.le_refl _)]; rfl
            · rw [if_pos (show stE (s.extract (b + 1) s.size) (s.size - (b + 1)) 0 < s.size - (b + 1) by omega), if_neg (nt (decide_eq_false (by omega))), if_neg hq]
              have ew : IntKind.i64.wrap (1 + ((stE (s.extract (b + 1) s.size) (s.size - (b + 1)) 0 : Nat) : Int)) = ((stE s (s.size - (b + 1)) (b + 1) - b : Nat) : Int) := by
                rw [wi64_id (by omega) (by omega)]; omega
              have ew2 : IntKind.i64.wrap (((stE (s.extract (b + 1) s.size) (s.size - (b + 1)) 0 : Nat) : Int) + 2) = ((stE s (s.size - (b + 1)) (b + 1) + 1 - b : Nat) : Int) := by
                rw [wi64_id (by omega) (by omega)]; omega
              have e10 := eb (stE s (s.size - (b + 1)) (b + 1) - b)
              rw [show b + (stE s (s.size - (b + 1)) (b + 1) - b) = stE s (s.size - (b + 1)) (b + 1) by omega] at e10
              rw [ew, ew2, e10, if_pos (by omega)]
              by_cases h10 : bA s (stE s (s.size - (b + 1)) (b + 1)) = 10
              · rw [if_pos (by rw [beq_iff_eq]; exact h10), if_pos h10, fail_p hrec s hs b (stE s (s.size - (b + 1)) (b + 1) - b) (stE s (s.size - (b + 1)) (b + 1)) (by omega) (by omega)]; rfl
              · rw [if_neg (by rw [beq_iff_eq]; exact h10), if_neg h10, if_pos (by omega), Int.toNat_natCast, cut_cut]
                simp only [Option.bind_some]
                rw [ps _ (by omega) (by omega)]
                simp only [Option.bind_some]
                rw [en _ (by omega) (by omega), show b + (stE s (s.size - (b + 1)) (b + 1) - b) = stE s (s.size - (b + 1)) (b + 1) by omega]; rfl
          · rw [if_neg (by rw [beq_iff_eq]; exact h34), if_neg h34]
            have sp : lexis_sign.f (s.extract b s.size) = some (sgE s b : Int) := sign_p s b hlt
            rw [sp]
            simp only [Option.bind_some]
            by_cases h0 : sgE s b = 0
            · rw [if_pos (by rw [h0]; rfl), if_pos h0, f0']; rfl
            · rw [if_neg (by rw [beq_iff_eq]; omega), if_neg h0, if_pos (by omega), Int.toNat_natCast, cut_cut, Nat.add_zero]
              simp only [Option.bind_some]
              have hp := pass_p s hs b (sgE s b) hg
              rw [hp]
              simp only [Option.bind_some]
              rw [wa (by omega)]; rfl
omit hrec
theorem next_err (n : Nat) (s : ByteArray) (a b c x y z : Int) : lexis_Lexer__Next.f (n + 1) s a b c (.pos x y z) = some (noTk, .pos x y z, a, b, c, .pos x y z) := rfl
theorem next_f (s : ByteArray) (hs : s.size ≤ 1048576) (a : Nat) (ha : a ≤ s.size) : lexis_Lexer__Next.f fuelN s a (plc s a).1 (plc s a).2 .nil = some (nxP s (blA s a) (nxE s a)) := by
  obtain ⟨n, hn⟩ : ∃ n, fuelN = n + 2 := ⟨fuelN - 2, by have := fuelN_ge; omega⟩
  rw [hn]
  exact body_p (rec := lexis_Lexer__Next.f (n + 1)) (fun s a b c x y z => next_err n s a b c x y z) s hs a ha
/-! ### The document's -/
theorem dplace_l (S : ByteArray) (hs : S.size ≤ 1048576) (At : Int) (F : weirref05_Fault) (p : Nat) (hp : p ≤ S.size) : ∀ m k : Nat, k + m = p →
    weirref05_Lexer__place.l0 p ⟨S, At, F, (k : Int), (plc S k).1, (plc S k).2⟩ = some ⟨S, At, F, (p : Int), (plc S p).1, (plc S p).2⟩ := by
  intro m
  induction m with
  | zero =>
    intro k h
    obtain rfl : k = p := by omega
    rw [weirref05_Lexer__place.l0, if_neg (nt (decide_eq_false (by simp only; omega)))]
  | succ m ih =>
    intro k h
    have hb := plc_b S k
    have := ih (k + 1) (by omega)
    rw [weirref05_Lexer__place.l0, if_pos (decide_eq_true (by simp only; omega)), if_pos (by simp only; omega)]
    simp only
    rw [w1 (by omega)]
    rw [plc] at this
    by_cases h10 : bA S k = 10
    · rw [if_pos h10] at this
      rw [if_pos (by rw [beq_iff_eq]; exact h10), wi64_id (by omega) (by omega)]; exact this
    · rw [if_neg h10] at this
      rw [if_neg (by rw [beq_iff_eq]; exact h10), wi64_id (by omega) (by omega)]; exact this
theorem dplace (S : ByteArray) (hs : S.size ≤ 1048576) (At : Int) (F : weirref05_Fault) (k p : Nat) (hk : k ≤ p) (hp : p ≤ S.size) :
    weirref05_Lexer__place.f ⟨S, At, F, (k : Int), (plc S k).1, (plc S k).2⟩ p = some ((plc S p).1, (plc S p).2, ⟨S, At, F, (p : Int), (plc S p).1, (plc S p).2⟩) := by
  unfold weirref05_Lexer__place.f
  rw [dplace_l S hs At F p hp (p - k) k (by omega)]
  rfl
theorem tkE_b {s : ByteArray} {a : Nat} (ha : a < s.size) : (∀ c p, tkE s a = .inl (c, p) → c ≠ 0 ∧ a ≤ p ∧ p ≤ s.size) ∧ (∀ k t v e, tkE s a = .inr (k, t, v, e) → k ≠ 0 ∧ a < e ∧ e ≤ s.size) := by
  have he := endN_ge s (s.size - (a + 1)) (a + 1)
  have hn := noE_b s (s.size - (a + 1)) (a + 1)
  have ht := stE_b s (s.size - (a + 1)) (a + 1)
  have hg := sgE_le ha
  unfold tkE
  constructor
  · intro c p h
    (repeat' split at h) <;> first | (simp only [reduceCtorEq] at h; done) | (simp only [Sum.inl.injEq, Prod.mk.injEq] at h; obtain ⟨rfl, rfl⟩ := h; first | exact ⟨by decide, by omega, by omega⟩ | exact ⟨by assumption, by omega, by omega⟩)
  · intro k t v e h
    (repeat' split at h) <;> first | (simp only [reduceCtorEq] at h; done) | (simp only [Sum.inr.injEq, Prod.mk.injEq] at h; obtain ⟨rfl, -, -, rfl⟩ := h; exact ⟨by decide, by omega, by omega⟩)
theorem dnext (S : ByteArray) (hs : S.size ≤ 1048576) (a k : Nat) (ha : a ≤ S.size) (hk : k ≤ a) :
    (∀ c p, nxE S a = .inl (c, p) → c ≠ 0 ∧ p ≤ S.size ∧ ∃ L, weirref05_Lexer__Next.f ⟨S, a, ⟨0, 0, 0⟩, (k : Int), (plc S k).1, (plc S k).2⟩ = some (noTk, ⟨(plc S p).1, (plc S p).2, c⟩, L)) ∧
    (∀ t e, nxE S a = .inr (t, e) → a ≤ e ∧ e ≤ S.size ∧ (t.Kind = 0 ∨ a < e) ∧ ∃ k', k' ≤ e ∧ weirref05_Lexer__Next.f ⟨S, a, ⟨0, 0, 0⟩, (k : Int), (plc S k).1, (plc S k).2⟩ = some (t, ⟨0, 0, 0⟩, ⟨S, e, ⟨0, 0, 0⟩, (k' : Int), (plc S k').1, (plc S k').2⟩)) := by
  have hbl := blE_b S S.size a ha
  obtain ⟨q, hq⟩ := blanks_d S hs S.size a ha (by omega)
  have hu : ∀ bb : Int × Int, weirref05_blanks.f S a = some bb → weirref05_Lexer__Next.f ⟨S, a, ⟨0, 0, 0⟩, (k : Int), (plc S k).1, (plc S k).2⟩ =
      (((if (decide (bb.2 < 0)) = true then (if (decide (bb.1 < (S.size : Int))) = true then (weirref05_token.f S bb.1 >>= (fun (t104,t105,t106) => (if (t105 == 0) = true then some (((-1),t105,t104)) else some ((t106,t105,t104))))) else some ((bb.2,51,(⟨0,(⟨#[]⟩ : ByteArray),0,0,0,bb.1,bb.1⟩ : api_Token)))) else some ((bb.2,51,(⟨0,(⟨#[]⟩ : ByteArray),0,0,0,bb.1,bb.1⟩ : api_Token)))) : Option (Int × Int × api_Token)) >>= (fun (t40,t41,t42) => (if (decide (t40 ≥ 0)) = true then (weirref05_Lexer__place.f ⟨S, a, ⟨0, 0, 0⟩, (k : Int), (plc S k).1, (plc S k).2⟩ t40 >>= (fun (t51,t52,t53) => some (((⟨0,(⟨#[]⟩ : ByteArray),0,0,0,0,0⟩ : api_Token),(⟨t51,t52,t41⟩ : weirref05_Fault),(⟨t53.S,t53.At,(⟨t51,t52,t41⟩ : weirref05_Fault),t53.from_,t53.line,t53.col⟩ : weirref05_Lexer))))) else (weirref05_Lexer__place.f ⟨S, a, ⟨0, 0, 0⟩, (k : Int), (plc S k).1, (plc S k).2⟩ bb.1 >>= (fun (t72,t73,t74) => some (((⟨t42.Kind,t42.Text,t42.Value,t72,t73,t42.At,t42.End⟩ : api_Token),(⟨0,0,0⟩ : weirref05_Fault),(⟨t74.S,t42.End,t74.F,t74.from_,t74.line,t74.col⟩ : weirref05_Lexer)))))))) := by
    intro bb h
    unfold weirref05_Lexer__Next.f
    simp only
    rw [if_neg (by decide), h]
    rfl
  unfold nxE
  generalize hB : blA S a = b
  have hB' : (blE S S.size a).2 = b := hB
  rw [hB'] at hbl hq
  by_cases hS : blS S a = false
  · have hS' : (blE S S.size a).1 = false := hS
    rw [hS', if_neg (by decide)] at hq
    have hu' := hu _ hq
    rw [if_neg (nt (decide_eq_false (by simp only; omega)))] at hu'
    simp only [Option.bind_eq_bind, Option.bind_some] at hu'
    rw [if_pos (decide_eq_true (by omega)), dplace S hs _ _ k b (by omega) hbl.2.1] at hu'
    simp only [Option.bind_some] at hu'
    rw [if_pos hS]
    refine ⟨?_, fun t e h => (by cases h)⟩
    intro c p h
    cases h
    exact ⟨by decide, hbl.2.1, _, hu'⟩
  · have hS' : (blE S S.size a).1 = true := by simpa using hS
    rw [hS', if_pos rfl] at hq
    have hu' := hu _ hq
    rw [if_pos (decide_eq_true (show (-1 : Int) < 0 by decide))] at hu'
    rw [if_neg hS]
    by_cases hE : b = S.size
    · rw [if_neg (nt (decide_eq_false (by simp only; omega)))] at hu'
      simp only [Option.bind_eq_bind, Option.bind_some] at hu'
      rw [if_neg (show ¬ (decide ((-1 : Int) ≥ 0)) = true by decide), dplace S hs _ _ k b (by omega) hbl.2.1] at hu'
      simp only [Option.bind_some] at hu'
      rw [if_pos hE]
      refine ⟨fun c p h => (by cases h), ?_⟩
      intro t e h
      cases h
      refine ⟨ha, Nat.le_refl _, .inl rfl, S.size, Nat.le_refl _, ?_⟩
      rw [hE] at hu'; exact hu'
    · have hlt : b < S.size := by omega
      have hb := tkE_b hlt
      rw [if_pos (decide_eq_true (by simp only; omega))] at hu'
      simp only at hu'
      rw [token_d S hs b hlt] at hu'
      simp only [Option.bind_eq_bind, Option.bind_some] at hu'
      rw [if_neg hE]
      cases hT : tkE S b with
      | inl x =>
        obtain ⟨c0, p0⟩ := x
        have hc := hb.1 c0 p0 hT
        rw [hT] at hu'
        unfold tkD at hu'
        simp only at hu'
        rw [if_neg (by rw [beq_iff_eq]; exact hc.1)] at hu'
        simp only [Option.bind_some] at hu'
        rw [if_pos (decide_eq_true (by omega)), dplace S hs _ _ k p0 (by omega) hc.2.2] at hu'
        simp only [Option.bind_some] at hu'
        refine ⟨?_, fun t e h => (by cases h)⟩
        intro c p h
        simp only [Sum.inl.injEq, Prod.mk.injEq] at h
        obtain ⟨rfl, rfl⟩ := h
        exact ⟨hc.1, hc.2.2, _, hu'⟩
      | inr x =>
        obtain ⟨k0, t0, v0, e0⟩ := x
        have hc := hb.2 k0 t0 v0 e0 hT
        rw [hT] at hu'
        unfold tkD at hu'
        simp only at hu'
        rw [if_pos (by rfl)] at hu'
        simp only [Option.bind_some] at hu'
        rw [if_neg (show ¬ (decide ((-1 : Int) ≥ 0)) = true by decide), dplace S hs _ _ k b (by omega) hbl.2.1] at hu'
        simp only [Option.bind_some] at hu'
        refine ⟨fun c p h => (by cases h), ?_⟩
        intro t e h
        simp only [Sum.inr.injEq, Prod.mk.injEq] at h
        obtain ⟨rfl, rfl⟩ := h
        exact ⟨by omega, hc.2.2, .inr (by omega), b, by omega, hu'⟩
end Go.Proofs.YtboejepakdnbgaaGreatDoor.K
