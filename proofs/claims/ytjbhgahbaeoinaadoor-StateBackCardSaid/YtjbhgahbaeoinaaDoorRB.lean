/- A number's code: it is taken back, and what is taken is a code. -/
import Derived.Test.YtjbhgahbaeoinaaDoorRW
set_option linter.unusedVariables false
set_option linter.unusedSimpArgs false
set_option maxRecDepth 100000
namespace Go.Proofs.YtjbhgahbaeoinaaDoor.K
open Go

/-- The code of a natural number: seven bits a byte, the lowest first. -/
def pcode (u : Nat) : List Int := if u < 128 then [(u : Int)] else ((u % 128 + 128 : Nat) : Int) :: pcode (u / 128)
termination_by u
decreasing_by omega
theorem pcode_lt {u : Nat} (h : u < 128) : pcode u = [(u : Int)] := by rw [pcode, if_pos h]
theorem pcode_ge {u : Nat} (h : ¬ u < 128) : pcode u = ((u % 128 + 128 : Nat) : Int) :: pcode (u / 128) := by rw [pcode, if_neg h]
theorem pcode_byte (u : Nat) : ∀ x ∈ pcode u, 0 ≤ x ∧ x < 256 := by
  induction u using Nat.strongRecOn with
  | _ u ih =>
    intro x hx
    by_cases h : u < 128
    · rw [pcode_lt h, List.mem_singleton] at hx; omega
    · rw [pcode_ge h] at hx
      rcases List.mem_cons.1 hx with rfl | hx
      · omega
      · exact ih (u / 128) (by omega) x hx
theorem pcode_pos (u : Nat) : 1 ≤ (pcode u).length := by
  rw [pcode]; split <;> simp
theorem pcode_len (n : Nat) : ∀ u, u < 128 ^ (n + 1) → (pcode u).length ≤ n + 1 := by
  induction n with
  | zero => intro u hu; rw [pcode_lt (by omega)]; simp
  | succ n ih =>
    intro u hu
    by_cases h : u < 128
    · rw [pcode_lt h]; simp
    · rw [pcode_ge h, List.length_cons]
      have hp : 128 ^ (n + 1 + 1) = 128 ^ (n + 1) * 128 := Nat.pow_succ ..
      have := ih (u / 128) (by omega)
      omega
/-- Taking one: the value and how many bytes. -/
def tcode : List Int → Nat → Nat → Option (Nat × Nat)
  | [], _, _ => none
  | c :: r, n, acc => if 10 ≤ n then none else if n = 9 ∧ c > 1 then none else if c < 128 then (if c = 0 ∧ 0 < n then none else some (acc + (c % 128).toNat * 128 ^ n, n + 1)) else tcode r (n + 1) (acc + (c % 128).toNat * 128 ^ n)
theorem pow9 : (128 : Nat) ^ 9 = 9223372036854775808 := by decide
theorem pow_le9 {n : Nat} (h : n ≤ 8) : (128 : Nat) ^ n * 128 ≤ 9223372036854775808 := by
  have : (128 : Nat) ^ (n + 1) ≤ 128 ^ 9 := Nat.pow_le_pow_right (by decide) (by omega)
  rw [pow9, Nat.pow_succ] at this; exact this
theorem pow_pos' (n : Nat) : 0 < (128 : Nat) ^ n := Nat.pow_pos (by decide)
theorem split128 (w P : Nat) : w * P = w / 128 * (P * 128) + w % 128 * P := by
  conv => lhs; rw [← Nat.div_add_mod w 128]
  rw [Nat.add_mul, Nat.mul_comm 128 (w / 128), Nat.mul_assoc, Nat.mul_comm 128 P]
theorem take_put (rest : List Int) : ∀ (w n acc : Nat), n ≤ 9 → w * 128 ^ n < 18446744073709551616 → (n = 0 ∨ 0 < w) → tcode (pcode w ++ rest) n acc = some (acc + w * 128 ^ n, n + (pcode w).length) := by
  intro w
  induction w using Nat.strongRecOn with
  | _ w ih =>
    intro n acc hn hw h0
    by_cases h : w < 128
    · rw [pcode_lt h]
      simp only [List.cons_append, List.nil_append, tcode, List.length_cons, List.length_nil]
      have h9 : ¬ (n = 9 ∧ (w : Int) > 1) := by
        rintro ⟨rfl, h1⟩
        rw [pow9] at hw; omega
      have hz : ¬ ((w : Int) = 0 ∧ 0 < n) := by omega
      rw [if_neg (by omega), if_neg h9, if_pos (by omega), if_neg hz, show ((w : Int) % 128).toNat = w by omega]
    · rw [pcode_ge h]
      have hn8 : n ≤ 8 := by
        by_cases e : n = 9
        · subst e; rw [pow9] at hw; omega
        · omega
      have hs := split128 w (128 ^ n)
      have hp : 128 ^ (n + 1) = 128 ^ n * 128 := Nat.pow_succ ..
      simp only [List.cons_append, tcode, List.length_cons]
      rw [if_neg (by omega), if_neg (by omega), if_neg (by omega), show (((w % 128 + 128 : Nat) : Int) % 128).toNat = w % 128 by omega]
      rw [ih (w / 128) (by omega) (n + 1) _ (by omega) (by rw [hp]; omega) (.inr (by omega)), hp]
      congr 2
      · omega
      · omega
theorem take_inv : ∀ (bs : List Int) (n acc u k : Nat), (∀ x ∈ bs, 0 ≤ x ∧ x < 256) → tcode bs n acc = some (u, k) → n ≤ 9 ∧ ∃ w rest, bs = pcode w ++ rest ∧ u = acc + w * 128 ^ n ∧ k = n + (pcode w).length ∧ w * 128 ^ n < 18446744073709551616 ∧ (n = 0 ∨ 0 < w)
  | [], _, _, _, _, _, h => by cases h
  | c :: r, n, acc, u, k, hb, h => by
    obtain ⟨c0, c1⟩ := hb c (List.mem_cons_self ..)
    simp only [tcode] at h
    by_cases h10 : 10 ≤ n
    · rw [if_pos h10] at h; cases h
    · rw [if_neg h10] at h
      refine ⟨by omega, ?_⟩
      by_cases h9 : n = 9 ∧ c > 1
      · rw [if_pos h9] at h; cases h
      · rw [if_neg h9] at h
        by_cases hc : c < 128
        · rw [if_pos hc] at h
          by_cases hz : c = 0 ∧ 0 < n
          · rw [if_pos hz] at h; cases h
          · rw [if_neg hz] at h
            cases h
            have e1 : (c % 128).toNat = c.toNat := by omega
            refine ⟨c.toNat, r, ?_, by rw [e1], ?_, ?_, by omega⟩
            · rw [pcode_lt (by omega)]; simp; omega
            · rw [pcode_lt (by omega)]; rfl
            · by_cases e : n = 9
              · subst e; rw [pow9]; omega
              · have := pow_le9 (n := n) (by omega)
                have h2 : c.toNat * 128 ^ n ≤ 128 * 128 ^ n := Nat.mul_le_mul_right _ (by omega)
                rw [Nat.mul_comm 128] at h2; omega
        · rw [if_neg hc] at h
          obtain ⟨i0, w, rest, i1, i2, i3, i4, i5⟩ := take_inv r (n + 1) _ u k (fun x hx => hb x (List.mem_cons_of_mem _ hx)) h
          have hp : 128 ^ (n + 1) = 128 ^ n * 128 := Nat.pow_succ ..
          have hw : 0 < w := by omega
          have hs := split128 (w * 128 + (c % 128).toNat) (128 ^ n)
          have e1 : (w * 128 + (c % 128).toNat) / 128 = w := by omega
          have e2 : (w * 128 + (c % 128).toNat) % 128 = (c % 128).toNat := by omega
          rw [e1, e2] at hs
          rw [hp] at i2 i4
          refine ⟨w * 128 + (c % 128).toNat, rest, ?_, by omega, ?_, ?_, .inr (by omega)⟩
          · rw [pcode_ge (by omega), e1, e2, List.cons_append, ← i1]
            congr 1; omega
          · rw [pcode_ge (by omega), e1, List.length_cons]; omega
          · have h1 : (c % 128).toNat * 128 ^ n < 128 * 128 ^ n := Nat.mul_lt_mul_of_pos_right (by omega) (pow_pos' n)
            have h2 : n ≤ 8 := by omega
            have h3 := pow_le9 h2
            by_cases e : n = 8
            · subst e
              have e8 : (128 : Nat) ^ 8 * 128 = 9223372036854775808 := by decide
              rw [e8] at i4
              have hw1 : w ≤ 1 := by
                rcases Nat.lt_or_ge 1 w with h | h
                · have : 2 * 9223372036854775808 ≤ w * 9223372036854775808 := Nat.mul_le_mul_right _ h
                  exact absurd (Nat.lt_of_le_of_lt this i4) (by decide)
                · exact h
              have h7 : (w * 128 + (c % 128).toNat) * 128 ^ 8 ≤ 255 * 128 ^ 8 := Nat.mul_le_mul_right _ (by omega)
              exact Nat.lt_of_le_of_lt h7 (by decide)
            · have h5 : (128 : Nat) ^ n * 128 * 128 ≤ 9223372036854775808 := by
                have := pow_le9 (n := n + 1) (by omega)
                rw [hp] at this; exact this
              have h6 : ∃ q, 18446744073709551616 = 128 ^ n * 128 * q := by
                refine ⟨2 ^ (64 - 7 * n - 7), ?_⟩
                have : (128 : Nat) = 2 ^ 7 := by decide
                rw [this, ← Nat.pow_mul, ← Nat.pow_add, ← Nat.pow_add, show 7 * n + 7 + (64 - 7 * n - 7) = 64 by omega]
              obtain ⟨q, hq⟩ := h6
              have h7 : w < q := by
                rw [hq, Nat.mul_comm (128 ^ n * 128) q] at i4
                exact Nat.lt_of_mul_lt_mul_right i4
              have h8 : (w + 1) * (128 ^ n * 128) ≤ q * (128 ^ n * 128) := Nat.mul_le_mul_right _ h7
              rw [Nat.add_mul, Nat.one_mul, Nat.mul_comm q, ← hq] at h8
              rw [Nat.mul_comm 128] at h1
              omega
/-- Codes are told apart by what they begin with. -/
theorem put_cancel {u v : Nat} {r s : List Int} (hu : u < 18446744073709551616) (hv : v < 18446744073709551616) (h : pcode u ++ r = pcode v ++ s) : u = v ∧ r = s := by
  have h1 := take_put r u 0 0 (by omega) (by simpa using hu) (.inl rfl)
  have h2 := take_put s v 0 0 (by omega) (by simpa using hv) (.inl rfl)
  rw [h, h2] at h1
  have h3 : u = v := by
    have := congrArg Prod.fst (Option.some.inj h1)
    simp at this; omega
  subst h3
  exact ⟨rfl, List.append_cancel_left h⟩
/-- Whole numbers as natural ones. -/
def zig (v : Int) : Nat := if v < 0 then (-2 * v - 1).toNat else (2 * v).toNat
def zag (u : Nat) : Int := if u % 2 = 1 then -((u / 2 : Nat) : Int) - 1 else ((u / 2 : Nat) : Int)
def inR (x : Int) : Prop := -9223372036854775808 ≤ x ∧ x ≤ 9223372036854775807
theorem zig_lt {v : Int} (h : inR v) : zig v < 18446744073709551616 := by
  obtain ⟨h0, h1⟩ := h
  unfold zig; split <;> omega
theorem zag_zig (v : Int) : zag (zig v) = v := by
  unfold zag zig
  by_cases h : v < 0
  · rw [if_pos h, if_pos (by omega)]; omega
  · rw [if_neg h, if_neg (by omega)]; omega
theorem zig_zag (u : Nat) : zig (zag u) = u := by
  unfold zag zig
  by_cases h : u % 2 = 1
  · rw [if_pos h, if_pos (by omega)]; omega
  · rw [if_neg h, if_neg (by omega)]; omega
theorem zag_in {u : Nat} (h : u < 18446744073709551616) : inR (zag u) := by
  unfold zag inR; split <;> omega
end Go.Proofs.YtjbhgahbaeoinaaDoor.K
