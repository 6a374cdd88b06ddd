/- Small laws on the engine's numbers: wraps, bits. -/
import Derived.Test.YtfiamlhhhkiiaaaN6
set_option linter.unusedVariables false
set_option linter.unusedSimpArgs false
namespace Go.Proofs.Ytfiamlhhhkiiaaa.K
open Go

theorem wu8 (n : Int) : IntKind.u8.wrap n = n % 256 := by simp [IntKind.wrap, IntKind.bits, IntKind.signed]
theorem wu64 (n : Int) : IntKind.u64.wrap n = n % 18446744073709551616 := by simp [IntKind.wrap, IntKind.bits, IntKind.signed]
theorem wi64 (n : Int) : IntKind.i64.wrap n = (n + 9223372036854775808) % 18446744073709551616 - 9223372036854775808 := by
  simp only [IntKind.wrap, IntKind.bits, IntKind.signed]
  simp
  split <;> omega
theorem wi64_id {n : Int} (h0 : -9223372036854775808 ≤ n) (h1 : n ≤ 9223372036854775807) : IntKind.i64.wrap n = n := by rw [wi64]; omega
theorem wu64_id {n : Int} (h0 : 0 ≤ n) (h1 : n ≤ 18446744073709551615) : IntKind.u64.wrap n = n := by rw [wu64]; omega
theorem bits_i64 : IntKind.i64.bits = 64 := rfl
theorem bits_u64 : IntKind.u64.bits = 64 := rfl
theorem bits_u8 : IntKind.u8.bits = 8 := rfl
theorem ofInt_nat (n : Nat) (x : Int) : ((BitVec.ofInt n x).toNat : Int) = x % (2 ^ n : Nat) := by
  rw [BitVec.toNat_ofInt]
  refine Int.toNat_of_nonneg (Int.emod_nonneg _ ?_)
  have : 0 < 2 ^ n := Nat.two_pow_pos n
  omega
theorem xor0_64 (x : Int) : ((BitVec.ofInt 64 x ^^^ BitVec.ofInt 64 0).toNat : Int) = x % 18446744073709551616 := by
  have h : BitVec.ofInt 64 x ^^^ BitVec.ofInt 64 0 = BitVec.ofInt 64 x := by simp
  rw [h, ofInt_nat]; rfl
theorem xor1_64 (x : Int) : ((BitVec.ofInt 64 x ^^^ BitVec.ofInt 64 (-1)).toNat : Int) = 18446744073709551615 - x % 18446744073709551616 := by
  have h : BitVec.ofInt 64 x ^^^ BitVec.ofInt 64 (-1) = ~~~ BitVec.ofInt 64 x := by
    have : BitVec.ofInt 64 (-1) = BitVec.allOnes 64 := by decide
    rw [this, BitVec.xor_allOnes]
  rw [h, BitVec.toNat_not]
  have h1 := ofInt_nat 64 x
  have h2 := (BitVec.ofInt 64 x).isLt
  omega
theorem bxor_i0 (x : Int) : bxor .i64 x 0 = IntKind.i64.wrap x := by unfold bxor; rw [bits_i64, xor0_64, wi64, wi64]; omega
theorem bxor_i1 (x : Int) : bxor .i64 x (-1) = IntKind.i64.wrap (-x - 1) := by unfold bxor; rw [bits_i64, xor1_64, wi64, wi64]; omega
theorem bxor_u0 (x : Int) : bxor .u64 x 0 = IntKind.u64.wrap x := by unfold bxor; rw [bits_u64, xor0_64, wu64, wu64]; omega
theorem xor_m_64 (x : Int) : ((BitVec.ofInt 64 18446744073709551615 ^^^ BitVec.ofInt 64 x).toNat : Int) = 18446744073709551615 - x % 18446744073709551616 := by
  have h : BitVec.ofInt 64 18446744073709551615 = BitVec.ofInt 64 (-1) := by decide
  rw [h, BitVec.xor_comm]; exact xor1_64 x
theorem xor_m_64' (x : Int) : ((BitVec.ofInt 64 x ^^^ BitVec.ofInt 64 18446744073709551615).toNat : Int) = 18446744073709551615 - x % 18446744073709551616 := by rw [BitVec.xor_comm]; exact xor_m_64 x
theorem bxor_um (x : Int) : bxor .u64 18446744073709551615 x = 18446744073709551615 - x % 18446744073709551616 := by unfold bxor; rw [bits_u64, xor_m_64, wu64]; omega
theorem bxor_um' (x : Int) : bxor .u64 x 18446744073709551615 = 18446744073709551615 - x % 18446744073709551616 := by unfold bxor; rw [bits_u64, xor_m_64', wu64]; omega
theorem and1_64 (x : Int) : ((BitVec.ofInt 64 x &&& BitVec.ofInt 64 1).toNat : Int) = x % 2 := by
  rw [BitVec.toNat_and]
  have h1 := ofInt_nat 64 x
  have h2 : (BitVec.ofInt 64 1).toNat = 1 := by decide
  rw [h2, Nat.and_one_is_mod]
  omega
theorem band_u1 (x : Int) : band .u64 x 1 = x % 2 := by unfold band; rw [bits_u64, and1_64, wu64]; omega
theorem band_8 : ∀ n : Fin 256, band .u8 (n.1 : Int) 127 = (n.1 : Int) % 128 := by decide +kernel
theorem bor_8 : ∀ n : Fin 256, bor .u8 (n.1 : Int) 128 = (n.1 : Int) % 128 + 128 := by decide +kernel
theorem band127 {x : Int} (h0 : 0 ≤ x) (h1 : x < 256) : band .u8 x 127 = x % 128 := by
  have := band_8 ⟨x.toNat, by omega⟩
  simp only [Int.toNat_of_nonneg h0] at this; exact this
theorem bor128 {x : Int} (h0 : 0 ≤ x) (h1 : x < 256) : bor .u8 x 128 = x % 128 + 128 := by
  have := bor_8 ⟨x.toNat, by omega⟩
  simp only [Int.toNat_of_nonneg h0] at this; exact this
theorem bor_u64_range (x y : Int) : 0 ≤ bor .u64 x y ∧ bor .u64 x y ≤ 18446744073709551615 := by unfold bor; rw [wu64]; omega
theorem byt_range (s : ByteArray) (i : Int) : 0 ≤ byt s i ∧ byt s i < 256 := by
  unfold byt
  have := (s.data.toList.getD i.toNat 0).toNat_lt
  omega
theorem shr1 (x : Int) : shrI .u64 x 1 = x.fdiv 2 := rfl
theorem shr7 (x : Int) : shrI .u64 x 7 = x.fdiv 128 := rfl
theorem shr63 (x : Int) : shrI .i64 x 63 = x.fdiv 9223372036854775808 := rfl
theorem shl1_i (x : Int) : shlI .i64 x 1 = IntKind.i64.wrap (x * 2) := rfl
theorem shl1_u (x : Int) : shlI .u64 x 1 = IntKind.u64.wrap (x * 2) := rfl
theorem fdiv_pos {x y : Int} (hy : 0 ≤ y) : x.fdiv y = x / y := Int.fdiv_eq_ediv_of_nonneg x hy
theorem tdiv_pos' {x y : Int} (hx : 0 ≤ x) : x.tdiv y = x / y := Int.tdiv_eq_ediv_of_nonneg hx
theorem tmod_pos' {x y : Int} (hx : 0 ≤ x) : x.tmod y = x % y := Int.tmod_eq_emod_of_nonneg hx
end Go.Proofs.Ytfiamlhhhkiiaaa.K
