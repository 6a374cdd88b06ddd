/- word: Put and Take are the document's. -/
import Derived.Test.YteppciglfdiljaaKN
import Derived.Test.YteppciglfdiljaaF4
set_option linter.unusedVariables false
set_option linter.unusedSimpArgs false
namespace Go.Proofs.Yteppciglfdiljaa.K
open Go

theorem put_loops (n : Nat) : ∀ (t : Int) (xs : List Int), 0 ≤ t → t < 128 ^ (n + 1) → t ≤ 18446744073709551615 → xs.length + n ≤ 1000 →
    ∃ u ys, word_Put.l0 t xs = some (u, ys) ∧ weirref04_Put.l0 t xs = some (u, ys) ∧ ys.length ≤ xs.length + n := by
  induction n with
  | zero =>
    intro t xs h0 h1 h2 hx
    have hd : decide (t ≥ 128) = false := by simp at h1 ⊢; omega
    refine ⟨t, xs, ?_, ?_, by omega⟩
    · rw [word_Put.l0]; simp [hd]
    · rw [weirref04_Put.l0]; simp [hd]
  | succ n ih =>
    intro t xs h0 h1 h2 hx
    by_cases hd : t ≥ 128
    · have e1 : shrI .u64 t 7 = t / 128 := by rw [shr7, fdiv_pos (by omega)]
      have e2 : IntKind.u64.wrap (t.tdiv 128) = t / 128 := by rw [tdiv_pos' h0, wu64_id (by omega) (by omega)]
      have e3 : bor .u8 (IntKind.u8.wrap t) 128 = t % 128 + 128 := by rw [wu8, bor128 (by omega) (by omega)]; omega
      have e4 : IntKind.u8.wrap ((IntKind.u8.wrap (t.tmod 128)) + 128) = t % 128 + 128 := by rw [tmod_pos' h0, wu8, wu8]; omega
      have hp : (128 : Int) ^ (n + 1 + 1) = 128 ^ (n + 1) * 128 := Int.pow_succ _ _
      obtain ⟨u, ys, i1, i2, i3⟩ := ih (t / 128) (xs ++ [t % 128 + 128]) (by omega) (by omega) (by omega) (by simp; omega)
      refine ⟨u, ys, ?_, ?_, by simp at i3; omega⟩
      · rw [word_Put.l0, if_pos (by simpa using hd), if_pos (by omega), e1, e3]; exact i1
      · rw [weirref04_Put.l0, if_pos (by simpa using hd), if_pos (by omega), e2, e4]; exact i2
    · have hd' : decide (t ≥ 128) = false := by simp; omega
      refine ⟨t, xs, ?_, ?_, by omega⟩
      · rw [word_Put.l0]; simp [hd']
      · rw [weirref04_Put.l0]; simp [hd']

theorem ofBytes_size (xs : List Int) : (ofBytes xs).size = xs.length := by simp [ofBytes, ByteArray.size]

theorem put_same (v : Int) (h0 : -9223372036854775808 ≤ v) (h1 : v ≤ 9223372036854775807) : ∃ s, word_Put.f v = some s ∧ weirref04_Put.f v = some s ∧ s.size ≤ 10 := by
  have key : ∀ t : Int, 0 ≤ t → t ≤ 18446744073709551615 → ∃ s, (word_Put.l0 t [] >>= (fun (t5, t6) => (if (t6.length + 1) * 1 ≤ 140737488355328 then some ((ofBytes (t6 ++ [(IntKind.u8.wrap t5)]))) else none))) = some s ∧
      (weirref04_Put.l0 t [] >>= (fun (t14, t15) => (if (t15.length + 1) * 1 ≤ 140737488355328 then some ((ofBytes (t15 ++ [(IntKind.u8.wrap t14)]))) else none))) = some s ∧ s.size ≤ 10 := by
    intro t ht0 ht1
    obtain ⟨u, ys, i1, i2, i3⟩ := put_loops 9 t [] ht0 (by omega) ht1 (by simp)
    refine ⟨ofBytes (ys ++ [IntKind.u8.wrap u]), ?_, ?_, ?_⟩
    · rw [i1]; simp only [Option.bind_eq_bind, Option.bind_some]; rw [if_pos (by simp at i3; omega)]
    · rw [i2]; simp only [Option.bind_eq_bind, Option.bind_some]; rw [if_pos (by simp at i3; omega)]
    · rw [ofBytes_size]; simp at i3 ⊢; omega
  unfold word_Put.f weirref04_Put.f
  by_cases hv : v < 0
  · have e1 : bxor .u64 (IntKind.u64.wrap (shlI .i64 v 1)) (IntKind.u64.wrap (shrI .i64 v 63)) = -2 * v - 1 := by
      have : IntKind.u64.wrap (shrI .i64 v 63) = 18446744073709551615 := by rw [shr63, fdiv_pos (by omega), wu64]; omega
      rw [this, bxor_um', shl1_i, wi64, wu64]; omega
    have e2 : bxor .u64 18446744073709551615 (shlI .u64 (IntKind.u64.wrap v) 1) = -2 * v - 1 := by
      rw [bxor_um, shl1_u, wu64, wu64]; omega
    have hd : decide (v < 0) = true := by simpa using hv
    obtain ⟨s, k1, k2, k3⟩ := key (-2 * v - 1) (by omega) (by omega)
    refine ⟨s, ?_, ?_, k3⟩
    · rw [e1]; exact k1
    · rw [hd]; simp only [if_true, Option.bind_eq_bind, Option.bind_some, e2]; exact k2
  · have e1 : bxor .u64 (IntKind.u64.wrap (shlI .i64 v 1)) (IntKind.u64.wrap (shrI .i64 v 63)) = 2 * v := by
      have : IntKind.u64.wrap (shrI .i64 v 63) = 0 := by rw [shr63, fdiv_pos (by omega), wu64]; omega
      rw [this, bxor_u0, shl1_i, wi64, wu64, wu64]; omega
    have e2 : shlI .u64 (IntKind.u64.wrap v) 1 = 2 * v := by
      rw [shl1_u, wu64, wu64]; omega
    have hd : decide (v < 0) = false := by simpa using hv
    obtain ⟨s, k1, k2, k3⟩ := key (2 * v) (by omega) (by omega)
    refine ⟨s, ?_, ?_, k3⟩
    · rw [e1]; exact k1
    · rw [hd]; simp only [Bool.false_eq_true, if_false, Option.bind_eq_bind, Option.bind_some, e2]; exact k2
end Go.Proofs.Yteppciglfdiljaa.K
