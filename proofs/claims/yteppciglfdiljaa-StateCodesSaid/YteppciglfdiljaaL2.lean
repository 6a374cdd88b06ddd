/- word.Take is the document's. -/
import Derived.Test.YteppciglfdiljaaL1
set_option linter.unusedVariables false
set_option linter.unusedSimpArgs false
namespace Go.Proofs.Yteppciglfdiljaa.K
open Go

def fin3 : Sum Unit (Int × Int × Int) → Int × Int × Int
  | .inl _ => (0, 0, 40)
  | .inr e => e

theorem take_val (U : Int) (h0 : 0 ≤ U) (h1 : U ≤ 18446744073709551615) :
    bxor .i64 (IntKind.i64.wrap (shrI .u64 U 1)) (IntKind.i64.wrap (0 - (IntKind.i64.wrap (band .u64 U 1)))) =
      if U % 2 = 1 then IntKind.i64.wrap ((IntKind.i64.wrap (0 - (IntKind.i64.wrap (shrI .u64 U 1)))) - 1) else IntKind.i64.wrap (shrI .u64 U 1) := by
  rw [band_u1, shr1, fdiv_pos (by omega), wi64_id (n := U / 2) (by omega) (by omega), wi64_id (n := U % 2) (by omega) (by omega)]
  split
  · rename_i h
    rw [h, wi64_id (n := 0 - 1) (by omega) (by omega), show (0 - 1 : Int) = -1 from rfl, bxor_i1, wi64_id (n := 0 - U / 2) (by omega) (by omega)]
    congr 1; omega
  · rename_i h
    rw [show U % 2 = 0 by omega, wi64_id (n := 0 - 0) (by omega) (by omega), show (0 - 0 : Int) = 0 from rfl, bxor_i0, wi64_id (by omega) (by omega)]

theorem take_loops (s : ByteArray) (a : Int) (ha : 0 ≤ a) (hs : (s.size : Int) ≤ 281474976710656) (hal : a < s.size) (n : Nat) : ∀ (u k : Int), k + n = 10 → 0 ≤ k →
    ∃ x y, word_Take.l0 s a u k = some x ∧ weirref04_Take.l0 s a u k = some y ∧ fin3 x = fin3 y := by
  induction n with
  | zero =>
    intro u k hk h0
    have hd : decide (k < 10) = false := by simp; omega
    refine ⟨.inl (), .inl (), ?_, ?_, rfl⟩
    · rw [word_Take.l0]; simp [hd]
    · rw [weirref04_Take.l0]; simp [hd]
  | succ n ih =>
    intro u k hk h0
    have hidx : IntKind.i64.wrap (a + k) = a + k := wi64_id (by omega) (by omega)
    have hk1 : IntKind.i64.wrap (k + 1) = k + 1 := wi64_id (by omega) (by omega)
    have hd : decide (k < 10) = true := by simp; omega
    have h7 : (0 : Int) ≤ IntKind.i64.wrap (7 * k) := by rw [wi64_id (by omega) (by omega)]; omega
    by_cases hi : a + k < s.size
    · have hdi : decide (a + k < (s.size : Int)) = true := by simpa using hi
      have hg : 0 ≤ a + k ∧ a + k < (s.size : Int) := ⟨by omega, hi⟩
      obtain ⟨c0, c1⟩ := byt_range s (a + k)
      generalize hc : byt s (a + k) = c at *
      have ec : IntKind.u64.wrap (band .u8 c 127) = c % 128 := by rw [band127 c0 c1, wu64_id (by omega) (by omega)]
      have ed : IntKind.u64.wrap (c.tmod 128) = c % 128 := by rw [tmod_pos' c0, wu64_id (by omega) (by omega)]
      obtain ⟨U0, U1⟩ := bor_u64_range u (shlI .u64 (c % 128) (IntKind.i64.wrap (7 * k)))
      generalize hU : bor .u64 u (shlI .u64 (c % 128) (IntKind.i64.wrap (7 * k))) = U at *
      by_cases h9 : k = 9 ∧ c > 1
      · obtain ⟨rfl, hc1⟩ := h9
        have hb9 : ((9 : Int) == 9) = true := rfl
        have hdc : decide (c > 1) = true := by simpa using hc1
        by_cases hd1 : c % 128 > 1
        · have hdd : decide (c % 128 > 1) = true := by simpa using hd1
          refine ⟨.inl (), .inr (0, 0, 40), ?_, ?_, rfl⟩
          · rw [word_Take.l0]; simp only [hidx, hc, hd, hdi, if_pos hg, hb9, hdc, if_true, Option.bind_eq_bind, Option.bind_some]
          · rw [weirref04_Take.l0]; simp only [hidx, hc, hd, hdi, if_pos hg, hb9, ed, hdd, if_true, Option.bind_eq_bind, Option.bind_some]
        · have hdd : decide (c % 128 > 1) = false := by simpa using hd1
          have hc128 : decide (c ≥ 128) = true := by simp; omega
          obtain ⟨x, y, i1, i2, i3⟩ := ih U 10 (by omega) (by omega)
          refine ⟨.inl (), y, ?_, ?_, ?_⟩
          · rw [word_Take.l0]; simp only [hidx, hc, hd, hdi, if_pos hg, hb9, hdc, if_true, Option.bind_eq_bind, Option.bind_some]
          · rw [weirref04_Take.l0]; simp only [hidx, hc, hd, hdi, if_pos hg, hb9, ed, hdd, if_true, if_false, Bool.false_eq_true, Option.bind_eq_bind, Option.bind_some, if_pos h7, hc128, hU, hk1]
            exact i2
          · rw [← i3]
            rw [word_Take.l0] at i1
            simp at i1
            rw [← i1]
      · -- no early end
        have p1 : (if (k == 9) = true then (if (decide (c > 1)) = true then some (Sum.inr (Sum.inl ())) else some (Sum.inl ())) else some (Sum.inl ()) : Option (Sum Unit (Sum Unit (Int × Int × Int)))) = some (.inl ()) := by
          by_cases h : k = 9
          · subst h
            have : decide (c > 1) = false := by simp; omega
            simp [this]
          · simp [h]
        have p2 : (if (k == 9) = true then (if (decide (c % 128 > 1)) = true then some (Sum.inr (Sum.inr (0, 0, 40))) else some (Sum.inl ())) else some (Sum.inl ()) : Option (Sum Unit (Sum Unit (Int × Int × Int)))) = some (.inl ()) := by
          by_cases h : k = 9
          · subst h
            have : decide (c % 128 > 1) = false := by simp; omega
            simp [this]
          · simp [h]
        by_cases h128 : c < 128
        · have e1 : decide (c < 128) = true := by simpa using h128
          have e2 : decide (c ≥ 128) = false := by simp; omega
          by_cases hz : c = 0 ∧ k > 0
          · obtain ⟨hz0, hz1⟩ := hz
            have e3 : (c == 0) = true := by simpa using hz0
            have e4 : decide (k > 0) = true := by simpa using hz1
            refine ⟨.inl (), .inr (0, 0, 40), ?_, ?_, rfl⟩
            · rw [word_Take.l0]; simp only [hidx, hc, hd, hdi, if_pos hg, if_true, p1, Option.bind_eq_bind, Option.bind_some, if_pos h7, e1, e3, e4]
            · rw [weirref04_Take.l0]; simp only [hidx, hc, hd, hdi, if_pos hg, ed, if_true, p2, Option.bind_eq_bind, Option.bind_some, if_pos h7, e2, e3, e4, Bool.false_eq_true, if_false]
          · have p3 : ∀ z : Sum Unit (Int × Int × Int), (if (c == 0) = true then (if (decide (k > 0)) = true then some (Sum.inr z) else some (Sum.inl ())) else some (Sum.inl ()) : Option (Sum Unit (Sum Unit (Int × Int × Int)))) = some (.inl ()) := by
              intro z
              by_cases h : c = 0
              · have : decide (k > 0) = false := by simp; omega
                simp [this]
              · simp [h]
            have hm : U.tmod 2 = U % 2 := tmod_pos' U0
            refine ⟨.inr (if U % 2 = 1 then IntKind.i64.wrap ((IntKind.i64.wrap (0 - (IntKind.i64.wrap (shrI .u64 U 1)))) - 1) else IntKind.i64.wrap (shrI .u64 U 1), k + 1, 0),
              .inr (if U % 2 = 1 then IntKind.i64.wrap ((IntKind.i64.wrap (0 - (IntKind.i64.wrap (shrI .u64 U 1)))) - 1) else IntKind.i64.wrap (shrI .u64 U 1), k + 1, 0), ?_, ?_, rfl⟩
            · rw [word_Take.l0]; simp only [hidx, hc, hd, hdi, if_pos hg, if_true, p1, Option.bind_eq_bind, Option.bind_some, if_pos h7, e1, p3, ec, hU, hk1, take_val U U0 U1]
            · rw [weirref04_Take.l0]; simp only [hidx, hc, hd, hdi, if_pos hg, ed, if_true, p2, Option.bind_eq_bind, Option.bind_some, if_pos h7, e2, p3, hU, hk1, Bool.false_eq_true, if_false, hm]
              by_cases h : U % 2 = 1
              · simp [h]
              · simp [h]
        · have e1 : decide (c < 128) = false := by simpa using h128
          have e2 : decide (c ≥ 128) = true := by simp; omega
          obtain ⟨x, y, i1, i2, i3⟩ := ih U (k + 1) (by omega) (by omega)
          refine ⟨x, y, ?_, ?_, i3⟩
          · rw [word_Take.l0]; simp only [hidx, hc, hd, hdi, if_pos hg, if_true, p1, Option.bind_eq_bind, Option.bind_some, if_pos h7, e1, ec, hU, hk1, Bool.false_eq_true, if_false]
            exact i1
          · rw [weirref04_Take.l0]; simp only [hidx, hc, hd, hdi, if_pos hg, ed, if_true, p2, Option.bind_eq_bind, Option.bind_some, if_pos h7, e2, hU, hk1]
            exact i2
    · have hdi : decide (a + k < (s.size : Int)) = false := by simpa using hi
      refine ⟨.inl (), .inl (), ?_, ?_, rfl⟩
      · rw [word_Take.l0]; simp [hidx, hd, hdi]
      · rw [weirref04_Take.l0]; simp [hidx, hd, hdi]

theorem take_same (s : ByteArray) (hs : (s.size : Int) ≤ 281474976710656) (a : Int) : ∃ r, word_Take.f s a = some r ∧ weirref04_Take.f s a = some r := by
  unfold word_Take.f weirref04_Take.f
  by_cases h0 : a < 0
  · have : decide (a < 0) = true := by simpa using h0
    exact ⟨(0, 0, 40), by simp [this], by simp [this]⟩
  · have e0 : decide (a < 0) = false := by simpa using h0
    by_cases h1 : a ≥ s.size
    · have : decide (a ≥ (s.size : Int)) = true := by simpa using h1
      exact ⟨(0, 0, 40), by simp [e0, this], by simp [e0, this]⟩
    · have e1 : decide (a ≥ (s.size : Int)) = false := by simpa using h1
      obtain ⟨x, y, i1, i2, i3⟩ := take_loops s a (by omega) hs (by omega) 10 0 0 (by omega) (by omega)
      refine ⟨fin3 x, ?_, ?_⟩
      · simp only [e0, e1, Bool.false_eq_true, if_false, i1, Option.bind_eq_bind, Option.bind_some]
        cases x <;> rfl
      · simp only [e0, e1, Bool.false_eq_true, if_false, i2, Option.bind_eq_bind, Option.bind_some]
        rw [i3]
        cases y <;> rfl
end Go.Proofs.Yteppciglfdiljaa.K
