/- Check, Code, Decode are the document's; the law answers true. -/
import Derived.Test.YteppciglfdiljaaL2
set_option linter.unusedVariables false
set_option linter.unusedSimpArgs false
namespace Go.Proofs.Yteppciglfdiljaa.K
open Go

theorem gt_cut (V : Vector Int 48) (m n : Nat) (hm : m ≤ 48) (t : Int) (ht : 0 ≤ t) (h : n + t < m) : gt ((V.toList.take m).drop n) t = vget V (n + t) := by
  unfold gt vget
  rw [List.getD_eq_getElem?_getD, List.getD_eq_getElem?_getD, List.getElem?_drop, List.getElem?_take]
  rw [if_pos (by omega), show n + t.toNat = (n + t).toNat by omega]
  rfl
theorem len_cut (V : Vector Int 48) (m n : Nat) (hm : m ≤ 48) : ((V.toList.take m).drop n).length = m - n := by
  simp only [List.length_drop, List.length_take, Vector.length_toList]; omega

theorem check_loops (a : api_Final) (hN : 0 ≤ a.N) (hN' : a.N ≤ 48) (m : Nat) : ∀ t : Int, 0 ≤ t → a.N + t + m = 48 →
    ∃ x, state_Check.l0 a t = some x ∧ weirref10_Check.l0 a (a.N + t) = some x ∧ (x = .inl () ∨ x = .inr 4) := by
  have hl := len_cut a.V 48 a.N.toNat (by omega)
  induction m with
  | zero =>
    intro t h0 h1
    refine ⟨.inl (), ?_, ?_, .inl rfl⟩
    · rw [state_Check.l0, hl, if_neg (by simp; omega)]
    · rw [weirref10_Check.l0, if_neg (by simp; omega)]
  | succ m ih =>
    intro t h0 h1
    have hg : gt ((a.V.toList.take 48).drop a.N.toNat) t = vget a.V (a.N + t) := by
      rw [gt_cut a.V 48 a.N.toNat (by omega) t h0 (by omega), show ((a.N.toNat : Int) + t) = a.N + t by omega]
    by_cases hz : vget a.V (a.N + t) = 0
    · obtain ⟨x, i1, i2, i3⟩ := ih (t + 1) (by omega) (by omega)
      refine ⟨x, ?_, ?_, i3⟩
      · rw [state_Check.l0, hl, if_pos (by simp; omega), if_pos (by omega), hg, if_neg (by simp [hz]), wi64_id (by omega) (by omega)]; exact i1
      · rw [weirref10_Check.l0, if_pos (by simp; omega), if_pos (by omega), if_neg (by simp [hz]), wi64_id (by omega) (by omega), show a.N + t + 1 = a.N + (t + 1) by omega]; exact i2
    · refine ⟨.inr 4, ?_, ?_, .inr rfl⟩
      · rw [state_Check.l0, hl, if_pos (by simp; omega), if_pos (by omega), hg, if_pos (by simp [hz])]
      · rw [weirref10_Check.l0, if_pos (by simp; omega), if_pos (by omega), if_pos (by simp [hz])]

theorem check_same (a : api_Final) : ∃ c, state_Check.f a = some c ∧ weirref10_Check.f a = some c ∧ (c = 4 ∨ c = 0 ∧ 0 ≤ a.N ∧ a.N ≤ 48) := by
  unfold state_Check.f weirref10_Check.f
  by_cases h0 : a.N < 0
  · have e0 : decide (a.N < 0) = true := by simpa using h0
    exact ⟨4, by simp [e0], by simp [e0], .inl rfl⟩
  · have e0 : decide (a.N < 0) = false := by simpa using h0
    by_cases h1 : a.N > 48
    · have e1 : decide (a.N > 48) = true := by simpa using h1
      exact ⟨4, by simp [e0, e1], by simp [e0, e1], .inl rfl⟩
    · have e1 : decide (a.N > 48) = false := by simpa using h1
      obtain ⟨x, i1, i2, i3⟩ := check_loops a (by omega) (by omega) (48 - a.N.toNat) 0 (by omega) (by omega)
      rw [show a.N + 0 = a.N by omega] at i2
      simp only [e0, e1, Bool.false_eq_true, if_false, if_pos (show 0 ≤ a.N ∧ a.N ≤ 48 by omega), i1, i2, Option.bind_eq_bind, Option.bind_some]
      rcases i3 with rfl | rfl
      · exact ⟨0, rfl, rfl, .inr ⟨rfl, by omega, by omega⟩⟩
      · exact ⟨4, rfl, rfl, .inl rfl⟩

def inR (x : Int) : Prop := -9223372036854775808 ≤ x ∧ x ≤ 9223372036854775807

theorem code_loops (a : api_Final) (hV : ∀ i, inR (vget a.V i)) (hN : 0 ≤ a.N) (hN' : a.N ≤ 48) (m : Nat) : ∀ (t : Int) (s : ByteArray), 0 ≤ t → t + m = a.N → s.size + 10 * m ≤ 10000 →
    ∃ r, state_Code.l0 a t s = some r ∧ weirref10_Code.l0 a s t = some r := by
  have hl := len_cut a.V a.N.toNat 0 (by omega)
  induction m with
  | zero =>
    intro t s h0 h1 h2
    refine ⟨s, ?_, ?_⟩
    · rw [state_Code.l0, hl, if_neg (by simp; omega)]
    · rw [weirref10_Code.l0, if_neg (by simp; omega)]
  | succ m ih =>
    intro t s h0 h1 h2
    have hg : gt ((a.V.toList.take a.N.toNat).drop 0) t = vget a.V t := by
      rw [gt_cut a.V a.N.toNat 0 (by omega) t h0 (by omega), show (((0 : Nat) : Int) + t) = t by omega]
    obtain ⟨q, p1, p2, p3⟩ := put_same (vget a.V t) (hV t).1 (hV t).2
    have hs : (s ++ q).size = s.size + q.size := ByteArray.size_append
    obtain ⟨r, i1, i2⟩ := ih (t + 1) (s ++ q) (by omega) (by omega) (by rw [hs]; omega)
    refine ⟨r, ?_, ?_⟩
    · rw [state_Code.l0, hl, if_pos (by simp; omega), if_pos (by omega), hg, p1]
      simp only [Option.bind_eq_bind, Option.bind_some]
      rw [if_pos (by omega), wi64_id (by omega) (by omega)]; exact i1
    · rw [weirref10_Code.l0, if_pos (by simp; omega), if_pos (by omega), p2]
      simp only [Option.bind_eq_bind, Option.bind_some]
      rw [if_pos (by omega), wi64_id (by omega) (by omega)]; exact i2

theorem code_same (a : api_Final) (hA : inR a.N) (hV : ∀ i, inR (vget a.V i)) : ∃ r, state_Code.f a = some r ∧ weirref10_Code.f a = some r := by
  unfold state_Code.f weirref10_Code.f
  obtain ⟨c, c1, c2, c3⟩ := check_same a
  rw [c1, c2]
  simp only [Option.bind_eq_bind, Option.bind_some]
  rcases c3 with rfl | ⟨rfl, h0, h1⟩
  · exact ⟨(⟨#[]⟩, 4), rfl, rfl⟩
  · obtain ⟨q, p1, p2, p3⟩ := put_same a.N hA.1 hA.2
    have he : (⟨#[]⟩ : ByteArray) ++ q = q := ByteArray.empty_append
    obtain ⟨r, i1, i2⟩ := code_loops a hV h0 h1 a.N.toNat 0 q (by omega) (by omega) (by omega)
    refine ⟨(r, 0), ?_, ?_⟩
    · rw [if_neg (by decide), p1]
      simp only [Option.bind_some]
      rw [if_pos (by have : (⟨#[]⟩ : ByteArray).size = 0 := rfl; omega), if_pos ⟨h0, h1⟩, he, i1]; rfl
    · rw [if_neg (by decide), p2]
      simp only [Option.bind_some]
      rw [i2]; rfl

theorem decode_loops (s : ByteArray) (hs : (s.size : Int) ≤ 281474976710656) (u8 : Int × Int × Int) (h8 : u8.1 ≤ 48) (m : Nat) : ∀ (p t : Int) (f : api_Final), f.N = u8.1 → 0 ≤ t → (t + m = u8.1 ∨ m = 0 ∧ u8.1 ≤ t) →
    ∃ x, state_Decode.l0 s u8 p t f = some x ∧ weirref10_Decode.l0 s p t f = some x := by
  induction m with
  | zero =>
    intro p t f hf h0 h1
    refine ⟨.inl (p, f), ?_, ?_⟩
    · rw [state_Decode.l0, if_neg (by simp; omega)]
    · rw [weirref10_Decode.l0, if_neg (by simp; omega)]
  | succ m ih =>
    intro p t f hf h0 h1
    obtain ⟨r, r1, r2⟩ := take_same s hs p
    have hlt : t < u8.1 := by omega
    by_cases hr : r.2.2 = 0
    · obtain ⟨x, i1, i2⟩ := ih (IntKind.i64.wrap (p + r.2.1)) (t + 1) ⟨f.N, vset f.V t r.1⟩ hf (by omega) (by omega)
      refine ⟨x, ?_, ?_⟩
      · rw [state_Decode.l0, if_pos (by simpa using hlt), r1]
        simp only [Option.bind_eq_bind, Option.bind_some]
        rw [if_neg (by simp [hr]), if_pos (by omega), wi64_id (n := t + 1) (by omega) (by omega)]; exact i1
      · rw [weirref10_Decode.l0, if_pos (by simp; omega), r2]
        simp only [Option.bind_eq_bind, Option.bind_some]
        rw [if_neg (by simp [hr]), if_pos (by omega), wi64_id (n := t + 1) (by omega) (by omega)]; exact i2
    · refine ⟨.inr (⟨0, Vector.replicate 48 0⟩, 5), ?_, ?_⟩
      · rw [state_Decode.l0, if_pos (by simpa using hlt), r1]
        simp only [Option.bind_eq_bind, Option.bind_some]
        rw [if_pos (by simp [hr])]
      · rw [weirref10_Decode.l0, if_pos (by simp; omega), r2]
        simp only [Option.bind_eq_bind, Option.bind_some]
        rw [if_pos (by simp [hr])]

theorem decode_same (s : ByteArray) (hs : (s.size : Int) ≤ 281474976710656) : ∃ r, state_Decode.f s = some r ∧ weirref10_Decode.f s = some r := by
  unfold state_Decode.f weirref10_Decode.f
  obtain ⟨r, r1, r2⟩ := take_same s hs 0
  rw [r1, r2]
  simp only [Option.bind_eq_bind, Option.bind_some]
  by_cases hr : r.2.2 = 0
  · by_cases h0 : r.1 < 0
    · have e0 : decide (r.1 < 0) = true := by simpa using h0
      exact ⟨(⟨0, Vector.replicate 48 0⟩, 5), by simp [hr, e0], by simp [hr, e0]⟩
    · have e0 : decide (r.1 < 0) = false := by simpa using h0
      by_cases h1 : r.1 > 48
      · have e1 : decide (r.1 > 48) = true := by simpa using h1
        exact ⟨(⟨0, Vector.replicate 48 0⟩, 5), by simp [hr, e0, e1], by simp [hr, e0, e1]⟩
      · have e1 : decide (r.1 > 48) = false := by simpa using h1
        obtain ⟨x, i1, i2⟩ := decode_loops s hs r (by omega) r.1.toNat r.2.1 0 ⟨r.1, Vector.replicate 48 0⟩ rfl (by omega) (by omega)
        rw [if_neg (by simp [hr]), if_neg (by simp [e0]), if_neg (by simp [e1]), i1, i2]
        simp only [Option.bind_some]
        cases x with
        | inl y =>
          by_cases hy : y.1 = s.size
          · refine ⟨(y.2, 0), ?_, ?_⟩
            · simp [hy]
            · simp [hr, e0, e1, hy]
          · refine ⟨(⟨0, Vector.replicate 48 0⟩, 5), ?_, ?_⟩
            · simp [hy]
            · simp [hr, e0, e1, hy]
        | inr y => exact ⟨y, rfl, by simp [hr, e0, e1]⟩
  · exact ⟨(⟨0, Vector.replicate 48 0⟩, 5), by simp [hr], by simp [hr]⟩

theorem codes_true (a : api_Final) (s : ByteArray) (hA : inR a.N) (hV : ∀ i, inR (vget a.V i)) (hs : (s.size : Int) ≤ 281474976710656) : weirlaw10_StateCodes.f a s = some true := by
  obtain ⟨x, x1, x2⟩ := code_same a hA hV
  obtain ⟨y, y1, y2⟩ := decode_same s hs
  unfold weirlaw10_StateCodes.f
  rw [x1, x2, y1, y2]
  simp [seq, weirlaw10_num.f]
end Go.Proofs.Yteppciglfdiljaa.K
