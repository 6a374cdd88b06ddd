/- A bundle's files, as the program and as the document find them; LitmusSplits. -/
import Derived.Test.YthlegnipdaikgaaDoorWA
set_option linter.unusedVariables false
set_option linter.unusedSimpArgs false
set_option maxRecDepth 100000
namespace Go.Proofs.YthlegnipdaikgaaDoor.K
open Go

def putP (s : ByteArray) (a b : Nat) (acc : List ByteArray) : List ByteArray := if hdB s a = true ∨ allB (s.extract a b) = false then acc ++ [s.extract a b] else acc
theorem putP_len (s : ByteArray) (a b : Nat) (acc : List ByteArray) : (putP s a b acc).length ≤ acc.length + 1 := by
  unfold putP; split <;> simp
theorem put_s (s : ByteArray) (hs : s.size ≤ 1048576) (a b : Nat) (acc : List ByteArray) (h1 : a ≤ b) (h2 : b ≤ s.size) (h3 : acc.length ≤ 2000000) : litmus_Split_1.f (b : Int) s (a : Int) acc = some ((b : Int), putP s a b acc) := by
  unfold litmus_Split_1.f
  have q : ∀ z : ByteArray, (acc.length + ([z] : List ByteArray).length) * 16 ≤ 140737488355328 := by intro z; simp only [List.length_cons, List.length_nil]; omega
  have hx : (s.extract a b).size ≤ 1048576 := by rw [size_extract s a b h2]; omega
  obtain ⟨t, t1, t2⟩ := trim_s (s.extract a b) hx
  rw [if_pos (by omega), begins_s s a (by omega) hs]
  simp only [Int.toNat_natCast, Option.bind_eq_bind, Option.bind_some, if_pos (q _), t1, t2]
  unfold putP
  cases hdB s a <;> cases allB (s.extract a b) <;> simp
def run (s : ByteArray) : Nat → Nat → Nat → List ByteArray → List ByteArray × Nat
  | 0, _, a, acc => (acc, a)
  | m + 1, i, a, acc => if hdB s i = true then run s m (i + 1) i (putP s a i acc) else run s m (i + 1) a acc
theorem prog_l (s : ByteArray) (hs : s.size ≤ 1048576) : ∀ (m i a : Nat) (acc : List ByteArray), i + m = s.size → a ≤ i → acc.length ≤ i → litmus_Split.l0 s (i : Int) acc (a : Int) = some ((run s m i a acc).1, ((run s m i a acc).2 : Int)) := by
  intro m
  induction m with
  | zero =>
    intro i a acc hi ha hl
    rw [litmus_Split.l0, if_neg (nt (decide_eq_false (by omega)))]; rfl
  | succ m ih =>
    intro i a acc hi ha hl
    rw [litmus_Split.l0, if_pos (decide_eq_true (by omega)), begins_s s i (by omega) hs]
    simp only [Option.bind_eq_bind, Option.bind_some, run]
    have hp := putP_len s a i acc
    by_cases h : hdB s i = true
    · rw [if_pos h, if_pos h, put_s s hs a i acc ha (by omega) (by omega)]
      simp only [Option.bind_some]
      rw [w1 (by omega), ih (i + 1) i _ (by omega) (by omega) (by omega)]
    · rw [if_neg h, if_neg h, w1 (by omega), ih (i + 1) a acc (by omega) (by omega) (by omega)]
theorem run_from (s : ByteArray) : ∀ (m i a : Nat) (acc : List ByteArray), i + m = s.size → a ≤ i → acc.length ≤ i → (run s m i a acc).2 ≤ s.size ∧ (run s m i a acc).1.length ≤ s.size := by
  intro m
  induction m with
  | zero => intro i a acc hi ha hl; exact ⟨by simp only [run]; omega, by simp only [run]; omega⟩
  | succ m ih =>
    intro i a acc hi ha hl
    have hp := putP_len s a i acc
    simp only [run]
    split
    · exact ih (i + 1) i _ (by omega) (by omega) (by omega)
    · exact ih (i + 1) a acc (by omega) (by omega) (by omega)
/-- The files. -/
def files (s : ByteArray) : List ByteArray := if s.size = 0 then [] else putP s (run s (s.size - 1) 1 0 []).2 s.size (run s (s.size - 1) 1 0 []).1
theorem clip_s (l : List ByteArray) : slices_Clip___string_string.f l = some l := by
  unfold slices_Clip___string_string.f
  rw [if_pos (by omega), Int.toNat_natCast, List.take_of_length_le (Nat.le_refl _)]
theorem prog_s (s : ByteArray) (hs : s.size ≤ 1048576) : litmus_Split.f s = some (files s) := by
  unfold litmus_Split.f files
  by_cases h0 : s.size = 0
  · rw [if_pos h0, litmus_Split.l0, if_neg (nt (decide_eq_false (by omega)))]
    simp only [Option.bind_eq_bind, Option.bind_some]
    have := put_s s hs 0 s.size [] (by omega) (Nat.le_refl _) (by simp)
    rw [show (((0 : Nat)) : Int) = (0 : Int) from rfl] at this
    rw [this]
    simp only [Option.bind_some]
    rw [clip_s]
    have e1 : hdB s 0 = false := by unfold hdB hd4; rw [decide_eq_false (by omega)]; rfl
    have e2 : allB (s.extract 0 s.size) = true := by
      unfold allB
      have : strBytes (s.extract 0 s.size) = [] := List.eq_nil_of_length_eq_zero (by rw [strBytes_len, size_extract s 0 _ (Nat.le_refl _)]; omega)
      rw [this]; rfl
    unfold putP
    rw [e1, e2]; simp
  · rw [if_neg h0]
    have h1 := prog_l s hs (s.size - 1) 1 0 [] (by omega) (by omega) (by simp)
    have h2 := run_from s (s.size - 1) 1 0 [] (by omega) (by omega) (by simp)
    rw [show (((0 : Nat)) : Int) = (0 : Int) from rfl, show (((1 : Nat)) : Int) = (1 : Int) from rfl] at h1
    rw [h1]
    simp only [Option.bind_eq_bind, Option.bind_some]
    rw [put_s s hs _ _ _ h2.1 (Nat.le_refl _) (by omega)]
    simp only [Option.bind_some]
    rw [clip_s]
    rfl
theorem head_s (s : ByteArray) (hs : s.size ≤ 1048576) (i : Nat) (hi : i ≤ s.size) : ((if (decide ((IntKind.i64.wrap ((i : Int) + 4)) ≤ (s.size : Int))) = true then (if 0 ≤ (i : Int) ∧ (i : Int) ≤ (IntKind.i64.wrap ((i : Int) + 3)) ∧ (IntKind.i64.wrap ((i : Int) + 3)) ≤ (s.size : Int) then (if (seq (s.extract (i : Int).toNat (IntKind.i64.wrap ((i : Int) + 3)).toNat) (⟨#[88, 56, 54]⟩ : ByteArray)) = true then (if 0 ≤ (IntKind.i64.wrap ((i : Int) + 3)) ∧ (IntKind.i64.wrap ((i : Int) + 3)) < (s.size : Int) then (if ((byt s (IntKind.i64.wrap ((i : Int) + 3))) == 32) = true then (if ((i : Int) == 0) = true then some (true) else (if 0 ≤ (IntKind.i64.wrap ((i : Int) - 1)) ∧ (IntKind.i64.wrap ((i : Int) - 1)) < (s.size : Int) then (if ((byt s (IntKind.i64.wrap ((i : Int) - 1))) == 10) = true then some (true) else some (false)) else none)) else (if 0 ≤ (IntKind.i64.wrap ((i : Int) + 3)) ∧ (IntKind.i64.wrap ((i : Int) + 3)) < (s.size : Int) then (if ((byt s (IntKind.i64.wrap ((i : Int) + 3))) == 9) = true then (if ((i : Int) == 0) = true then some (true) else (if 0 ≤ (IntKind.i64.wrap ((i : Int) - 1)) ∧ (IntKind.i64.wrap ((i : Int) - 1)) < (s.size : Int) then (if ((byt s (IntKind.i64.wrap ((i : Int) - 1))) == 10) = true then some (true) else some (false)) else none)) else some (false)) else none)) else none) else some (false)) else none) else some (false)) : Option Bool) = some (hdB s i) := by
  have e4 : IntKind.i64.wrap ((i : Int) + 4) = ((i + 4 : Nat) : Int) := by rw [wi64_id (by omega) (by omega)]; omega
  have e3 : IntKind.i64.wrap ((i : Int) + 3) = ((i + 3 : Nat) : Int) := by rw [wi64_id (by omega) (by omega)]; omega
  rw [e4, e3]
  unfold hdB hd4
  by_cases h4 : i + 4 ≤ s.size
  · have g2 : (0 : Int) ≤ ((i + 3 : Nat) : Int) ∧ ((i + 3 : Nat) : Int) < (s.size : Int) := by omega
    have hl : ((if ((i : Int) == 0) = true then some (true) else (if 0 ≤ (IntKind.i64.wrap ((i : Int) - 1)) ∧ (IntKind.i64.wrap ((i : Int) - 1)) < (s.size : Int) then (if ((byt s (IntKind.i64.wrap ((i : Int) - 1))) == 10) = true then some (true) else some (false)) else none)) : Option Bool) = some (i == 0 || bt s (i - 1) == 10) := by
      by_cases h0 : i = 0
      · subst h0; rfl
      · have e : (i == 0) = false := by simpa using h0
        rw [if_neg (by simp; omega), wsub1 (by omega) (by omega), if_pos (by omega), e]
        change (if (bt s (i - 1) == 10) = true then _ else _) = _
        cases bt s (i - 1) == 10 <;> rfl
    rw [if_pos (decide_eq_true (by omega)), if_pos (by omega), Int.toNat_natCast, Int.toNat_natCast, seq_p, if_pos g2, if_pos g2, hl, decide_eq_true h4]
    change (if decide (s.extract i (i + 3) = x86) = true then (if (bt s (i + 3) == 32) = true then _ else if (bt s (i + 3) == 9) = true then _ else _) else _) = _
    cases decide (s.extract i (i + 3) = x86) <;> cases bt s (i + 3) == 32 <;> cases bt s (i + 3) == 9 <;> simp
  · rw [if_neg (nt (decide_eq_false (by omega))), decide_eq_false h4]; rfl
theorem ref_l (s : ByteArray) (hs : s.size ≤ 1048576) : ∀ (m i a : Nat) (acc : List ByteArray), i + m = s.size → a < i → acc.length ≤ i → (a = 0 ∨ hdB s a = true) →
    weirref07_Split.l0 s acc (a : Int) (i : Int) = some (putP s (run s m i a acc).2 s.size (run s m i a acc).1) := by
  have hput : ∀ (i a : Nat) (acc : List ByteArray), a < i → i ≤ s.size → acc.length ≤ i → (a = 0 ∨ hdB s a = true) → ∀ (K : List ByteArray → Option (List ByteArray)),
      (if (decide ((i : Int) > (a : Int))) = true then (if (decide ((a : Int) > 0)) = true then (if 0 ≤ (a : Int) ∧ (a : Int) ≤ (i : Int) ∧ (i : Int) ≤ (s.size : Int) then (if (acc.length + ([(s.extract (a : Int).toNat (i : Int).toNat)] : List ByteArray).length) * 16 ≤ 140737488355328 then K (acc ++ ([(s.extract (a : Int).toNat (i : Int).toNat)] : List ByteArray)) else none) else none) else (weirref07_first.f s >>= (fun t73 => (if t73 = true then (if 0 ≤ (a : Int) ∧ (a : Int) ≤ (i : Int) ∧ (i : Int) ≤ (s.size : Int) then (if (acc.length + ([(s.extract (a : Int).toNat (i : Int).toNat)] : List ByteArray).length) * 16 ≤ 140737488355328 then K (acc ++ ([(s.extract (a : Int).toNat (i : Int).toNat)] : List ByteArray)) else none) else none) else (if 0 ≤ (a : Int) ∧ (a : Int) ≤ (i : Int) ∧ (i : Int) ≤ (s.size : Int) then (weirref07_empty.f (s.extract (a : Int).toNat (i : Int).toNat) >>= (fun t81 => (if (!t81) = true then (if 0 ≤ (a : Int) ∧ (a : Int) ≤ (i : Int) ∧ (i : Int) ≤ (s.size : Int) then (if (acc.length + ([(s.extract (a : Int).toNat (i : Int).toNat)] : List ByteArray).length) * 16 ≤ 140737488355328 then K (acc ++ ([(s.extract (a : Int).toNat (i : Int).toNat)] : List ByteArray)) else none) else none) else K acc))) else none))))) else K acc) = K (putP s a i acc) := by
    intro i a acc h1 h2 h3 h4 K
    have q : ∀ z : ByteArray, (acc.length + ([z] : List ByteArray).length) * 16 ≤ 140737488355328 := by intro z; simp only [List.length_cons, List.length_nil]; omega
    have g : (0 : Int) ≤ (a : Int) ∧ (a : Int) ≤ (i : Int) ∧ (i : Int) ≤ (s.size : Int) := by omega
    have hx : (s.extract a i).size ≤ 1048576 := by rw [size_extract s a i h2]; omega
    rw [if_pos (decide_eq_true (by omega))]
    simp only [if_pos g, if_pos (q _), Int.toNat_natCast, first_s, empty_s _ hx, Option.bind_eq_bind, Option.bind_some]
    unfold putP
    rcases h4 with rfl | h4
    · rw [if_neg (nt (decide_eq_false (by omega)))]
      have e : hdB s 0 = hd4 s 0 := by unfold hdB; simp
      rw [e]
      cases hd4 s 0 <;> cases allB (s.extract 0 i) <;> simp
    · rw [if_pos (show hdB s a = true ∨ allB (s.extract a i) = false from .inl h4)]
      by_cases h0 : a = 0
      · subst h0
        have e : hd4 s 0 = true := by unfold hdB at h4; simpa using h4
        rw [if_neg (nt (decide_eq_false (by omega))), e]; rfl
      · rw [if_pos (decide_eq_true (by omega))]
  intro m
  induction m with
  | zero =>
    intro i a acc hi ha hl hf
    have hh : hdB s i = false := by unfold hdB hd4; rw [decide_eq_false (by omega)]; rfl
    rw [weirref07_Split.l0, if_pos (decide_eq_true (by omega)), head_s s hs i (by omega), hh]
    simp only [Option.bind_eq_bind, Option.bind_some, Bool.not_false, if_true]
    rw [if_neg (nt (decide_eq_false (by omega)))]
    simp only [Option.bind_some, w1 (show i < 9223372036854775807 by omega)]
    have h := hput i a acc ha (by omega) hl hf (fun l => weirref07_Split.l0 s l (i : Int) ((i + 1 : Nat) : Int))
    simp only [Option.bind_eq_bind] at h
    rw [h, weirref07_Split.l0, if_neg (nt (decide_eq_false (by omega)))]
    simp only [run]
    rw [show s.size = i by omega]
  | succ m ih =>
    intro i a acc hi ha hl hf
    have hp := putP_len s a i acc
    rw [weirref07_Split.l0, if_pos (decide_eq_true (by omega)), head_s s hs i (by omega)]
    simp only [Option.bind_eq_bind, Option.bind_some, run, w1 (show i < 9223372036854775807 by omega)]
    by_cases hh : hdB s i = true
    · rw [hh, if_pos rfl]
      simp only [Bool.not_true, Bool.false_eq_true, if_false, Option.bind_some]
      have h := hput i a acc ha (by omega) hl hf (fun l => weirref07_Split.l0 s l (i : Int) ((i + 1 : Nat) : Int))
      simp only [Option.bind_eq_bind] at h
      rw [h]
      exact ih (i + 1) i _ (by omega) (by omega) (by omega) (.inr hh)
    · rw [if_neg hh]
      rw [Bool.not_eq_true] at hh
      rw [hh]
      simp only [Bool.not_false, if_true]
      rw [if_pos (decide_eq_true (by omega)), ih (i + 1) a acc (by omega) (by omega) (by omega) hf]
      rfl
theorem ref_s (s : ByteArray) (hs : s.size ≤ 1048576) : weirref07_Split.f s = some (files s) := by
  unfold weirref07_Split.f files
  have h0 : weirref07_Split.l0 s [] 0 0 = weirref07_Split.l0 s [] 0 1 := by
    have hd := head_s s hs 0 (by omega)
    rw [show (((0 : Nat)) : Int) = (0 : Int) from rfl] at hd
    rw [weirref07_Split.l0, if_pos (decide_eq_true (by omega)), hd]
    simp only [Option.bind_eq_bind, Option.bind_some]
    have e1 : IntKind.i64.wrap ((0 : Int) + 1) = 1 := by decide
    have e2 : decide ((0 : Int) > 0) = false := by decide
    cases hdB s 0
    · simp only [Bool.not_false, if_true, e1]
      by_cases h : (0 : Int) < (s.size : Int)
      · rw [if_pos (decide_eq_true h)]
        cases weirref07_Split.l0 s [] 0 1 <;> rfl
      · rw [if_neg (nt (decide_eq_false h))]
        simp only [Option.bind_some, e2, Bool.false_eq_true, if_false]
    · simp only [Bool.not_true, Bool.false_eq_true, if_false, Option.bind_some, e2, e1]
  rw [h0]
  by_cases hz : s.size = 0
  · rw [if_pos hz, weirref07_Split.l0, if_neg (nt (decide_eq_false (by omega)))]; rfl
  · rw [if_neg hz]
    have h1 := ref_l s hs (s.size - 1) 1 0 [] (by omega) (by omega) (by simp) (.inl rfl)
    rw [show (((0 : Nat)) : Int) = (0 : Int) from rfl, show (((1 : Nat)) : Int) = (1 : Int) from rfl] at h1
    rw [h1]; rfl
end Go.Proofs.YthlegnipdaikgaaDoor.K
