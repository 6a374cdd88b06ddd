/- A bundle's files: where one begins, what is blank. -/
import Derived.Test.YthlegnipdaikgaaDoorFZ
set_option linter.unusedVariables false
set_option linter.unusedSimpArgs false
set_option maxRecDepth 100000
namespace Go.Proofs.YthlegnipdaikgaaDoor.K
open Go

theorem nt {b : Bool} (h : b = false) : ¬ b = true := by simp [h]
theorem gt_nat {α : Type} [Inhabited α] {xs : List α} {t : Nat} (h : t < xs.length) : gt xs (t : Int) = xs[t] := by
  unfold gt; rw [Int.toNat_natCast, List.getD_eq_getElem?_getD, List.getElem?_eq_getElem h]; rfl
theorem w1 {t : Nat} (h : t < 9223372036854775807) : IntKind.i64.wrap ((t : Int) + 1) = ((t + 1 : Nat) : Int) := by rw [wi64_id (by omega) (by omega)]; omega
theorem wsub1 {t : Nat} (h0 : 0 < t) (h : t < 9223372036854775807) : IntKind.i64.wrap ((t : Int) - 1) = ((t - 1 : Nat) : Int) := by rw [wi64_id (by omega) (by omega)]; omega
theorem seq_p (x y : ByteArray) : seq x y = decide (x = y) := by
  unfold seq
  by_cases h : x = y
  · subst h; simp
  · rw [decide_eq_false h, ByteArray.toList_eq, ByteArray.toList_eq]
    refine Bool.eq_false_iff.2 (fun e => h ?_)
    obtain ⟨a⟩ := x
    obtain ⟨b⟩ := y
    rw [beq_iff_eq] at e
    exact congrArg ByteArray.mk (Array.toList_inj.1 e)
theorem strBytes_len (s : ByteArray) : (strBytes s).length = s.size := by simp [strBytes]
theorem strBytes_extract (b : ByteArray) (i j : Nat) : strBytes (b.extract i j) = ((strBytes b).take j).drop i := by
  simp [strBytes, ByteArray.data_extract, ← List.map_take, ← List.map_drop, List.drop_take]
theorem size_extract (b : ByteArray) (i j : Nat) (h : j ≤ b.size) : (b.extract i j).size = j - i := by
  rw [← strBytes_len, strBytes_extract, List.length_drop, List.length_take, strBytes_len]; omega
theorem str_inj {s t : ByteArray} (h : strBytes s = strBytes t) : s = t := by
  obtain ⟨a⟩ := s
  obtain ⟨b⟩ := t
  have h2 : a.toList = b.toList := by
    simp only [strBytes] at h
    exact (List.map_inj_right (fun x y e => by
      have : x.toNat = y.toNat := Int.ofNat_inj.1 e
      exact UInt8.toNat_inj.1 this)).1 h
  exact congrArg ByteArray.mk (Array.toList_inj.1 h2)
/-- The byte at a place. -/
def bt (s : ByteArray) (i : Nat) : Int := byt s (i : Int)
theorem bt_str (s : ByteArray) (i : Nat) : bt s i = (strBytes s).getD i 0 := by
  simp only [bt, byt, strBytes, Int.toNat_natCast, List.getD_eq_getElem?_getD, List.getElem?_map]
  cases s.data.toList[i]? <;> rfl
theorem bt_extract (s : ByteArray) (i j k : Nat) (h : i + k < j) : bt (s.extract i j) k = bt s (i + k) := by
  rw [bt_str, bt_str, strBytes_extract, List.getD_eq_getElem?_getD, List.getD_eq_getElem?_getD, List.getElem?_drop, List.getElem?_take, if_pos h]
def x86 : ByteArray := ⟨#[88, 56, 54]⟩
/-- Do these bytes begin a file? -/
def hd4 (s : ByteArray) (i : Nat) : Bool := decide (i + 4 ≤ s.size) && (decide (s.extract i (i + 3) = x86) && (bt s (i + 3) == 32 || bt s (i + 3) == 9))
/-- Does a file begin at a place? -/
def hdB (s : ByteArray) (i : Nat) : Bool := hd4 s i && (i == 0 || bt s (i - 1) == 10)
theorem extract2 (s : ByteArray) (i j k : Nat) (h : i + k ≤ j) (hj : j ≤ s.size) : (s.extract i j).extract 0 k = s.extract i (i + k) := by
  apply str_inj
  rw [strBytes_extract, strBytes_extract, strBytes_extract, List.drop_zero, List.drop_take, List.take_take, Nat.min_eq_left (by omega), List.drop_take, show i + k - i = k by omega]
theorem begins_s (s : ByteArray) (i : Nat) (hi : i ≤ s.size) (hs : s.size ≤ 1048576) : litmus_begins.f s (i : Int) = some (hdB s i) := by
  have hsz : (s.extract i s.size).size = s.size - i := size_extract s i s.size (Nat.le_refl _)
  have key : ((if (decide (((s.extract (i : Int).toNat s.size).size : Int) > 3)) = true then (if 0 ≤ (3 : Int) ∧ (3 : Int) ≤ ((s.extract (i : Int).toNat s.size).size : Int) then (if (seq ((s.extract (i : Int).toNat s.size).extract 0 (3 : Int).toNat) (⟨#[88, 56, 54]⟩ : ByteArray)) = true then (if 0 ≤ (3 : Int) ∧ (3 : Int) < ((s.extract (i : Int).toNat s.size).size : Int) then (if ((byt (s.extract (i : Int).toNat s.size) (3 : Int)) == 32) = true then some (true) else (if 0 ≤ (3 : Int) ∧ (3 : Int) < ((s.extract (i : Int).toNat s.size).size : Int) then (if ((byt (s.extract (i : Int).toNat s.size) (3 : Int)) == 9) = true then some (true) else some (false)) else none)) else none) else some (false)) else none) else some (false)) : Option Bool) = some (hd4 s i) := by
    rw [Int.toNat_natCast, hsz]
    unfold hd4
    by_cases h4 : i + 4 ≤ s.size
    · have e3 : byt (s.extract i s.size) (3 : Int) = bt s (i + 3) := bt_extract s i s.size 3 (by omega)
      have ee : (s.extract i s.size).extract 0 (3 : Int).toNat = s.extract i (i + 3) := extract2 s i s.size 3 (by omega) (Nat.le_refl _)
      have g1 : (0 : Int) ≤ (3 : Int) ∧ (3 : Int) ≤ ((s.size - i : Nat) : Int) := by omega
      have g2 : (0 : Int) ≤ (3 : Int) ∧ (3 : Int) < ((s.size - i : Nat) : Int) := by omega
      rw [if_pos (decide_eq_true (by omega)), if_pos g1, ee, seq_p, if_pos g2, if_pos g2, e3, decide_eq_true h4]
      change (if decide (s.extract i (i + 3) = x86) = true then _ else _) = _
      cases decide (s.extract i (i + 3) = x86) <;> cases bt s (i + 3) == 32 <;> cases bt s (i + 3) == 9 <;> rfl
    · rw [if_neg (nt (decide_eq_false (by omega))), decide_eq_false h4]; rfl
  unfold litmus_begins.f hdB
  rw [if_pos (by omega)]
  by_cases h0 : i = 0
  · subst h0
    rw [if_pos (by rfl), key]
    simp
  · have e : (i == 0) = false := by simpa using h0
    have e' : ¬ (((i : Int)) == 0) = true := by simp; omega
    rw [if_neg e', wsub1 (by omega) (by omega), if_pos (by omega), key, e]
    change (if (bt s (i - 1) == 10) = true then _ else _) = _
    cases bt s (i - 1) == 10 <;> simp
theorem first_s (s : ByteArray) : weirref07_first.f s = some (hd4 s 0) := by
  unfold weirref07_first.f hd4
  by_cases h4 : 0 + 4 ≤ s.size
  · have g1 : (0 : Int) ≤ (3 : Int) ∧ (3 : Int) ≤ ((s.size : Nat) : Int) := by omega
    have g2 : (0 : Int) ≤ (3 : Int) ∧ (3 : Int) < ((s.size : Nat) : Int) := by omega
    rw [if_pos (decide_eq_true (by omega)), if_pos g1, seq_p, if_pos g2, if_pos g2, decide_eq_true h4]
    change (if decide (s.extract 0 (0 + 3) = x86) = true then (if (bt s (0 + 3) == 32) = true then _ else if (bt s (0 + 3) == 9) = true then _ else _) else _) = _
    cases decide (s.extract 0 (0 + 3) = x86) <;> cases bt s (0 + 3) == 32 <;> cases bt s (0 + 3) == 9 <;> rfl
  · rw [if_neg (nt (decide_eq_false (by omega))), decide_eq_false h4]; rfl
/-! ### Blanks -/
def blk (b : Int) : Bool := b == 32 || b == 9 || b == 10 || b == 13
def allB (s : ByteArray) : Bool := (strBytes s).all blk
theorem nest4 {α : Type} (b : Int) (R F : α) : (if (b != 32) = true then (if (b != 9) = true then (if (b != 10) = true then (if (b != 13) = true then F else R) else R) else R) else R) = if blk b = true then R else F := by
  unfold blk
  by_cases h1 : b = 32
  · simp [h1]
  · by_cases h2 : b = 9
    · simp [h2]
    · by_cases h3 : b = 10
      · simp [h3]
      · by_cases h4 : b = 13 <;> simp [h1, h2, h3, h4]
theorem empty_l (s : ByteArray) (hs : s.size ≤ 1048576) : ∀ (n t : Nat), t + n = s.size → weirref07_empty.l0 s (t : Int) = some (if ((strBytes s).drop t).all blk = true then .inl () else .inr false) := by
  have hl := strBytes_len s
  intro n
  induction n with
  | zero =>
    intro t ht
    rw [weirref07_empty.l0, if_neg (nt (decide_eq_false (by omega))), List.drop_of_length_le (by omega)]; rfl
  | succ n ih =>
    intro t ht
    have g : (0 : Int) ≤ (t : Int) ∧ (t : Int) < (s.size : Int) := by omega
    have h1 : t < (strBytes s).length := by omega
    have eb : byt s (t : Int) = (strBytes s)[t] := by
      have := bt_str s t
      rw [List.getD_eq_getElem?_getD, List.getElem?_eq_getElem h1] at this; exact this
    rw [weirref07_empty.l0, if_pos (decide_eq_true g.2)]
    simp only [if_pos g, w1 (show t < 9223372036854775807 by omega), ih (t + 1) (by omega), eb]
    rw [nest4, List.drop_eq_getElem_cons h1, List.all_cons]
    generalize (strBytes s)[t] = b
    cases blk b <;> simp
theorem empty_s (s : ByteArray) (hs : s.size ≤ 1048576) : weirref07_empty.f s = some (allB s) := by
  unfold weirref07_empty.f allB
  have := empty_l s hs s.size 0 (by omega)
  rw [List.drop_zero] at this
  rw [show ((0 : Int)) = ((0 : Nat) : Int) from rfl, this]
  cases (strBytes s).all blk <;> rfl
def cs4 : ByteArray := ⟨#[32, 9, 10, 13]⟩
theorem blk_cs (b : UInt8) : cs4.data.toList.contains b = blk (b.toNat : Int) := by
  have h : ∀ n : Fin 256, cs4.data.toList.contains (UInt8.ofNat n.1) = blk (n.1 : Int) := by decide +kernel
  have := h ⟨b.toNat, b.toNat_lt⟩
  simpa using this
theorem dw_nil {α : Type} (p : α → Bool) : ∀ l : List α, l.dropWhile p = [] ↔ ∀ x ∈ l, p x = true
  | [] => by simp
  | y :: l => by
    rw [List.dropWhile_cons]
    cases h : p y
    · simp [h]
    · simp [h, dw_nil p l]
theorem dw_head {α : Type} (p : α → Bool) : ∀ (l : List α) {y : α} {r : List α}, l.dropWhile p = y :: r → p y = false
  | [], _, _, h => by cases h
  | x :: l, y, r, h => by
    rw [List.dropWhile_cons] at h
    cases hx : p x
    · rw [hx] at h
      simp only [Bool.false_eq_true, if_false, List.cons.injEq] at h
      rw [← h.1]; exact hx
    · rw [hx] at h
      exact dw_head p l h
theorem trim_nil {α : Type} (p : α → Bool) (l : List α) : (l.reverse.dropWhile p).reverse.dropWhile p = [] ↔ l.all p = true := by
  rw [List.all_eq_true]
  constructor
  · intro h
    have h1 : ∀ x ∈ (l.reverse.dropWhile p).reverse, p x = true := (dw_nil _ _).1 h
    cases hr : l.reverse.dropWhile p with
    | nil =>
      have := (dw_nil _ _).1 hr
      intro x hx
      exact this x (List.mem_reverse.2 hx)
    | cons y r =>
      have h2 : p y = false := dw_head p _ hr
      have h3 := h1 y (by rw [hr]; simp)
      rw [h2] at h3; cases h3
  · intro h
    have h1 : l.reverse.dropWhile p = [] := (dw_nil _ _).2 (fun x hx => h x (List.mem_reverse.1 hx))
    rw [h1]; rfl
theorem trim_s (s : ByteArray) (hs : s.size ≤ 1048576) : ∃ t, strings_Trim.f s (⟨#[32, 9, 10, 13]⟩ : ByteArray) = some t ∧ seq t (⟨#[]⟩ : ByteArray) = allB s := by
  unfold strings_Trim.f
  rw [if_pos ⟨by omega, by decide, by decide⟩]
  refine ⟨_, rfl, ?_⟩
  rw [seq_p]
  have h1 : (Lib.trimS s.data.toList cs4.data.toList = []) ↔ allB s = true := by
    unfold Lib.trimS Lib.trimLeftS Lib.trimRightS
    have e : (fun b => cs4.data.toList.contains b) = fun b : UInt8 => blk (b.toNat : Int) := funext blk_cs
    rw [e, trim_nil]
    unfold allB strBytes
    rw [List.all_map]
    rfl
  have h2 : ((⟨(Lib.trimS s.data.toList cs4.data.toList).toArray⟩ : ByteArray) = ⟨#[]⟩) ↔ Lib.trimS s.data.toList cs4.data.toList = [] := by
    constructor
    · intro h
      have := congrArg (fun b : ByteArray => b.data.toList) h
      simpa using this
    · intro h; rw [h]
  change decide ((⟨(Lib.trimS s.data.toList cs4.data.toList).toArray⟩ : ByteArray) = ⟨#[]⟩) = _
  by_cases h : allB s = true
  · rw [h, decide_eq_true (h2.2 (h1.2 h))]
  · rw [Bool.not_eq_true] at h
    rw [h, decide_eq_false (fun e => by rw [h1.1 (h2.1 e)] at h; cases h)]
end Go.Proofs.YthlegnipdaikgaaDoor.K
