/- Threads by their numerals: the program's reading against the document's. -/
import Derived.Test.YtboejepakdnbgaaGreatDoorZA
set_option linter.unusedVariables false
set_option linter.unusedSimpArgs false
set_option maxRecDepth 100000
namespace Go.Proofs.YtboejepakdnbgaaGreatDoor.K.C
open Go

theorem dw_nil {α : Type} (p : α → Bool) : ∀ l : List α, l.dropWhile p = [] ↔ ∀ x ∈ l, p x = true
  | [] => by simp
  | y :: l => by
    rw [List.dropWhile_cons]
    cases h : p y
    · simp [h]
    · simp [h, dw_nil p l]
theorem dw_head {α : Type} (p : α → Bool) : ∀ (l : List α) {y : α} {r : List α}, l.dropWhile p = y :: r → p y = false
  | [], _, _, h => by cases h
  | x :: l, y, r, h => by
    rw [List.dropWhile_cons] at h
    cases hx : p x
    · rw [hx] at h
      simp only [Bool.false_eq_true, if_false, List.cons.injEq] at h
      rw [← h.1]; exact hx
    · rw [hx] at h
      exact dw_head p l h
theorem trim_nil {α : Type} (p : α → Bool) (l : List α) : (l.reverse.dropWhile p).reverse.dropWhile p = [] ↔ l.all p = true := by
  rw [List.all_eq_true]
  constructor
  · intro h
    have h1 : ∀ x ∈ (l.reverse.dropWhile p).reverse, p x = true := (dw_nil _ _).1 h
    cases hr : l.reverse.dropWhile p with
    | nil =>
      have := (dw_nil _ _).1 hr
      intro x hx
      exact this x (List.mem_reverse.2 hx)
    | cons y r =>
      have h2 : p y = false := dw_head p _ hr
      have h3 := h1 y (by rw [hr]; simp)
      rw [h2] at h3; cases h3
  · intro h
    have h1 : l.reverse.dropWhile p = [] := (dw_nil _ _).2 (fun x hx => h x (List.mem_reverse.1 hx))
    rw [h1]; rfl
def isDg (b : UInt8) : Bool := decide (48 ≤ b.toNat ∧ b.toNat ≤ 57)
theorem dec_some : ∀ (l : List UInt8) (acc : Nat), l.all isDg = true → ∃ n, Lib.decFrom acc l = some n
  | [], acc, _ => ⟨acc, rfl⟩
  | b :: r, acc, h => by
    simp only [List.all_cons, Bool.and_eq_true] at h
    have h1 := of_decide_eq_true h.1
    simp only [Lib.decFrom, Lib.digitVal, if_pos h1]
    exact dec_some r _ h.2
theorem dec_none : ∀ (l : List UInt8) (acc : Nat), l.all isDg = false → Lib.decFrom acc l = none
  | [], acc, h => by simp at h
  | b :: r, acc, h => by
    simp only [List.all_cons, Bool.and_eq_false_iff] at h
    simp only [Lib.decFrom, Lib.digitVal]
    by_cases h1 : 48 ≤ b.toNat ∧ b.toNat ≤ 57
    · rw [if_pos h1]
      rcases h with h | h
      · rw [show isDg b = true from decide_eq_true h1] at h; cases h
      · exact dec_none r _ h
    · rw [if_neg h1]
def thr (s : ByteArray) : Option Nat := if 0 < s.size ∧ s.size ≤ 4 then Lib.decFrom 0 s.data.toList else none
def digs : ByteArray := ⟨#[48, 49, 50, 51, 52, 53, 54, 55, 56, 57]⟩
theorem dig_cs (b : UInt8) : digs.data.toList.contains b = isDg b := by
  have h : ∀ n : Fin 256, digs.data.toList.contains (UInt8.ofNat n.1) = isDg (UInt8.ofNat n.1) := by decide +kernel
  have := h ⟨b.toNat, b.toNat_lt⟩
  rw [UInt8.ofNat_toNat] at this
  exact this
theorem trim_d (s : ByteArray) (hs : s.size ≤ 1048576) : ∃ t, strings_Trim.f s (⟨#[48, 49, 50, 51, 52, 53, 54, 55, 56, 57]⟩ : ByteArray) = some t ∧ seq t (⟨#[]⟩ : ByteArray) = s.data.toList.all isDg := by
  unfold strings_Trim.f
  rw [if_pos ⟨by omega, by decide, by decide⟩]
  refine ⟨_, rfl, ?_⟩
  rw [seq_p]
  have h1 : (Lib.trimS s.data.toList digs.data.toList = []) ↔ s.data.toList.all isDg = true := by
    unfold Lib.trimS Lib.trimLeftS Lib.trimRightS
    have e : (fun b => digs.data.toList.contains b) = isDg := funext dig_cs
    rw [e, trim_nil]
  have h2 : ((⟨(Lib.trimS s.data.toList digs.data.toList).toArray⟩ : ByteArray) = ⟨#[]⟩) ↔ Lib.trimS s.data.toList digs.data.toList = [] := by
    constructor
    · intro h
      have := congrArg (fun b : ByteArray => b.data.toList) h
      simpa using this
    · intro h; rw [h]
  change decide ((⟨(Lib.trimS s.data.toList digs.data.toList).toArray⟩ : ByteArray) = ⟨#[]⟩) = _
  by_cases h : s.data.toList.all isDg = true
  · rw [h, decide_eq_true (h2.2 (h1.2 h))]
  · rw [Bool.not_eq_true] at h
    rw [h, decide_eq_false (fun e => by rw [h1.1 (h2.1 e)] at h; cases h)]
theorem size_l (s : ByteArray) : s.data.toList.length = s.size := rfl
theorem thread_p (s : ByteArray) : cond_thread.f s = some (match thr s with | some n => ((n : Int), true) | none => (0, false)) := by
  unfold cond_thread.f thr
  rw [seq_p]
  by_cases h0 : s.size = 0
  · have e0 : ¬ (0 < s.size ∧ s.size ≤ 4) := by omega
    rw [if_pos (decide_eq_true (size0.1 h0)), if_neg e0]
  rw [if_neg (nt (decide_eq_false (fun h => h0 (size0.2 h))))]
  by_cases h4 : s.size > 4
  · have e0 : ¬ (0 < s.size ∧ s.size ≤ 4) := by omega
    rw [if_pos (decide_eq_true (by omega)), if_neg e0]
  have e0 : 0 < s.size ∧ s.size ≤ 4 := by omega
  rw [if_neg (nt (decide_eq_false (by omega))), if_pos e0]
  obtain ⟨t, t1, t2⟩ := trim_d s (by omega)
  rw [t1]
  simp only [Option.bind_eq_bind, Option.bind_some, t2]
  cases hd : s.data.toList.all isDg
  · rw [dec_none _ _ hd]; rfl
  · obtain ⟨n, hn⟩ := dec_some s.data.toList 0 hd
    have ha : Lib.atoi s.data.toList = some (n : Int) := by
      have hl := size_l s
      cases hb : s.data.toList with
      | nil => rw [hb] at hl; simp at hl; omega
      | cons b r =>
        have hbd : isDg b = true := by rw [hb] at hd; simp only [List.all_cons, Bool.and_eq_true] at hd; exact hd.1
        have hbd := of_decide_eq_true hbd
        have n1 : ¬ (b == 45) = true := by
          intro h; rw [beq_iff_eq.1 h] at hbd; exact absurd hbd.1 (by decide)
        have n2 : ¬ (b == 43) = true := by
          intro h; rw [beq_iff_eq.1 h] at hbd; exact absurd hbd.1 (by decide)
        rw [hb] at hn
        simp only [Lib.atoi, if_neg n1, if_neg n2, Lib.decNat, List.isEmpty_cons, Bool.false_eq_true, if_false, hn, Option.map_some]
    have g18 : s.size ≤ 18 := by omega
    simp only [Bool.not_true, Bool.false_eq_true, if_false, strconv_Atoi.f, if_pos g18, ha, hn, Option.bind_some]
end Go.Proofs.YtboejepakdnbgaaGreatDoor.K.C
