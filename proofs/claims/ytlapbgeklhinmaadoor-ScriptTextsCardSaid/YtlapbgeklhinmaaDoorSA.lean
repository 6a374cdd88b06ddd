/- Lists of bytes: cuts at a byte, numerals. No program. -/
import Derived.Lib.ItoaNum
import Derived.Lib.SplitLaws
import Derived.Lib.AtoiTie
import Derived.Lib.Join
set_option linter.unusedVariables false
set_option linter.unusedSimpArgs false
namespace Go.Proofs.YtlapbgeklhinmaaDoor.K
open Go

/-- A list of bytes cut at each c. -/
def sp (c : UInt8) : List UInt8 → List (List UInt8)
  | [] => [[]]
  | b :: l => if b = c then [] :: sp c l else match sp c l with
    | h :: t => (b :: h) :: t
    | [] => [[b]]
theorem sp_hit (c : UInt8) (l : List UInt8) : sp c (c :: l) = [] :: sp c l := by rw [sp, if_pos rfl]
theorem sp_pass {c b : UInt8} (h : b ≠ c) {l x : List UInt8} {r : List (List UInt8)} (hs : sp c l = x :: r) : sp c (b :: l) = (b :: x) :: r := by rw [sp, if_neg h, hs]
theorem sp_some (c : UInt8) : ∀ l, ∃ h t, sp c l = h :: t
  | [] => ⟨_, _, rfl⟩
  | b :: l => by
    by_cases h : b = c
    · subst h; exact ⟨_, _, sp_hit _ _⟩
    · obtain ⟨x, r, hx⟩ := sp_some c l; exact ⟨_, _, sp_pass h hx⟩
theorem sp_parts (c : UInt8) : ∀ (l x : List UInt8) (r : List (List UInt8)), sp c l = x :: r → (r = [] ∧ l = x) ∨ ∃ l', l = x ++ c :: l' ∧ sp c l' = r
  | [], x, r, h => by cases h; exact .inl ⟨rfl, rfl⟩
  | b :: l, x, r, h => by
    by_cases hb : b = c
    · subst hb; rw [sp_hit] at h; cases h; exact .inr ⟨l, rfl, rfl⟩
    · obtain ⟨y, t, hy⟩ := sp_some c l
      rw [sp_pass hb hy] at h; cases h
      rcases sp_parts c l y _ hy with ⟨h1, h2⟩ | ⟨l', h1, h2⟩
      · exact .inl ⟨h1, by rw [h2]⟩
      · exact .inr ⟨l', by rw [h1]; rfl, h2⟩
theorem sp_free {c : UInt8} : ∀ {a : List UInt8}, c ∉ a → sp c a = [a]
  | [], _ => rfl
  | b :: l, h => by
    rw [List.mem_cons, not_or] at h
    exact sp_pass (Ne.symm h.1) (sp_free h.2)
theorem sp_app {c : UInt8} : ∀ {a : List UInt8} (b : List UInt8), c ∉ a → sp c (a ++ c :: b) = a :: sp c b
  | [], b, _ => sp_hit c b
  | d :: l, b, h => by
    rw [List.mem_cons, not_or] at h
    exact sp_pass (Ne.symm h.1) (sp_app b h.2)
theorem index_one (b c : UInt8) (l : List UInt8) (h : b ≠ c) : Lib.index (b :: l) [c] = if Lib.index l [c] == -1 then -1 else Lib.index l [c] + 1 := by
  have hp : ([c] : List UInt8).isPrefixOf (b :: l) = false := by simp [List.isPrefixOf, Ne.symm h]
  rw [Lib.index, hp]; simp
theorem splitK_sp (c : UInt8) : ∀ l, Lib.splitK [c] 0 (l.count c) l = sp c l
  | [] => rfl
  | b :: l => by
    have ih := splitK_sp c l
    by_cases h : b = c
    · subst h
      rw [List.count_cons_self, sp_hit, Lib.splitK]
      have hi : Lib.index (b :: l) [b] = 0 := by rw [Lib.index]; simp [List.isPrefixOf]
      rw [hi, if_neg (by decide), ← ih]; rfl
    · rw [List.count_cons_of_ne (by simpa using h)]
      cases hk : l.count c with
      | zero =>
        rw [hk] at ih
        rw [Lib.splitK] at ih ⊢
        exact (sp_pass h ih.symm).symm
      | succ k =>
        rw [hk] at ih
        rw [Lib.splitK] at ih ⊢
        rw [index_one b c l h]
        have hge := Lib.index_ge l [c]
        by_cases hm : Lib.index l [c] = -1
        · rw [if_pos (by simpa using hm)] at ih
          rw [if_pos (by simp [hm])]
          exact (sp_pass h ih.symm).symm
        · rw [if_neg (by simpa using hm)] at ih
          have h2 : ¬ (Lib.index l [c] == -1) = true := by simpa using hm
          rw [if_neg h2, if_neg (by simp; omega)]
          rw [sp_pass h ih.symm]
          have e : (Lib.index l [c] + 1).toNat = (Lib.index l [c]).toNat + 1 := by omega
          rw [e]; rfl

/-! ### Numerals -/
def isDg (b : UInt8) : Bool := decide (48 ≤ b.toNat) && decide (b.toNat ≤ 57)
theorem isDg_iff (b : UInt8) : isDg b = true ↔ 48 ≤ b.toNat ∧ b.toNat ≤ 57 := by simp [isDg]
def dvF (n : Nat) (l : List UInt8) : Nat := l.foldl (fun n b => 10 * n + (b.toNat - 48)) n
def dv (l : List UInt8) : Nat := dvF 0 l
theorem dv_snoc (l : List UInt8) (b : UInt8) : dv (l ++ [b]) = 10 * dv l + (b.toNat - 48) := by simp [dv, dvF]
theorem dvF_ge : ∀ (l : List UInt8) (n : Nat), n ≤ dvF n l
  | [], n => Nat.le_refl _
  | b :: l, n => by
    have := dvF_ge l (10 * n + (b.toNat - 48))
    have e : dvF n (b :: l) = dvF (10 * n + (b.toNat - 48)) l := rfl
    rw [e]; omega
/-- A numeral as it is written: no 0 in front. -/
def good (l : List UInt8) : Prop := l ≠ [] ∧ (∀ b ∈ l, isDg b = true) ∧ (l.length = 1 ∨ l.head? ≠ some 48)
theorem dv_pos {a : UInt8} {l : List UInt8} (hd : isDg a = true) (h : a ≠ 48) : 1 ≤ dv (a :: l) := by
  rw [isDg_iff] at hd
  have h48 : a.toNat ≠ 48 := fun e => h (UInt8.toNat_inj.1 e)
  have := dvF_ge l (10 * 0 + (a.toNat - 48))
  have e : dv (a :: l) = dvF (10 * 0 + (a.toNat - 48)) l := rfl
  rw [e]; omega
theorem ofNat_dg {b : UInt8} (h : isDg b = true) : UInt8.ofNat (48 + (b.toNat - 48)) = b := by
  rw [isDg_iff] at h
  rw [show 48 + (b.toNat - 48) = b.toNat by omega, UInt8.ofNat_toNat]
theorem dec_dv : ∀ (n : Nat) (l : List UInt8), l.length = n → good l → Lib.decDigits (dv l) = l := by
  intro n
  induction n with
  | zero => intro l hl hg; exact absurd (List.length_eq_zero_iff.1 hl) hg.1
  | succ n ih =>
    intro l hl hg
    obtain ⟨h0, hd, hh⟩ := hg
    rcases List.eq_nil_or_concat l with rfl | ⟨l', b, rfl⟩
    · exact absurd rfl h0
    rw [List.concat_eq_append] at *
    have hb : isDg b = true := hd b (by simp)
    have hb' := (isDg_iff b).1 hb
    rw [dv_snoc]
    cases l' with
    | nil =>
      have e : dv [] = 0 := rfl
      rw [e, Lib.decDigits, dif_pos (by omega)]
      simp only [Nat.mul_zero, Nat.zero_add, List.nil_append]
      rw [ofNat_dg hb]
    | cons a r =>
      have ha : a ≠ 48 := by
        rcases hh with hh | hh
        · simp at hh
        · simpa using hh
      have hg' : good (a :: r) := ⟨by simp, fun x hx => hd x (List.mem_append_left _ hx), .inr (by simpa using ha)⟩
      have hp := dv_pos (l := r) (hd a (by simp)) ha
      have := ih (a :: r) (by simpa using hl) hg'
      rw [Lib.decDigits, dif_neg (by omega), show (10 * dv (a :: r) + (b.toNat - 48)) / 10 = dv (a :: r) by omega, show (10 * dv (a :: r) + (b.toNat - 48)) % 10 = b.toNat - 48 by omega, this, ofNat_dg hb]
theorem toNat_dg {d : Nat} (h : d < 10) : (UInt8.ofNat (48 + d)).toNat = 48 + d := by
  rw [UInt8.toNat_ofNat']; omega
theorem dec_good (n : Nat) : good (Lib.decDigits n) ∧ dv (Lib.decDigits n) = n ∧ (1 ≤ n → (Lib.decDigits n).head? ≠ some 48) := by
  induction n using Nat.strongRecOn with
  | ind n ih =>
    rw [Lib.decDigits]
    by_cases h : n < 10
    · rw [dif_pos h]
      have ht := toNat_dg h
      refine ⟨⟨by simp, ?_, .inl rfl⟩, ?_, ?_⟩
      · intro b hb; rw [List.mem_singleton] at hb; subst hb; rw [isDg_iff, ht]; omega
      · show 10 * 0 + ((UInt8.ofNat (48 + n)).toNat - 48) = n
        rw [ht]; omega
      · intro h1 h2
        simp only [List.head?_cons, Option.some.injEq] at h2
        have := congrArg UInt8.toNat h2
        rw [ht] at this
        have : (48 : UInt8).toNat = 48 := rfl
        omega
    · rw [dif_neg h]
      obtain ⟨⟨g1, g2, g3⟩, v, hd⟩ := ih (n / 10) (by omega)
      have hm : n % 10 < 10 := Nat.mod_lt _ (by decide)
      have ht := toNat_dg hm
      have hh : (Lib.decDigits (n / 10) ++ [UInt8.ofNat (48 + n % 10)]).head? ≠ some 48 := by
        cases hl : Lib.decDigits (n / 10) with
        | nil => exact absurd hl g1
        | cons a r => have := hd (by omega); rw [hl] at this; simpa using this
      refine ⟨⟨by simp, ?_, .inr hh⟩, ?_, fun _ => hh⟩
      · intro b hb
        rcases List.mem_append.1 hb with hb | hb
        · exact g2 b hb
        · rw [List.mem_singleton] at hb; subst hb; rw [isDg_iff, ht]; omega
      · rw [dv_snoc, v, ht]; omega
theorem dec_len : ∀ (k u : Nat), u < 10 ^ (k + 1) → (Lib.decDigits u).length ≤ k + 1
  | 0, u, h => by rw [Lib.decDigits, dif_pos (by simpa using h)]; simp
  | k + 1, u, h => by
    rw [Lib.decDigits]
    by_cases h1 : u < 10
    · rw [dif_pos h1]; simp
    · rw [dif_neg h1]
      have := dec_len k (u / 10) (by rw [Nat.pow_succ] at h; omega)
      simp; omega
theorem itoa_nat (n : Nat) : Lib.itoa (n : Int) = Lib.decDigits n := by
  unfold Lib.itoa
  rw [if_neg (by omega)]; simp
theorem decFrom_dv : ∀ (l : List UInt8) (n : Nat), (∀ b ∈ l, isDg b = true) → Lib.decFrom n l = some (dvF n l)
  | [], n, _ => rfl
  | b :: l, n, h => by
    have hb := (isDg_iff b).1 (h b (by simp))
    rw [Lib.decFrom, Lib.digitVal, if_pos hb]
    simp only
    rw [decFrom_dv l _ (fun x hx => h x (List.mem_cons_of_mem _ hx)), Nat.mul_comm]; rfl
theorem atoi_dec (n : Nat) (h : n < 10000) : Lib.atoiAll (Lib.decDigits n) = .ok (n : Int) := by
  obtain ⟨⟨g1, g2, g3⟩, v, -⟩ := dec_good n
  have hl := dec_len 3 n (by omega)
  rw [Lib.atoiAll_short _ (by omega)]
  cases hd : Lib.decDigits n with
  | nil => exact absurd hd g1
  | cons a r =>
    rw [hd] at g2 v
    have ha := (isDg_iff a).1 (g2 a (by simp))
    have h45 : (a == 45) = false := by rw [beq_eq_false_iff_ne]; rintro rfl; exact absurd ha.1 (by decide)
    have h43 : (a == 43) = false := by rw [beq_eq_false_iff_ne]; rintro rfl; exact absurd ha.1 (by decide)
    have : Lib.atoi (a :: r) = some (n : Int) := by
      rw [Lib.atoi, h45, h43]
      simp only [Bool.false_eq_true, if_false]
      rw [Lib.decNat, if_neg (by simp), decFrom_dv _ _ g2]
      show some ((dv (a :: r) : Nat) : Int) = _
      rw [v]
    rw [this]; rfl
theorem dec_no58 (n : Nat) : (58 : UInt8) ∉ Lib.decDigits n := fun h => by
  have := (isDg_iff _).1 ((dec_good n).1.2.1 58 h)
  exact absurd this.2 (by decide)
end Go.Proofs.YtlapbgeklhinmaaDoor.K
