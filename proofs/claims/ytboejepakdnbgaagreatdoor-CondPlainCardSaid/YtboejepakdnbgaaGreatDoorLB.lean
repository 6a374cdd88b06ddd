/- Lines and columns; what stands between tokens. -/
import Derived.Test.YtboejepakdnbgaaGreatDoorLA
set_option linter.unusedVariables false
set_option linter.unusedSimpArgs false
namespace Go.Proofs.YtboejepakdnbgaaGreatDoor.K
open Go

def plc (s : ByteArray) : Nat → Int × Int
  | 0 => (1, 1)
  | k + 1 => if bA s k = 10 then ((plc s k).1 + 1, 1) else ((plc s k).1, (plc s k).2 + 1)
theorem plc_b (s : ByteArray) : ∀ k : Nat, 1 ≤ (plc s k).1 ∧ (plc s k).1 ≤ k + 1 ∧ 1 ≤ (plc s k).2 ∧ (plc s k).2 ≤ k + 1
  | 0 => ⟨by show (1 : Int) ≤ 1; decide, by show (1 : Int) ≤ _; decide, by show (1 : Int) ≤ 1; decide, by show (1 : Int) ≤ _; decide⟩
  | k + 1 => by
    have := plc_b s k
    unfold plc
    split <;> simp only <;> omega
/-! ### The program's own Place -/
theorem dat_bA {s : ByteArray} {j : Nat} : ((s.data[j]!).toNat : Int) = bA s j := by
  rw [bA_l, List.getD_eq_getElem?_getD, Array.getElem?_toList, getElem!_def]
  cases s.data[j]? <;> rfl
theorem last_p (s : ByteArray) (k : Nat) (hk : k ≤ s.size) : ∀ j, j ≤ k → Lib.lastIdx (s.extract 0 k) 10 j = (j : Int) - (plc s j).2
  | 0, _ => rfl
  | j + 1, h => by
    have e : bA (s.extract 0 k) j = bA s j := by rw [bA_part (by omega), Nat.zero_add]
    unfold Lib.lastIdx plc
    rw [dat_bA, e, last_p s k hk j (by omega)]
    by_cases h10 : bA s j = 10
    · rw [h10]; simp
    · rw [if_neg h10]
      simp only [beq_iff_eq, h10, if_false]
      omega
theorem count_p (s : ByteArray) : ∀ j, j ≤ s.size → ((Lib.countByte (s.data.toList.take j) 10 : Nat) : Int) = (plc s j).1 - 1
  | 0, _ => rfl
  | j + 1, h => by
    have hj : j < s.data.toList.length := by rw [← size_l]; omega
    have ih := count_p s j (by omega)
    unfold Lib.countByte at ih ⊢
    rw [List.take_succ_eq_append_getElem hj, List.count_append]
    unfold plc
    have e : bA s j = ((s.data.toList[j]).toNat : Int) := by rw [bA_l, List.getD_eq_getElem?_getD, List.getElem?_eq_getElem hj]; rfl
    by_cases h10 : s.data.toList[j] = 10
    · rw [h10] at e ⊢
      rw [if_pos (show bA s j = 10 from e), List.count_singleton_self]
      simp only; omega
    · rw [if_neg (by rw [e]; intro h; exact h10 (UInt8.toNat_inj.1 (by have : (10 : UInt8).toNat = 10 := rfl; omega)))]
      rw [List.count_singleton, if_neg (by simpa using h10)]
      simp only; omega
theorem place_p (s : ByteArray) (hs : s.size ≤ 1048576) (a : Nat) (ha : a ≤ s.size) : lexis_Place.f s a = some ((plc s a).1, (plc s a).2, true) := by
  have hb := plc_b s a
  unfold lexis_Place.f strings_LastIndexByte.f
  have hz : (s.extract 0 a).size = a := by rw [cut_size ha]; rfl
  rw [if_neg (nt (decide_eq_false (by omega))), if_neg (nt (decide_eq_false (by omega))), if_pos (by omega), Int.toNat_natCast]
  have hc : strings_Count.f (s.extract 0 a) (⟨#[10]⟩ : ByteArray) = some ((plc s a).1 - 1) := by
    show some ((Lib.countByte (s.extract 0 a).data.toList 10 : Nat) : Int) = _
    rw [cut_l, List.drop_zero, count_p s a ha]
  rw [hc, if_pos (by omega)]
  simp only [Option.bind_eq_bind, Option.bind_some]
  unfold Lib.lastIndexByte
  rw [hz, last_p s a ha a (Nat.le_refl _), wi64_id (by omega) (by omega), wi64_id (by omega) (by omega)]
  congr 2
  · omega
  · congr 1; omega
/-! ### pass -/
theorem gt_sb (s : ByteArray) (j : Nat) (h : j < s.size) : gt (strBytes s) (j : Int) = bA s j := by
  have hl : j < (strBytes s).length := by unfold strBytes; rw [List.length_map, ← size_l]; exact h
  rw [gt_nat hl, bA_l, List.getD_eq_getElem?_getD, List.getElem?_eq_getElem (by rw [← size_l]; exact h)]
  simp [strBytes]
theorem sb_len (s : ByteArray) : (strBytes s).length = s.size := by unfold strBytes; rw [List.length_map, size_l]
theorem pass_l (s : ByteArray) (hs : s.size ≤ 1048576) (a n : Nat) (ha : a + n ≤ s.size) : ∀ (m i : Nat), i + m = n →
    lexis_Lexer__pass.l0 s a n i (plc s (a + i)).1 (plc s (a + i)).2 = some ((plc s (a + n)).1, (plc s (a + n)).2) := by
  have hz : (s.extract a (a + n)).size = n := by rw [cut_size ha]; omega
  intro m
  induction m with
  | zero =>
    intro i hi; obtain rfl : i = n := by omega
    rw [lexis_Lexer__pass.l0, wa (by omega), Int.toNat_natCast, Int.toNat_natCast, sb_len, hz, if_neg (nt (decide_eq_false (by omega)))]
  | succ m ih =>
    intro i hi
    have hb := plc_b s (a + i)
    have := ih (i + 1) (by omega)
    rw [lexis_Lexer__pass.l0, wa (by omega), Int.toNat_natCast, Int.toNat_natCast, sb_len, hz, if_pos (decide_eq_true (by omega)), if_pos (by omega), gt_sb _ _ (by omega), bA_part (by omega), w1 (by omega)]
    have e : a + (i + 1) = a + i + 1 := by omega
    rw [e, plc] at this
    by_cases h : bA s (a + i) = 10
    · rw [if_pos (by simpa using h), wi64_id (by omega) (by omega)]
      rw [if_pos h] at this; exact this
    · rw [if_neg (by simpa using h), wi64_id (by omega) (by omega)]
      rw [if_neg h] at this; exact this
theorem pass_p (s : ByteArray) (hs : s.size ≤ 1048576) (a n : Nat) (ha : a + n ≤ s.size) :
    lexis_Lexer__pass.f s a (plc s a).1 (plc s a).2 n = some (((a + n : Nat) : Int), (plc s (a + n)).1, (plc s (a + n)).2) := by
  unfold lexis_Lexer__pass.f
  have h0 : lexis_Lexer__pass.l0 s a n 0 (plc s a).1 (plc s a).2 = _ := pass_l s hs a n ha n 0 (by omega)
  rw [wa (by omega), if_pos (by omega), Int.toNat_natCast, Int.toNat_natCast, if_pos (by rw [cut_size ha]; omega), h0]
  rfl
def cmE (s : ByteArray) : Nat → Nat → Nat → Option Nat
  | 0, _, _ => none
  | n + 1, k, d => if k + 1 < s.size then
      if bA s k = 40 ∧ bA s (k + 1) = 42 then cmE s n (k + 2) (d + 1)
      else if bA s k = 42 ∧ bA s (k + 1) = 41 then (if d = 1 then some (k + 2) else cmE s n (k + 2) (d - 1))
      else cmE s n (k + 1) d
    else none
theorem cmE_le (s : ByteArray) : ∀ n k d e, cmE s n k d = some e → k + 2 ≤ e ∧ e ≤ s.size
  | 0, _, _, _, h => by cases h
  | n + 1, k, d, e, h => by
    unfold cmE at h
    split at h
    · split at h
      · have := cmE_le s n _ _ e h; omega
      · split at h
        · split at h
          · cases h; omega
          · have := cmE_le s n _ _ e h; omega
        · have := cmE_le s n _ _ e h; omega
    · cases h
theorem two_l (s : ByteArray) (k : Nat) (h : k + 1 < s.size) : (s.extract k (k + 2)).data.toList = [s.data.toList[k]'(by rw [← size_l]; omega), s.data.toList[k + 1]'(by rw [← size_l]; omega)] := by
  have h1 : k < s.data.toList.length := by rw [← size_l]; omega
  have h2 : k + 1 < s.data.toList.length := by rw [← size_l]; omega
  rw [cut_l, List.drop_take, show k + 2 - k = 2 by omega, List.drop_eq_getElem_cons h1, List.drop_eq_getElem_cons h2]
  rfl
theorem bA_at {s : ByteArray} {k : Nat} (h : k < s.size) : bA s k = (((s.data.toList[k]'(by rw [← size_l]; exact h)).toNat : Nat) : Int) := by
  rw [bA_l, List.getD_eq_getElem?_getD, List.getElem?_eq_getElem (by rw [← size_l]; exact h)]; rfl
theorem two_s {s : ByteArray} {k : Nat} (h : k + 1 < s.size) (x y : UInt8) : seq (s.extract k (k + 2)) (⟨#[x, y]⟩ : ByteArray) = decide (bA s k = (x.toNat : Int) ∧ bA s (k + 1) = (y.toNat : Int)) := by
  rw [seq_p]
  refine decide_eq_decide.2 ⟨fun e => ?_, fun e => ba_ext ?_⟩
  · have h2 := two_l s k h
    rw [e] at h2
    have h3 : [x, y] = _ := h2
    injection h3 with h4 h5
    injection h5 with h5 _
    rw [bA_at (by omega), bA_at h, ← h4, ← h5]; exact ⟨rfl, rfl⟩
  · rw [two_l s k h]
    rw [bA_at (by omega), bA_at h] at e
    show _ = [x, y]
    rw [show s.data.toList[k]'(by rw [← size_l]; omega) = x from UInt8.toNat_inj.1 (by omega), show s.data.toList[k + 1]'(by rw [← size_l]; omega) = y from UInt8.toNat_inj.1 (by omega)]
theorem comment_l (s : ByteArray) (hs : s.size ≤ 1048576) (a : Nat) : ∀ (n k d : Nat), a ≤ k → k ≤ s.size → s.size < k + 1 + n → d + n ≤ 4194304 → (1 ≤ d ∨ (bA s k = 40 ∧ bA s (k + 1) = 42)) →
    lexis_Lexer__comment.l0 s a d k = some (match cmE s n k d with | some e => .inr ((e - a : Nat) : Int) | none => .inl ()) := by
  intro n
  induction n with
  | zero =>
    intro k d h1 h0 h2 h3 h4
    rw [lexis_Lexer__comment.l0, wi64_id (by omega) (by omega), if_neg (nt (decide_eq_false (by omega)))]; rfl
  | succ n ih =>
    intro k d h1 h0 h2 h3 h4
    unfold cmE
    by_cases hk : k + 1 < s.size
    · rw [lexis_Lexer__comment.l0, w1 (by omega), w1 (by omega), w2 (by omega), if_pos (decide_eq_true (by omega)), if_pos (by omega), Int.toNat_natCast, Int.toNat_natCast, two_s hk, two_s hk, if_pos hk]
      have n40 : ((40 : UInt8).toNat : Int) = 40 := rfl
      have n41 : ((41 : UInt8).toNat : Int) = 41 := rfl
      have n42 : ((42 : UInt8).toNat : Int) = 42 := rfl
      rw [n40, n41, n42]
      by_cases ho : bA s k = 40 ∧ bA s (k + 1) = 42
      · rw [if_pos (decide_eq_true ho), if_pos ho, show IntKind.i64.wrap (((k + 1 : Nat) : Int) + 1) = ((k + 2 : Nat) : Int) from w1 (by omega)]
        exact ih (k + 2) (d + 1) (by omega) (by omega) (by omega) (by omega) (.inl (by omega))
      · have hd : 1 ≤ d := h4.resolve_right ho
        rw [if_neg (nt (decide_eq_false ho)), if_neg ho]
        by_cases hc : bA s k = 42 ∧ bA s (k + 1) = 41
        · rw [if_pos (decide_eq_true hc), if_pos hc]
          have e1 : IntKind.i64.wrap ((d : Int) - 1) = ((d - 1 : Nat) : Int) := wsub (b := 1) hd (by omega)
          rw [e1, show IntKind.i64.wrap (((k + 1 : Nat) : Int) + 1) = ((k + 2 : Nat) : Int) from w1 (by omega)]
          by_cases hd1 : d = 1
          · rw [if_pos (by rw [hd1]; rfl), if_pos hd1, wsub (by omega) (by omega)]
          · rw [if_neg (by simp; omega), if_neg hd1]
            exact ih (k + 2) (d - 1) (by omega) (by omega) (by omega) (by omega) (.inl (by omega))
        · rw [if_neg (nt (decide_eq_false hc)), if_neg hc]
          exact ih (k + 1) d (by omega) (by omega) (by omega) (by omega) (.inl hd)
    · rw [lexis_Lexer__comment.l0, wi64_id (by omega) (by omega), if_neg (nt (decide_eq_false (by omega))), if_neg hk]
theorem comment_p (s : ByteArray) (hs : s.size ≤ 1048576) (a : Nat) (x y : Int) (h1 : bA s a = 40) (h2 : bA s (a + 1) = 42) :
    lexis_Lexer__comment.f s a x y = some (match cmE s s.size (a + 2) 1 with | some e => ((e - a : Nat) : Int) | none => -1) := by
  have hk : a + 1 < s.size := Nat.lt_of_not_le (fun h => by rw [bA_end h] at h2; cases h2)
  have h := comment_l s hs a (s.size + 1) a 0 (Nat.le_refl _) (by omega) (by omega) (by omega) (.inr ⟨h1, h2⟩)
  have e0 : cmE s (s.size + 1) a 0 = cmE s s.size (a + 2) 1 := by rw [cmE, if_pos hk, if_pos ⟨h1, h2⟩]
  rw [e0] at h
  unfold lexis_Lexer__comment.f
  have h' : lexis_Lexer__comment.l0 s a 0 a = _ := h
  rw [h']
  cases cmE s s.size (a + 2) 1 <;> rfl
/-! ### Blanks -/
def isB (b : Int) : Bool := b == 32 || b == 9 || b == 10 || b == 13
theorem blank_i (u : UInt8) : (0 ≤ Lib.indexByte [32, 9, 13, 10] u) ↔ isB (u.toNat : Int) = true := by
  have h : ∀ n : Fin 256, (decide (0 ≤ Lib.indexByte [32, 9, 13, 10] (UInt8.ofNat n.1))) = isB ((UInt8.ofNat n.1).toNat : Int) := by decide +kernel
  have := h ⟨u.toNat, u.toNat_lt⟩
  simp only [UInt8.ofNat_toNat] at this
  rw [← this]; simp
theorem byt_u (s : ByteArray) (k : Nat) : (bA s k).toNat.toUInt8 = s.data.toList.getD k 0 := by rw [bA_l]; simp
theorem ib (s : ByteArray) (k : Nat) : ∃ r, strings_IndexByte.f (⟨#[32, 9, 13, 10]⟩ : ByteArray) (bA s k) = some r ∧ (0 ≤ r ↔ isB (bA s k) = true) := by
  refine ⟨_, rfl, ?_⟩
  rw [byt_u, bA_l]
  exact blank_i _
def blE (s : ByteArray) : Nat → Nat → Bool × Nat
  | 0, k => (true, k)
  | n + 1, k => if k < s.size then
      if isB (bA s k) = true then blE s n (k + 1)
      else if bA s k = 40 ∧ bA s (k + 1) = 42 then (match cmE s s.size (k + 2) 1 with | some e => blE s n e | none => (false, k))
      else (true, k)
    else (true, k)
theorem blE_b (s : ByteArray) : ∀ n k, k ≤ s.size → k ≤ (blE s n k).2 ∧ (blE s n k).2 ≤ s.size ∧ ((blE s n k).1 = false → (blE s n k).2 < s.size)
  | 0, k, h => ⟨Nat.le_refl _, h, fun h => by cases h⟩
  | n + 1, k, h => by
    unfold blE
    split
    · split
      · have := blE_b s n (k + 1) (by omega); exact ⟨by omega, this.2⟩
      · split
        · split
          · rename_i e he
            have h1 := cmE_le s _ _ _ _ he
            have := blE_b s n e h1.2; exact ⟨by omega, this.2⟩
          · exact ⟨Nat.le_refl _, h, fun _ => by assumption⟩
        · exact ⟨Nat.le_refl _, h, fun h => by cases h⟩
    · exact ⟨Nat.le_refl _, h, fun h => by cases h⟩
theorem pre2 (s : ByteArray) (k : Nat) (x y : UInt8) (hx : x ≠ 0) (hy : y ≠ 0) : Lib.hasPrefix (s.data.toList.drop k) [x, y] = decide (bA s k = (x.toNat : Int) ∧ bA s (k + 1) = (y.toNat : Int)) := by
  unfold Lib.hasPrefix
  rw [bA_l, bA_l]
  have gx : ∀ j, s.data.toList.getD (k + j) 0 = (s.data.toList.drop k).getD j 0 := fun j => by rw [List.getD_eq_getElem?_getD, List.getD_eq_getElem?_getD, List.getElem?_drop]
  have g0 := gx 0
  rw [Nat.add_zero] at g0
  rw [g0, gx 1]
  generalize s.data.toList.drop k = l
  have hu : ∀ a b : UInt8, ((a.toNat : Int) = (b.toNat : Int)) ↔ a = b := fun a b => ⟨fun h => UInt8.toNat_inj.1 (by omega), fun h => by rw [h]⟩
  have hz : ∀ b : UInt8, b ≠ 0 → ¬ ((0 : Int) = (b.toNat : Int)) := fun b hb h => hb (UInt8.toNat_inj.1 (by show b.toNat = 0; omega))
  match l with
  | [] => exact (decide_eq_false (fun h => hz x hx h.1)).symm
  | [a] =>
    show (x == a && false) = _
    rw [Bool.and_false]; exact (decide_eq_false (fun h => hz y hy h.2)).symm
  | a :: b :: r =>
    show (x == a && (y == b && true)) = decide ((a.toNat : Int) = (x.toNat : Int) ∧ (b.toNat : Int) = (y.toNat : Int))
    rw [Bool.and_true, Bool.eq_iff_iff]
    simp only [hu, Bool.and_eq_true, beq_iff_eq, decide_eq_true_eq]
    constructor <;> rintro ⟨rfl, rfl⟩ <;> exact ⟨rfl, rfl⟩
theorem blanks_p (s : ByteArray) (hs : s.size ≤ 1048576) : ∀ (n k : Nat), k ≤ s.size → s.size ≤ k + n →
    lexis_Lexer__blanks.f s k (plc s k).1 (plc s k).2 = some ((blE s n k).1, ((blE s n k).2 : Int), (plc s (blE s n k).2).1, (plc s (blE s n k).2).2) := by
  have key : ∀ (n k : Nat), k ≤ s.size → s.size ≤ k + n →
      lexis_Lexer__blanks.l0 s k (plc s k).1 (plc s k).2 = some (if (blE s n k).1 = true ∧ (blE s n k).2 = s.size then .inl (((blE s n k).2 : Int), (plc s (blE s n k).2).1, (plc s (blE s n k).2).2) else .inr ((blE s n k).1, ((blE s n k).2 : Int), (plc s (blE s n k).2).1, (plc s (blE s n k).2).2)) := by
    intro n
    induction n with
    | zero =>
      intro k h1 h2
      rw [lexis_Lexer__blanks.l0, if_neg (nt (decide_eq_false (by omega)))]
      unfold blE
      rw [if_pos ⟨rfl, by omega⟩]
    | succ n ih =>
      intro k h1 h2
      unfold blE
      by_cases hk : k < s.size
      · obtain ⟨r, i1, i2⟩ := ib s k
        rw [lexis_Lexer__blanks.l0, if_pos (decide_eq_true (by omega)), if_pos (by omega), i1, if_pos hk]
        simp only [Option.bind_eq_bind, Option.bind_some]
        by_cases hb : isB (bA s k) = true
        · have hp : lexis_Lexer__pass.f s k (plc s k).1 (plc s k).2 1 = _ := pass_p s hs k 1 (by omega)
          rw [if_pos (decide_eq_true (i2.2 hb)), if_pos hb, hp]
          simp only [Option.bind_some]
          exact ih (k + 1) (by omega) (by omega)
        · rw [if_neg (nt (decide_eq_false (mt i2.1 hb))), if_neg hb, if_pos (by omega)]
          have hpre : strings_HasPrefix.f (s.extract (k : Int).toNat s.size) (⟨#[40, 42]⟩ : ByteArray) = some (decide (bA s k = 40 ∧ bA s (k + 1) = 42)) := by
            show some (Lib.hasPrefix (s.extract (k : Int).toNat s.size).data.toList [40, 42]) = _
            rw [Int.toNat_natCast, cut_l, size_l, List.take_length, pre2 s k 40 42 (by decide) (by decide)]; rfl
          rw [hpre]
          simp only [Option.bind_some]
          by_cases hc : bA s k = 40 ∧ bA s (k + 1) = 42
          · rw [if_pos (decide_eq_true hc), if_pos hc, comment_p s hs k _ _ hc.1 hc.2]
            simp only [Option.bind_some]
            match hm : cmE s s.size (k + 2) 1 with
            | none => simp only [hm]; rfl
            | some e =>
              have he := cmE_le s _ _ _ _ hm
              simp only [hm]
              rw [if_neg (nt (decide_eq_false (by omega))), pass_p s hs k (e - k) (by omega)]
              simp only [Option.bind_some]
              rw [show k + (e - k) = e by omega]
              exact ih e he.2 (by omega)
          · rw [if_neg (nt (decide_eq_false hc)), if_neg hc, if_neg (fun h => by have := h.2; simp only at this; omega)]
      · rw [lexis_Lexer__blanks.l0, if_neg (nt (decide_eq_false (by omega))), if_neg hk, if_pos ⟨rfl, by simp only; omega⟩]
  intro n k h1 h2
  unfold lexis_Lexer__blanks.f
  rw [key n k h1 h2]
  by_cases h : (blE s n k).1 = true ∧ (blE s n k).2 = s.size
  · rw [if_pos h, h.1]; rfl
  · rw [if_neg h]; rfl
end Go.Proofs.YtboejepakdnbgaaGreatDoor.K
