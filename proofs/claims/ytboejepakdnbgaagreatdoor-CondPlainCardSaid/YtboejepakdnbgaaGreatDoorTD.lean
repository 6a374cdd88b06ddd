/- The tokens of a text, piece by piece: names, numerals, signs, blanks. -/
import Derived.Test.YtboejepakdnbgaaGreatDoorLG
import Derived.Test.YtboejepakdnbgaaGreatDoorTC
import Derived.Test.YtboejepakdnbgaaGreatDoorTB
set_option linter.unusedVariables false
set_option linter.unusedSectionVars false
set_option linter.unusedSimpArgs false
set_option maxRecDepth 100000
namespace Go.Proofs.YtboejepakdnbgaaGreatDoor.K.C
open Go

def Rd (s : ByteArray) (a : Nat) (w : ByteArray) : Prop := a + w.size ≤ s.size ∧ ∀ j, j < w.size → bA s (a + j) = bA w j
theorem bA_app (u v : ByteArray) (j : Nat) : bA (u ++ v) j = if j < u.size then bA u j else bA v (j - u.size) := by
  rw [bA_l, bA_l, bA_l, ByteArray.data_append, Array.toList_append]
  have hu : u.size = u.data.toList.length := K.size_l u
  by_cases h : j < u.size
  · rw [if_pos h, List.getD_eq_getElem?_getD, List.getElem?_append_left (by omega), ← List.getD_eq_getElem?_getD]
  · rw [if_neg h, List.getD_eq_getElem?_getD, List.getElem?_append_right (by omega), ← List.getD_eq_getElem?_getD, hu]
theorem Rd.left {s u v : ByteArray} {a : Nat} (h : Rd s a (u ++ v)) : Rd s a u := by
  obtain ⟨h1, h2⟩ := h
  rw [sz] at h1 h2
  refine ⟨by omega, fun j hj => ?_⟩
  rw [h2 j (by omega), bA_app, if_pos hj]
theorem Rd.right {s u v : ByteArray} {a : Nat} (h : Rd s a (u ++ v)) : Rd s (a + u.size) v := by
  obtain ⟨h1, h2⟩ := h
  rw [sz] at h1 h2
  refine ⟨by omega, fun j hj => ?_⟩
  have := h2 (u.size + j) (by omega)
  rw [bA_app, if_neg (by omega), show u.size + j - u.size = j by omega] at this
  rw [← this]
  congr 1; omega
theorem Rd.cut {s w : ByteArray} {a : Nat} (h : Rd s a w) : s.extract a (a + w.size) = w := by
  refine ba_ext (List.ext_getElem ?_ ?_)
  · rw [← K.size_l, ← K.size_l, cut_size h.1]; omega
  · intro j h1 h2
    have hj : j < w.size := by rw [K.size_l]; exact h2
    have e1 := bA_part (s := s) (a := a) (b := a + w.size) (k := j) (by omega)
    rw [h.2 j hj, bA_l, bA_l, List.getD_eq_getElem?_getD, List.getD_eq_getElem?_getD, List.getElem?_eq_getElem h1, List.getElem?_eq_getElem h2] at e1
    simp only [Option.getD_some] at e1
    have := UInt8.toNat_inj.1 (Int.ofNat.inj e1)
    exact this
/-! ### Letters -/
theorem cls_all : ∀ n : Fin 256, (48 ≤ (n.1 : Int) ∧ (n.1 : Int) ≤ 57 → K.isL (n.1 : Int) = false) ∧ K.isD (n.1 : Int) = decide (48 ≤ (n.1 : Int) ∧ (n.1 : Int) ≤ 57) ∧ dgt 10 (n.1 : Int) = if 48 ≤ (n.1 : Int) ∧ (n.1 : Int) ≤ 57 then some ((n.1 : Int) - 48) else none := by decide +kernel
theorem cls {b : Int} (h : 0 ≤ b ∧ b ≤ 255) : (48 ≤ b ∧ b ≤ 57 → K.isL b = false) ∧ K.isD b = decide (48 ≤ b ∧ b ≤ 57) ∧ dgt 10 b = if 48 ≤ b ∧ b ≤ 57 then some (b - 48) else none := by
  have := cls_all ⟨b.toNat, by omega⟩
  have e : ((⟨b.toNat, by omega⟩ : Fin 256).1 : Int) = b := by show ((b.toNat : Nat) : Int) = b; omega
  rw [e] at this; exact this
/-! ### Names -/
theorem byA_bA (w : ByteArray) (k : Nat) : byA w k = bA w k := by
  unfold byA
  by_cases h : k < w.size
  · rw [if_pos h]
  · rw [if_neg h, bA_end (by omega)]
theorem onB_eq (w : ByteArray) (k : Nat) : onB w k = K.onB w k := by
  unfold onB K.onB
  rw [byA_bA, byA_bA]; rfl
theorem endN_all (w : ByteArray) : ∀ (n k : Nat), endN w n k = k + n → ∀ j, k ≤ j → j < k + n → K.onB w j = true
  | 0, k, _, j, h1, h2 => by omega
  | n + 1, k, h, j, h1, h2 => by
    rw [endN_s] at h
    by_cases hk : onB w k = true
    · rw [if_pos hk] at h
      by_cases e : j = k
      · subst e; rw [← onB_eq]; exact hk
      · exact endN_all w n (k + 1) (by omega) j (by omega) (by omega)
    · rw [if_neg hk] at h; omega
theorem endN_run (s : ByteArray) {e : Nat} (he : K.onB s e = false) : ∀ (n k : Nat), k ≤ e → e ≤ k + n → (∀ j, k ≤ j → j < e → K.onB s j = true) → K.endN s n k = e
  | 0, k, h1, h2, _ => by unfold K.endN; omega
  | n + 1, k, h1, h2, h3 => by
    rw [K.endN_s]
    by_cases h : k = e
    · subst h; rw [if_neg (by rw [he]; decide)]
    · rw [if_pos (h3 k (Nat.le_refl _) (by omega))]
      exact endN_run s he n (k + 1) (by omega) (by omega) (fun j hj hj2 => h3 j (by omega) hj2)
theorem name_facts {w : ByteArray} (h : isName w = true) : 1 ≤ w.size ∧ w.size ≤ 64 ∧ K.isL (bA w 0) = true ∧ ∀ j, 1 ≤ j → j < w.size → K.onB w j = true := by
  unfold isName at h
  simp only [Bool.and_eq_true, decide_eq_true_eq, beq_iff_eq] at h
  obtain ⟨⟨⟨h1, h2⟩, h3⟩, h4⟩ := h
  refine ⟨h1, h2, ?_, fun j hj hj2 => endN_all w (w.size - 1) 1 (by omega) j hj (by omega)⟩
  rw [byA_bA] at h3; exact h3
def Fol (c : Int) : Prop := c = 0 ∨ c = 32 ∨ c = 41 ∨ c = 58 ∨ c = 61 ∨ c = 93 ∨ c = 9
theorem fol_B {s : ByteArray} {e : Nat} (h : Fol (bA s e)) : K.onB s e = false ∧ onN s e = false := by
  have hl : K.isL (bA s e) = false ∧ K.isD (bA s e) = false := by
    rcases h with h | h | h | h | h | h | h <;> rw [h] <;> decide
  unfold K.onB onN
  rw [hl.1, hl.2]
  rcases h with h | h | h | h | h | h | h <;> rw [h] <;> simp
theorem name_lex {s w : ByteArray} {a : Nat} (h : Rd s a w) (hn : isName w = true) (hf : Fol (bA s (a + w.size))) : tkE s a = .inr (1, w, 0, a + w.size) := by
  obtain ⟨h1, h2, h3, h4⟩ := name_facts hn
  have h0 : bA s a = bA w 0 := h.2 0 (by omega)
  have he := (fol_B hf).1
  have hend : K.endN s (s.size - (a + 1)) (a + 1) = a + w.size := by
    refine endN_run s he _ _ (by omega) (by have := h.1; omega) (fun j hj hj2 => ?_)
    have hw := h4 (j - a) (by omega) (by omega)
    have hj0 : bA s j = bA w (j - a) := by have := h.2 (j - a) (by omega); rw [show a + (j - a) = j by omega] at this; exact this
    unfold K.onB at hw ⊢
    rw [hj0]
    by_cases hlast : j - a + 1 < w.size
    · have hj1 : bA s (j + 1) = bA w (j - a + 1) := by have := h.2 (j - a + 1) hlast; rw [show a + (j - a + 1) = j + 1 by omega] at this; exact this
      rw [hj1]; exact hw
    · rw [bA_end (s := w) (k := j - a + 1) (by omega)] at hw
      have : (K.isL 0 || K.isD 0) = false := by decide
      rw [this, Bool.and_false, Bool.or_false] at hw
      rw [hw]; rfl
  unfold tkE
  rw [h0, if_pos h3, hend, if_neg (by omega), h.cut]
def valL : List UInt8 → Nat → Nat
  | [], a => a
  | d :: r, a => valL r (a * 10 + (d.toNat - 48))
def isDg' (d : UInt8) : Prop := 48 ≤ d.toNat ∧ d.toNat ≤ 57
theorem valL_app : ∀ (x y : List UInt8) (a : Nat), valL (x ++ y) a = valL y (valL x a)
  | [], _, _ => rfl
  | d :: x, y, a => by simp only [List.cons_append, valL]; exact valL_app x y _
theorem digs_dec : ∀ (k u : Nat), u < 10 ^ (k + 1) → (∀ d ∈ Lib.decDigits u, isDg' d) ∧ valL (Lib.decDigits u) 0 = u ∧ 1 ≤ (Lib.decDigits u).length := by
  have one : ∀ u, u < 10 → isDg' (UInt8.ofNat (48 + u)) ∧ (UInt8.ofNat (48 + u)).toNat = 48 + u := by
    intro u hu
    have : (UInt8.ofNat (48 + u)).toNat = 48 + u := by rw [UInt8.toNat_ofNat']; omega
    unfold isDg'
    rw [this]; exact ⟨by omega, rfl⟩
  intro k
  induction k with
  | zero =>
    intro u hu
    have hu : u < 10 := by simpa using hu
    rw [Lib.decDigits, dif_pos hu]
    refine ⟨?_, ?_, Nat.le_refl _⟩
    · intro d hd; rw [List.mem_singleton.1 hd]; exact (one u hu).1
    · simp only [valL, (one u hu).2]; omega
  | succ k ih =>
    intro u hu
    by_cases h1 : u < 10
    · rw [Lib.decDigits, dif_pos h1]
      refine ⟨?_, ?_, Nat.le_refl _⟩
      · intro d hd; rw [List.mem_singleton.1 hd]; exact (one u h1).1
      · simp only [valL, (one u h1).2]; omega
    · rw [Lib.decDigits, dif_neg h1]
      obtain ⟨i1, i2, i3⟩ := ih (u / 10) (by rw [Nat.pow_succ] at hu; omega)
      have hm := one (u % 10) (Nat.mod_lt _ (by decide))
      refine ⟨?_, ?_, by simp⟩
      · intro d hd
        rcases List.mem_append.1 hd with hd | hd
        · exact i1 d hd
        · rw [List.mem_singleton.1 hd]; exact hm.1
      · rw [valL_app, i2]
        simp only [valL, hm.2]; omega
theorem valL_ge : ∀ (ds : List UInt8) (a : Nat), a ≤ valL ds a
  | [], a => Nat.le_refl _
  | d :: r, a => by simp only [valL]; exact Nat.le_trans (by omega) (valL_ge r _)
theorem dgL_run (f : Nat → Int) : ∀ (ds : List UInt8) (n k acc : Nat), ds.length ≤ n → (∀ j (h : j < ds.length), f (k + j) = ((ds[j]).toNat : Int)) → (∀ d ∈ ds, isDg' d) → (n = ds.length ∨ dgt 10 (f (k + ds.length)) = none) → valL ds acc < 18446744073709551616 →
    dgL f 10 n k (acc : Int) false = (((valL ds acc : Nat) : Int), false, k + ds.length)
  | [], n, k, acc, h1, h2, h3, h4, h5 => by
    cases n with
    | zero => rfl
    | succ n =>
      have h4' : dgt 10 (f k) = none := by rcases h4 with h4 | h4; exact absurd h4 (by simp); simpa using h4
      rw [dgL, h4']; rfl
  | d :: r, n, k, acc, h1, h2, h3, h4, h5 => by
    obtain ⟨m, rfl⟩ : ∃ m, n = m + 1 := ⟨n - 1, by simp only [List.length_cons] at h1; omega⟩
    have hd := h3 d (List.mem_cons_self ..)
    have hf : f k = (d.toNat : Int) := by have := h2 0 (by simp); simpa using this
    unfold isDg' at hd
    have hc := (cls (b := (d.toNat : Int)) (by omega)).2.2
    rw [if_pos (by omega)] at hc
    have hge := valL_ge r (acc * 10 + (d.toNat - 48))
    simp only [valL] at h5
    rw [dgL, hf, hc]
    simp only
    have e1 : ((acc : Int) * 10 + ((d.toNat : Int) - 48)) = ((acc * 10 + (d.toNat - 48) : Nat) : Int) := by omega
    rw [e1, decide_eq_false (by omega), Bool.or_false, Int.emod_eq_of_lt (by omega) (by omega)]
    rw [dgL_run f r m (k + 1) (acc * 10 + (d.toNat - 48)) (by simp only [List.length_cons] at h1; omega)
      (fun j hj => by have := h2 (j + 1) (by simp only [List.length_cons]; omega); rw [show k + 1 + j = k + (j + 1) by omega, this]; rfl)
      (fun x hx => h3 x (List.mem_cons_of_mem _ hx))
      (by rcases h4 with h4 | h4
          · left; simp only [List.length_cons] at h4; omega
          · right; rw [List.length_cons] at h4; rw [show k + 1 + r.length = k + (r.length + 1) by omega]; exact h4) h5]
    simp only [valL, List.length_cons]
    rw [show k + 1 + r.length = k + (r.length + 1) by omega]
theorem itoa_form {v : Int} (h : -9223372036854775808 ≤ v ∧ v ≤ 9223372036854775807) : ∃ ds : List UInt8, (∀ d ∈ ds, isDg' d) ∧ valL ds 0 = v.natAbs ∧ 1 ≤ ds.length ∧ ds.length ≤ 19 ∧ (itoaB v).data.toList = (if v < 0 then [45] else []) ++ ds := by
  obtain ⟨d1, d2, d3⟩ := digs_dec 18 v.natAbs (by omega)
  have d4 := dec_len 18 v.natAbs (by omega)
  refine ⟨Lib.decDigits v.natAbs, d1, d2, d3, d4, ?_⟩
  unfold itoaB Lib.itoa
  by_cases hv : v < 0
  · simp [hv]
  · simp only [if_neg hv, List.nil_append]
    rw [show v.toNat = v.natAbs by omega]
theorem num_parse {v : Int} (h : -9223372036854775808 ≤ v ∧ v ≤ 9223372036854775807) : numP (itoaB v) = (v, 0) := by
  obtain ⟨ds, h1, h2, h3, h4, h5⟩ := itoa_form h
  generalize hx : itoaB v = x at h5 ⊢
  have hsz : x.size = (if v < 0 then 1 else 0) + ds.length := by
    rw [K.size_l, h5, List.length_append]
    congr 1
    split <;> rfl
  have hofs : ofs x = if v < 0 then 1 else 0 := by
    unfold ofs
    rw [bA_l, h5]
    by_cases hv : v < 0
    · simp [hv]
    · simp only [if_neg hv, List.nil_append]
      obtain ⟨d, r, rfl⟩ : ∃ d r, ds = d :: r := by cases ds with | nil => simp at h3 | cons d r => exact ⟨d, r, rfl⟩
      have := h1 d (List.mem_cons_self ..)
      unfold isDg' at this
      rw [if_neg (by simp; omega)]
  have hbO : ∀ j, bO x j = ((ds.getD j 0).toNat : Int) := by
    intro j
    show bA x (ofs x + j) = _
    rw [bA_l, h5, hofs]
    by_cases hv : v < 0
    · simp only [if_pos hv, List.cons_append, List.nil_append]
      rw [show 1 + j = j + 1 by omega, List.getD_cons_succ]
    · simp only [if_neg hv, List.nil_append, Nat.zero_add]
  have hdig : ∀ j (hj : j < ds.length), 48 ≤ bO x j ∧ bO x j ≤ 57 := by
    intro j hj
    have := h1 _ (List.getElem_mem hj)
    unfold isDg' at this
    rw [hbO, List.getD_eq_getElem?_getD, List.getElem?_eq_getElem hj]
    simp only [Option.getD_some]; omega
  have hend : bO x ds.length = 0 := by
    rw [hbO, List.getD_eq_getElem?_getD, List.getElem?_eq_none (Nat.le_refl _)]; rfl
  have hhex : isHex x = false := by
    unfold isHex
    have : (bO x 1 == 120 || bO x 1 == 88) = false := by
      by_cases h : 1 < ds.length
      · have := hdig 1 h
        simp; omega
      · have : ds.length = 1 := by omega
        rw [this] at hend
        rw [hend]; decide
    rw [this]; simp
  have hnum : numV x = ((v.natAbs : Int), false, ds.length) := by
    unfold numV
    rw [hhex]
    simp only [Bool.false_eq_true, if_false]
    have hd0 : dgt 10 (0 : Int) = none := by have := (cls (b := 0) (by omega)).2.2; rw [if_neg (by omega)] at this; exact this
    have hr := dgL_run (bO x) ds (x.size + 1) 0 0 (by omega) (fun j hj => by rw [Nat.zero_add, hbO, List.getD_eq_getElem?_getD, List.getElem?_eq_getElem hj]; rfl) h1 (.inr (by rw [Nat.zero_add, hend]; exact hd0)) (by rw [h2]; omega)
    rw [show (((0 : Nat)) : Int) = 0 from rfl] at hr
    rw [hr, h2, Nat.zero_add]
  have hN : numN x = (v, ((ofs x + ds.length : Nat) : Int), 0) := by
    unfold numN
    rw [hnum, hhex]
    simp only [Bool.false_eq_true, if_false, false_or]
    rw [if_neg (by omega)]
    by_cases hv : v < 0
    · have ho : ofs x = 1 := by rw [hofs, if_pos hv]
      rw [ho, if_neg (by omega), if_pos rfl]
      have e1 : IntKind.u64.wrap (0 - (v.natAbs : Int)) = 18446744073709551616 - (v.natAbs : Int) := by
        simp [IntKind.wrap, IntKind.bits, IntKind.signed]; omega
      have e2 : IntKind.i64.wrap (18446744073709551616 - (v.natAbs : Int)) = v := by
        simp [IntKind.wrap, IntKind.bits, IntKind.signed]; omega
      rw [e1, e2]
    · have ho : ofs x = 0 := by rw [hofs, if_neg hv]
      rw [ho, if_neg (by omega), if_neg (by decide), wi64_id (by omega) (by omega)]
      rw [show ((v.natAbs : Nat) : Int) = v by omega]
  unfold numP
  rw [hN, hnum]
  simp only
  rw [if_neg (by decide), if_neg (by rw [hsz, hofs]; omega)]
theorem noE_run (s : ByteArray) {e : Nat} (he : onN s e = false) : ∀ (n k : Nat), k ≤ e → e ≤ k + n → (∀ j, k ≤ j → j < e → onN s j = true) → noE s n k = e
  | 0, k, h1, h2, _ => by unfold noE; omega
  | n + 1, k, h1, h2, h3 => by
    rw [noE_s]
    by_cases h : k = e
    · subst h; rw [if_neg (by rw [he]; decide)]
    · rw [if_pos (h3 k (Nat.le_refl _) (by omega))]
      exact noE_run s he n (k + 1) (by omega) (by omega) (fun j hj hj2 => h3 j (by omega) hj2)
theorem num_lex {s : ByteArray} {a : Nat} {v : Int} (h : -9223372036854775808 ≤ v ∧ v ≤ 9223372036854775807) (hr : Rd s a (itoaB v)) (hf : Fol (bA s (a + (itoaB v).size))) : tkE s a = .inr (2, itoaB v, v, a + (itoaB v).size) := by
  have hp := num_parse h
  obtain ⟨ds, h1, h2, h3, h4, h5⟩ := itoa_form h
  generalize hx : itoaB v = x at hr hf hp h5 ⊢
  have hsz : x.size = (if v < 0 then 1 else 0) + ds.length := by
    rw [K.size_l, h5, List.length_append]
    congr 1
    split <;> rfl
  have hbx : ∀ j, j < x.size → (v < 0 ∧ j = 0 → bA x j = 45) ∧ (¬ (v < 0 ∧ j = 0) → 48 ≤ bA x j ∧ bA x j ≤ 57) := by
    intro j hj
    rw [bA_l, h5]
    by_cases hv : v < 0
    · simp only [if_pos hv, List.cons_append, List.nil_append]
      cases j with
      | zero => exact ⟨fun _ => rfl, fun h => absurd ⟨hv, rfl⟩ h⟩
      | succ j =>
        refine ⟨fun h => absurd h.2 (by omega), fun _ => ?_⟩
        rw [if_pos hv] at hsz
        have hj2 : j < ds.length := by omega
        have := h1 _ (List.getElem_mem hj2)
        unfold isDg' at this
        rw [List.getD_cons_succ, List.getD_eq_getElem?_getD, List.getElem?_eq_getElem hj2]
        simp only [Option.getD_some]; omega
    · simp only [if_neg hv, List.nil_append]
      refine ⟨fun h => absurd h.1 hv, fun _ => ?_⟩
      rw [if_neg hv] at hsz
      have hj2 : j < ds.length := by omega
      have := h1 _ (List.getElem_mem hj2)
      unfold isDg' at this
      rw [List.getD_eq_getElem?_getD, List.getElem?_eq_getElem hj2]
      simp only [Option.getD_some]; omega
  have h0 : bA s a = bA x 0 := hr.2 0 (by omega)
  have hb := bA_b x 0
  have hdig : ∀ j, a < j → j < a + x.size → 48 ≤ bA s j ∧ bA s j ≤ 57 := by
    intro j hj hj2
    have e := hr.2 (j - a) (by omega)
    rw [show a + (j - a) = j by omega] at e
    rw [e]
    exact (hbx (j - a) (by omega)).2 (by omega)
  have hL : K.isL (bA s a) = false := by
    rw [h0]
    by_cases hv : v < 0
    · rw [(hbx 0 (by omega)).1 ⟨hv, rfl⟩]; decide
    · exact (cls hb).1 ((hbx 0 (by omega)).2 (by omega))
  have hD : K.isD (bA s a) = true ∨ (bA s a = 45 ∧ K.isD (bA s (a + 1)) = true) := by
    by_cases hv : v < 0
    · right
      refine ⟨by rw [h0]; exact (hbx 0 (by omega)).1 ⟨hv, rfl⟩, ?_⟩
      rw [if_pos hv] at hsz
      have := hdig (a + 1) (by omega) (by omega)
      rw [(cls (bA_b s (a + 1))).2.1]; exact decide_eq_true this
    · left
      rw [h0, (cls hb).2.1]
      exact decide_eq_true ((hbx 0 (by omega)).2 (by omega))
  have hend : noE s (s.size - (a + 1)) (a + 1) = a + x.size := by
    refine noE_run s (fol_B hf).2 _ _ (by omega) (by have := hr.1; omega) (fun j hj hj2 => ?_)
    have := hdig j (by omega) hj2
    unfold onN
    rw [(cls (bA_b s j)).2.1, decide_eq_true this]; simp
  unfold tkE
  rw [hL]
  simp only [Bool.false_eq_true, if_false]
  rw [if_pos hD, hend, hr.cut, hp]
  simp
/-! ### Signs -/
theorem at_head {s p : ByteArray} {a : Nat} (h : at_ s a p = true) (hp : 1 ≤ p.size) : bA s a = bA p 0 := by
  unfold at_ at h
  have h := of_decide_eq_true h
  rw [bA_l, bA_l, h, List.getD_eq_getElem?_getD, List.getD_eq_getElem?_getD, List.getElem?_take_of_lt (by omega), List.getElem?_drop, Nat.add_zero]
theorem sign1 {s : ByteArray} {a : Nat} {c : Nat} (ha : a < s.size) (h : bA s a = (c : Int)) (hc : c = 40 ∨ c = 41 ∨ c = 58 ∨ c = 61 ∨ c = 126 ∨ c = 91 ∨ c = 93) : tkE s a = .inr (4, s.extract a (a + 1), 0, a + 1) := by
  have hL : K.isL (c : Int) = false ∧ K.isD (c : Int) = false ∧ shE (c : Int) 18 0 = true ∧ (c : Int) ≠ 45 ∧ (c : Int) ≠ 34 ∧ (c : Int) ≠ 47 ∧ (c : Int) ≠ 92 ∧ (c : Int) ≠ 94 := by
    rcases hc with rfl | rfl | rfl | rfl | rfl | rfl | rfl <;> decide
  obtain ⟨l1, l2, l3, l4, l5, l6, l7, l8⟩ := hL
  have hg : ∀ i, i < 3 → at_ s a (lng i) = false := by
    intro i hi
    cases hat : at_ s a (lng i)
    · rfl
    · have := at_head hat (by have := lng_z i; omega)
      rw [h] at this
      match i, hi with
      | 0, _ => exact absurd this (by rw [show bA (lng 0) 0 = 47 from by decide]; exact l6)
      | 1, _ => exact absurd this (by rw [show bA (lng 1) 0 = 92 from by decide]; exact l7)
      | 2, _ => exact absurd this (by rw [show bA (lng 2) 0 = 94 from by decide]; exact l8)
  have hsg : sgE s a = 1 := by
    unfold sgE
    have : lgE s a 3 0 = none := by
      show (if at_ s a (lng 0) = true then some (lng 0) else if at_ s a (lng 1) = true then some (lng 1) else if at_ s a (lng 2) = true then some (lng 2) else none) = none
      rw [hg 0 (by omega), hg 1 (by omega), hg 2 (by omega)]; rfl
    rw [this, h, l3]; rfl
  unfold tkE
  rw [h, l1, l2]
  simp only [Bool.false_eq_true, if_false, false_or]
  rw [if_neg (fun x => l4 x.1), if_neg l5, hsg, if_neg (by decide)]
theorem rd_at {s p : ByteArray} {a : Nat} (h : Rd s a p) : at_ s a p = true := by
  unfold at_
  refine decide_eq_true ?_
  have := congrArg (fun x : ByteArray => x.data.toList) h.cut
  rw [cut_l] at this
  rw [← this, List.drop_take, show a + p.size - a = p.size by omega]
theorem sign2 {s : ByteArray} {a : Nat} (i : Nat) (hi : i < 2) (h : Rd s a (lng i)) : tkE s a = .inr (4, lng i, 0, a + 2) := by
  have hz : (lng i).size = 2 := by match i, hi with | 0, _ => rfl | 1, _ => rfl
  have h0 : bA s a = bA (lng i) 0 := h.2 0 (by omega)
  have hc : bA (lng i) 0 = 47 ∧ i = 0 ∨ bA (lng i) 0 = 92 ∧ i = 1 := by match i, hi with | 0, _ => exact .inl ⟨by decide, rfl⟩ | 1, _ => exact .inr ⟨by decide, rfl⟩
  have hL : K.isL (bA s a) = false ∧ K.isD (bA s a) = false ∧ bA s a ≠ 45 ∧ bA s a ≠ 34 := by
    rw [h0]
    rcases hc with ⟨hc, -⟩ | ⟨hc, -⟩ <;> rw [hc] <;> decide
  have hsg : sgE s a = 2 := by
    unfold sgE
    have : lgE s a 3 0 = some (lng i) := by
      show (if at_ s a (lng 0) = true then some (lng 0) else if at_ s a (lng 1) = true then some (lng 1) else if at_ s a (lng 2) = true then some (lng 2) else none) = some (lng i)
      rcases hc with ⟨hc, rfl⟩ | ⟨hc, rfl⟩
      · rw [if_pos (rd_at h)]
      · rw [if_neg, if_pos (rd_at h)]
        intro hat
        have := at_head hat (by decide)
        rw [h0, hc] at this
        exact absurd this (by decide)
    rw [this]; exact hz
  obtain ⟨l1, l2, l3, l4⟩ := hL
  unfold tkE
  rw [l1, l2]
  simp only [Bool.false_eq_true, if_false, false_or]
  rw [if_neg (fun x => l3 x.1), if_neg l4, hsg, if_neg (by decide)]
  have := h.cut
  rw [hz] at this
  rw [this]
/-! ### Runs of tokens -/
structure Tk where
  k : Int
  x : ByteArray
  v : Int
inductive Run (s : ByteArray) : Nat → List Tk → Nat → Prop
  | one {a e : Nat} {t : Tk} (ha : a < s.size) (h : tkE s a = .inr (t.k, t.x, t.v, e)) (hk : t.k ≠ 0) (he : e ≤ s.size) : Run s a [t] e
  | cons {a b e f : Nat} {t u : Tk} {r : List Tk} (ha : a < s.size) (h : tkE s a = .inr (t.k, t.x, t.v, e)) (hk : t.k ≠ 0) (he : e ≤ s.size) (hb : blE s s.size e = (true, b)) (hr : Run s b (u :: r) f) : Run s a (t :: u :: r) f
theorem Run.app {s : ByteArray} {a b e f : Nat} {x y : List Tk} (h : Run s a x e) (hb : blE s s.size e = (true, b)) (hy : Run s b y f) : Run s a (x ++ y) f := by
  induction h with
  | one ha h hk he =>
    cases hy with
    | one ha' h' hk' he' => exact .cons ha h hk he hb (.one ha' h' hk' he')
    | cons ha' h' hk' he' hb' hr' => exact .cons ha h hk he hb (.cons ha' h' hk' he' hb' hr')
  | cons ha h hk he hb' hr ih => exact .cons ha h hk he hb' (ih hb)
def Same (L : List api_Token) (x : List Tk) : Prop := L.map (fun t => (t.Kind, t.Text, t.Value)) = x.map (fun t => (t.k, t.x, t.v))
def NoB (s : ByteArray) (a : Nat) : Prop := isB (bA s a) = false ∧ ¬ (bA s a = 40 ∧ bA s (a + 1) = 42)
theorem blE_stop {s : ByteArray} {a : Nat} (h : NoB s a) : ∀ n, blE s n a = (true, a)
  | 0 => rfl
  | n + 1 => by
    unfold blE
    split
    · rw [if_neg (by rw [h.1]; decide), if_neg h.2]
    · rfl
def Blk (W : ByteArray) : Prop := ∀ (s : ByteArray) (a : Nat), Rd s a W → NoB s (a + W.size) → blE s s.size a = (true, a + W.size)
theorem blk_one : Blk (⟨#[32]⟩ : ByteArray) := by
  intro s a h hn
  have h0 : bA s a = 32 := h.2 0 (by decide)
  have hs := h.1
  rw [show (⟨#[32]⟩ : ByteArray).size = 1 from rfl] at hs hn ⊢
  obtain ⟨n, hn2⟩ : ∃ n, s.size = n + 1 := ⟨s.size - 1, by omega⟩
  rw [hn2]
  unfold blE
  rw [if_pos (by omega), if_pos (by rw [h0]; decide)]
  exact blE_stop hn n
end Go.Proofs.YtboejepakdnbgaaGreatDoor.K.C
