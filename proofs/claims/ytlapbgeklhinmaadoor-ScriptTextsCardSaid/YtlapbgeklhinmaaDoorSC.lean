/- A word of a script, as the program and as the document read it. -/
import Derived.Test.YtlapbgeklhinmaaDoorFZ
import Derived.Test.YtlapbgeklhinmaaDoorSB
set_option linter.unusedVariables false
set_option linter.unusedSimpArgs false
set_option maxRecDepth 100000
namespace Go.Proofs.YtlapbgeklhinmaaDoor.K
open Go

theorem nt {b : Bool} (h : b = false) : ¬ b = true := by simp [h]
theorem gt_nat {α : Type} [Inhabited α] {xs : List α} {t : Nat} (h : t < xs.length) : gt xs (t : Int) = xs[t] := by
  unfold gt; rw [Int.toNat_natCast, List.getD_eq_getElem?_getD, List.getElem?_eq_getElem h]; rfl
theorem w1 {t : Nat} (h : t < 9223372036854775807) : IntKind.i64.wrap ((t : Int) + 1) = ((t + 1 : Nat) : Int) := by rw [wi64_id (by omega) (by omega)]; omega
theorem seq_p (x y : ByteArray) : seq x y = decide (x = y) := by
  unfold seq
  by_cases h : x = y
  · subst h; simp
  · rw [decide_eq_false h, ByteArray.toList_eq, ByteArray.toList_eq]
    refine Bool.eq_false_iff.2 (fun e => h ?_)
    obtain ⟨a⟩ := x
    obtain ⟨b⟩ := y
    rw [beq_iff_eq] at e
    exact congrArg ByteArray.mk (Array.toList_inj.1 e)
theorem ba_ext {x y : ByteArray} (h : x.data.toList = y.data.toList) : x = y := by
  obtain ⟨a⟩ := x
  obtain ⟨b⟩ := y
  exact congrArg ByteArray.mk (Array.toList_inj.1 h)
theorem size_l (s : ByteArray) : s.size = s.data.toList.length := Lib.size_eq s
theorem byt_drop {s : ByteArray} {k : Nat} {b : UInt8} {r : List UInt8} (h : s.data.toList.drop k = b :: r) : byt s (k : Int) = (b.toNat : Int) ∧ k < s.size ∧ s.data.toList.drop (k + 1) = r := by
  have h1 : k < s.data.toList.length := by
    have := congrArg List.length h
    rw [List.length_drop, List.length_cons] at this; omega
  have h2 : s.data.toList[k]? = some b := by
    have := List.getElem?_drop (xs := s.data.toList) (i := k) (j := 0)
    rw [h] at this; simpa using this.symm
  refine ⟨?_, by rw [size_l]; exact h1, ?_⟩
  · unfold byt
    rw [Int.toNat_natCast, List.getD_eq_getElem?_getD, h2]; rfl
  · rw [← List.drop_drop, h]; rfl
theorem drop_nil {s : ByteArray} {k : Nat} (h : s.data.toList.drop k = []) : s.size ≤ k := by
  rw [size_l]; simpa using h
/-! ### Numbers -/
theorem dvF_lt : ∀ (l : List UInt8) (n : Nat), (∀ b ∈ l, isDg b = true) → dvF n l + 1 ≤ (n + 1) * 10 ^ l.length
  | [], n, _ => by simp [dvF]
  | b :: l, n, h => by
    have hb := (isDg_iff b).1 (h b (by simp))
    have := dvF_lt l (10 * n + (b.toNat - 48)) (fun x hx => h x (List.mem_cons_of_mem _ hx))
    have e : dvF n (b :: l) = dvF (10 * n + (b.toNat - 48)) l := rfl
    rw [e, List.length_cons, Nat.pow_succ]
    have h2 : (10 * n + (b.toNat - 48) + 1) * 10 ^ l.length ≤ ((n + 1) * 10) * 10 ^ l.length := Nat.mul_le_mul_right _ (by omega)
    have h3 : (n + 1) * (10 ^ l.length * 10) = ((n + 1) * 10) * 10 ^ l.length := by rw [Nat.mul_comm (10 ^ l.length) 10, ← Nat.mul_assoc]
    omega
theorem gdn_lt {x : List UInt8} (h : gdn x = true) : dv x < 10000 := by
  have hg := (gdn_iff x).1 h
  have h1 := dvF_lt x 0 hg.1.2.1
  have h2 : 10 ^ x.length ≤ 10 ^ 4 := Nat.pow_le_pow_right (by decide) hg.2
  have e : dv x = dvF 0 x := rfl
  omega
theorem gdn_dec (n : Nat) (h : n < 10000) : gdn (Lib.decDigits n) = true := (gdn_iff _).2 ⟨(dec_good n).1, dec_len 3 n (by omega)⟩
theorem itoaB_l (n : Nat) : (itoaB (n : Int)).data.toList = Lib.decDigits n := by unfold itoaB; rw [itoa_nat]
theorem number_p (p : ByteArray) (hp : p.size ≤ 1048576) : ∃ n ok, script_number.f p = some (n, ok) ∧ nm p.data.toList = (if ok = true then some n.toNat else none) ∧ (ok = true → 0 ≤ n) := by
  unfold script_number.f strconv_Atoi.f
  rw [if_pos (by omega)]
  simp only [Option.bind_eq_bind, Option.bind_some]
  by_cases hg : gdn p.data.toList = true
  · have hd := dec_dv _ _ rfl ((gdn_iff _).1 hg).1
    have hlt := gdn_lt hg
    have ha : atoiB p.data.toList = (((dv p.data.toList : Nat) : Int), true) := by
      unfold atoiB
      conv => lhs; rw [← hd]
      rw [atoi_dec _ hlt]
    have hi : itoaB ((dv p.data.toList : Nat) : Int) = p := ba_ext (by rw [itoaB_l, hd])
    rw [ha]
    simp only [if_true]
    rw [if_pos (decide_eq_true (by omega)), strconv_Itoa.f, if_pos (by omega)]
    simp only [Option.bind_some]
    rw [hi, seq_p, if_pos (decide_eq_true rfl), if_pos (decide_eq_true (by omega))]
    refine ⟨_, _, rfl, ?_, fun _ => by omega⟩
    unfold nm
    rw [if_pos hg]; simp
  · have hn : nm p.data.toList = none := by unfold nm; rw [if_neg hg]
    rw [hn]
    cases ha : Lib.atoiAll p.data.toList with
    | ok v =>
      have e : atoiB p.data.toList = (v, true) := by unfold atoiB; rw [ha]
      rw [e]
      simp only [if_true]
      by_cases h1 : v ≤ 9999
      · have hb := Lib.atoiAll_bounds ha
        rw [if_pos (decide_eq_true h1), strconv_Itoa.f, if_pos hb]
        simp only [Option.bind_some]
        rw [seq_p]
        by_cases h2 : itoaB v = p
        · rw [if_pos (decide_eq_true h2)]
          by_cases h3 : v ≥ 0
          · exfalso
            apply hg
            obtain ⟨m, rfl⟩ := Int.eq_ofNat_of_zero_le h3
            rw [← h2, itoaB_l]
            exact gdn_dec m (by omega)
          · rw [if_neg (nt (decide_eq_false h3))]; exact ⟨_, _, rfl, rfl, by simp⟩
        · rw [if_neg (nt (decide_eq_false h2))]; exact ⟨_, _, rfl, rfl, by simp⟩
      · rw [if_neg (nt (decide_eq_false h1))]; exact ⟨_, _, rfl, rfl, by simp⟩
    | «syntax» =>
      have e : atoiB p.data.toList = (0, false) := by unfold atoiB; rw [ha]
      rw [e]; exact ⟨_, _, rfl, rfl, by simp⟩
    | range =>
      have e : atoiB p.data.toList = (Lib.atoiSat p.data.toList, false) := by unfold atoiB; rw [ha]
      rw [e]; exact ⟨_, _, rfl, rfl, by simp⟩
/-! ### The document's number -/
theorem num_stop {s : ByteArray} {a k : Nat} {t : Int} (h : ∀ b r, s.data.toList.drop k = b :: r → isDg b = false ∨ ¬ IntKind.i64.wrap ((k : Int) - (a : Int)) < 5) : weirref15_number.l0 s a t k = some (t, (k : Int)) := by
  rw [weirref15_number.l0]
  cases hd : s.data.toList.drop k with
  | nil =>
    have := drop_nil hd
    rw [if_neg (nt (decide_eq_false (by omega)))]
  | cons b r =>
    obtain ⟨e1, e2, e3⟩ := byt_drop hd
    rw [if_pos (decide_eq_true (by omega)), if_pos (by omega)]
    have hh := h b r hd
    by_cases c1 : byt s (k : Int) ≥ 48
    · rw [if_pos (decide_eq_true c1), if_pos (by omega)]
      by_cases c2 : byt s (k : Int) ≤ 57
      · rw [if_pos (decide_eq_true c2)]
        have hdg : isDg b = true := (isDg_iff b).2 (by omega)
        rcases hh with hh | hh
        · rw [hh] at hdg; cases hdg
        · rw [if_neg (nt (decide_eq_false hh))]
      · rw [if_neg (nt (decide_eq_false c2))]
    · rw [if_neg (nt (decide_eq_false c1))]
theorem num_go {s : ByteArray} (hs : s.size ≤ 1048576) {a k t : Nat} (hak : a ≤ k) (hlt : k - a < 5) (ht : t < 10000000) {b : UInt8} {r : List UInt8} (hd : s.data.toList.drop k = b :: r) (hb : isDg b = true) :
    weirref15_number.l0 s a t k = weirref15_number.l0 s a ((10 * t + (b.toNat - 48) : Nat) : Int) ((k + 1 : Nat) : Int) := by
  obtain ⟨e1, e2, e3⟩ := byt_drop hd
  have hb' := (isDg_iff b).1 hb
  have q : (0 : Int) ≤ (k : Int) ∧ (k : Int) < (s.size : Int) := by omega
  rw [weirref15_number.l0, if_pos (decide_eq_true (by omega)), if_pos q, if_pos (decide_eq_true (by omega)), if_pos q, if_pos (decide_eq_true (by omega)), if_pos (decide_eq_true (by rw [wi64_id (by omega) (by omega)]; omega)), if_pos q, w1 (by omega)]
  congr 1
  have e8 : IntKind.u8.wrap (byt s (k : Int) - 48) = ((b.toNat - 48 : Nat) : Int) := by rw [wu8, e1]; omega
  rw [e8, wi64_id (n := 10 * (t : Int)) (by omega) (by omega), wi64_id (n := ((b.toNat - 48 : Nat) : Int)) (by omega) (by omega), wi64_id (by omega) (by omega)]
  omega
theorem num_loop {s : ByteArray} (hs : s.size ≤ 1048576) (a : Nat) : ∀ (m k t : Nat), a ≤ k → (k - a) + m = 5 → t < 10 ^ (k - a) →
    weirref15_number.l0 s a t k = some (((dvF t (((s.data.toList.drop k).takeWhile isDg).take m) : Nat) : Int), ((k + (((s.data.toList.drop k).takeWhile isDg).take m).length : Nat) : Int)) := by
  intro m
  induction m with
  | zero =>
    intro k t hk hm ht
    rw [num_stop (fun b r hd => .inr (by rw [wi64_id (by have := (byt_drop hd).2.1; omega) (by have := (byt_drop hd).2.1; omega)]; omega))]; rfl
  | succ m ih =>
    intro k t hk hm ht
    have hp : 10 ^ (k - a) ≤ 10 ^ 5 := Nat.pow_le_pow_right (by decide) (by omega)
    cases hd : s.data.toList.drop k with
    | nil => rw [num_stop (fun b r h => by rw [hd] at h; cases h)]; rfl
    | cons b r =>
      by_cases hb : isDg b = true
      · obtain ⟨e1, e2, e3⟩ := byt_drop hd
        have hb' := (isDg_iff b).1 hb
        rw [num_go hs hk (by omega) (by omega) hd hb, ih (k + 1) _ (by omega) (by omega) (by rw [show k + 1 - a = (k - a) + 1 by omega, Nat.pow_succ]; omega), e3]
        rw [List.takeWhile_cons, if_pos hb, List.take_succ_cons, List.length_cons]
        rw [show k + 1 + ((r.takeWhile isDg).take m).length = k + (((r.takeWhile isDg).take m).length + 1) by omega]; rfl
      · rw [num_stop (fun b' r' h => by rw [hd] at h; cases h; exact .inl (by simpa using hb)), List.takeWhile_cons, if_neg hb]; rfl
theorem dg5_dg (l : List UInt8) : ∀ b ∈ dg5 l, isDg b = true := fun b h => tw_all l b (List.mem_of_mem_take h)
theorem dg5_len (l : List UInt8) : (dg5 l).length ≤ 5 ∧ (dg5 l).length ≤ l.length := by
  unfold dg5
  have h1 : (l.takeWhile isDg).length ≤ l.length := (List.takeWhile_sublist _).length_le
  rw [List.length_take]; omega
theorem dg5_head (l : List UInt8) (h : dg5 l ≠ []) : ∃ b r, l = b :: r ∧ (dg5 l).head? = some b := by
  unfold dg5 at h ⊢
  cases l with
  | nil => simp at h
  | cons b r =>
    rw [List.takeWhile_cons] at h ⊢
    split at h
    · rename_i hb; rw [if_pos hb]; exact ⟨b, r, rfl, by simp⟩
    · simp at h
theorem number_d (s : ByteArray) (hs : s.size ≤ 1048576) (a : Nat) (ha : a ≤ s.size) : weirref15_number.f s a = some ((numL (s.data.toList.drop a)).1, (((if (numL (s.data.toList.drop a)).1 < 0 then a else a + (numL (s.data.toList.drop a)).2) : Nat) : Int)) := by
  have hl := num_loop hs a 5 a 0 (Nat.le_refl _) (by omega) (by simp)
  unfold weirref15_number.f
  rw [show ((0 : Nat) : Int) = 0 from rfl] at hl
  rw [hl]
  simp only [Option.bind_eq_bind, Option.bind_some]
  have e : ((s.data.toList.drop a).takeWhile isDg).take 5 = dg5 (s.data.toList.drop a) := rfl
  have e2 : dvF 0 (dg5 (s.data.toList.drop a)) = dv (dg5 (s.data.toList.drop a)) := rfl
  rw [e, e2]
  obtain ⟨g1, g2⟩ := dg5_len (s.data.toList.drop a)
  have hdg := dg5_dg (s.data.toList.drop a)
  have hhd := dg5_head (s.data.toList.drop a)
  generalize hd : dg5 (s.data.toList.drop a) = d at g1 g2 hdg hhd ⊢
  have hw : IntKind.i64.wrap (((a + d.length : Nat) : Int) - (a : Int)) = (d.length : Int) := by rw [wi64_id (by omega) (by omega)]; omega
  rw [hw]
  have hnum : numL (s.data.toList.drop a) = if gdn d = true then (((dv d : Nat) : Int), d.length) else (-1, 0) := by unfold numL; rw [hd]
  rw [hnum]
  by_cases h0 : d = []
  · subst h0
    rw [if_pos (by simp), if_neg (by decide)]; rfl
  have hl0 : 0 < d.length := List.length_pos_iff.2 h0
  rw [if_neg (by simp; omega)]
  by_cases h4 : d.length > 4
  · have hg : gdn d = false := Bool.eq_false_iff.2 (fun h => by have := ((gdn_iff d).1 h).2; omega)
    rw [if_pos (decide_eq_true (by omega)), if_neg (nt hg)]; rfl
  rw [if_neg (nt (decide_eq_false (by omega)))]
  by_cases h1 : d.length = 1
  · have hg : gdn d = true := (gdn_iff d).2 ⟨⟨h0, hdg, .inl h1⟩, by omega⟩
    rw [if_neg (nt (decide_eq_false (by omega))), if_pos hg, if_neg (by simp)]
  · obtain ⟨b, r, hL, hb⟩ := hhd h0
    obtain ⟨f1, f2, f3⟩ := byt_drop hL
    rw [if_pos (decide_eq_true (by omega)), if_pos (by omega), f1]
    by_cases h48 : b = 48
    · subst h48
      have hg : gdn d = false := Bool.eq_false_iff.2 (fun h => by
        rcases ((gdn_iff d).1 h).1.2.2 with h | h
        · exact h1 h
        · exact h hb)
      rw [if_pos (by decide), if_neg (nt hg)]; rfl
    · have hg : gdn d = true := (gdn_iff d).2 ⟨⟨h0, hdg, .inr (by rw [hb]; simpa using h48)⟩, by omega⟩
      have hne : ¬ ((b.toNat : Int) == 48) = true := by
        rw [beq_iff_eq]; intro hh
        exact h48 (UInt8.toNat_inj.1 (by show b.toNat = 48; omega))
      rw [if_neg hne, if_pos hg, if_neg (by simp)]
theorem numL_le (l : List UInt8) : (numL l).2 ≤ l.length ∧ (numL l).1 < 10000 ∧ -1 ≤ (numL l).1 := by
  unfold numL
  split
  · rename_i h; have := gdn_lt h; exact ⟨(dg5_len l).2, by show ((dv _ : Nat) : Int) < 10000; omega, by show (-1 : Int) ≤ ((dv _ : Nat) : Int); omega⟩
  · exact ⟨Nat.zero_le _, by decide, by decide⟩
def ofK (k : api_Pick) : Pk := (k.Thread, k.Kind, k.Loc)
def sel (k : api_Pick) (ok : Bool) : Option Pk := if ok = true then some (ofK k) else none
theorem word_d (s : ByteArray) (hs : s.size ≤ 1048576) : ∃ k ok, weirref15_word.f s = some (k, ok) ∧ wordL s.data.toList = sel k ok := by
  unfold weirref15_word.f
  have hn := number_d s hs 0 (Nat.zero_le _)
  rw [show ((0 : Nat) : Int) = 0 from rfl, List.drop_zero] at hn
  rw [hn]
  simp only [Option.bind_eq_bind, Option.bind_some]
  obtain ⟨l1, l2, l3⟩ := numL_le s.data.toList
  unfold wordL
  generalize hN : numL s.data.toList = N at l1 l2 l3 ⊢
  obtain ⟨n, e⟩ := N
  simp only at l1 l2 l3 ⊢
  rw [← size_l] at l1
  by_cases h0 : n < 0
  · rw [if_pos (decide_eq_true h0), if_pos h0]; exact ⟨_, _, rfl, rfl⟩
  rw [if_neg (nt (decide_eq_false h0)), if_neg h0]
  simp only [if_neg h0, Nat.zero_add]
  rw [wi64_id (n := (e : Int) + 1) (by omega) (by omega), wi64_id (n := (e : Int) + 2) (by omega) (by omega)]
  by_cases h1 : (e : Int) + 1 ≥ (s.size : Int)
  · rw [if_pos (decide_eq_true h1)]
    refine ⟨_, _, rfl, ?_⟩
    have hlen : (s.data.toList.drop e).length ≤ 1 := by rw [List.length_drop, ← size_l]; omega
    cases hd : s.data.toList.drop e with
    | nil => rfl
    | cons b r =>
      rw [hd] at hlen
      cases r with
      | nil =>
        by_cases hb : b = 58
        · subst hb; rfl
        · exact restL_ne _ hb
      | cons _ _ => simp at hlen
  rw [if_neg (nt (decide_eq_false h1))]
  obtain ⟨b, c, r, hd⟩ : ∃ b c r, s.data.toList.drop e = b :: c :: r := by
    have hlen : 2 ≤ (s.data.toList.drop e).length := by rw [List.length_drop, ← size_l]; omega
    cases hd : s.data.toList.drop e with
    | nil => rw [hd] at hlen; simp at hlen
    | cons b r =>
      cases r with
      | nil => rw [hd] at hlen; simp at hlen
      | cons c r => exact ⟨_, _, _, rfl⟩
  obtain ⟨a1, a2, a3⟩ := byt_drop hd
  obtain ⟨b1, b2, b3⟩ := byt_drop a3
  have b1' : byt s ((e : Int) + 1) = (c.toNat : Int) := by rw [show (e : Int) + 1 = ((e + 1 : Nat) : Int) by omega]; exact b1
  rw [if_pos (by omega), a1, hd]
  by_cases h58 : ¬ b = 58
  · have : ((b.toNat : Int) != 58) = true := by
      rw [bne_iff_ne]; intro hh; exact h58 (UInt8.toNat_inj.1 (by show b.toNat = 58; omega))
    rw [if_pos this, restL_ne _ h58]; exact ⟨_, _, rfl, rfl⟩
  rw [Decidable.not_not] at h58
  subst h58
  rw [if_neg (by decide), if_pos (by omega), b1']
  show ∃ k ok, _ ∧ (if c = 102 then tailL n r else if c = 115 then (if r = [] then some (n, 1, 0) else none) else none) = _
  have hrl : r.length = s.size - (e + 2) := by rw [← b3, List.length_drop, ← size_l]
  by_cases h102 : c = 102
  · subst h102
    rw [if_pos rfl, if_pos (by decide)]
    simp only [Option.bind_some]
    cases r with
    | nil =>
      rw [if_neg (nt (decide_eq_false (by simp at hrl; omega)))]
      simp only [Option.bind_some]
      rw [if_pos (by simp at hrl; simp; omega)]
      exact ⟨_, _, rfl, rfl⟩
    | cons d r =>
      obtain ⟨c1, c2, c3⟩ := byt_drop b3
      have c1' : byt s ((e : Int) + 2) = (d.toNat : Int) := by rw [show (e : Int) + 2 = ((e + 1 + 1 : Nat) : Int) by omega]; exact c1
      simp only [List.length_cons] at hrl
      rw [if_pos (decide_eq_true (by omega)), if_pos (by omega), c1']
      by_cases hd58 : d = 58
      · subst hd58
        rw [if_pos (by decide), if_pos (by simp), wi64_id (by omega) (by omega), show (e : Int) + 2 + 1 = ((e + 3 : Nat) : Int) by omega, number_d s hs (e + 3) (by omega), show e + 3 = e + 1 + 1 + 1 by omega, c3]
        simp only [Option.bind_some]
        rw [tailL_colon]
        obtain ⟨m1, m2, m3⟩ := numL_le r
        generalize numL r = M at m1 m2 m3 ⊢
        obtain ⟨m, j⟩ := M
        simp only at m1 m2 m3 ⊢
        by_cases hm : m < 1
        · rw [if_pos (decide_eq_true hm), if_pos hm]
          exact ⟨_, _, rfl, rfl⟩
        · rw [if_neg (nt (decide_eq_false hm)), if_neg hm, if_neg (by omega)]
          simp only [Option.bind_some]
          by_cases hj : r.drop j = []
          · have : r.length ≤ j := by simpa using hj
            rw [if_pos (by simp; omega), if_pos hj]; exact ⟨_, _, rfl, rfl⟩
          · have : ¬ r.length ≤ j := by simpa using hj
            rw [if_neg (by simp; omega), if_neg hj]; exact ⟨_, _, rfl, rfl⟩
      · have hne : ¬ ((d.toNat : Int) == 58) = true := by
          rw [beq_iff_eq]; intro hh; exact hd58 (UInt8.toNat_inj.1 (by show d.toNat = 58; omega))
        rw [if_neg hne, tailL_ne _ hd58]
        simp only [Option.bind_some]
        rw [if_neg (by simp; omega)]; exact ⟨_, _, rfl, rfl⟩
  · have hne : ¬ ((c.toNat : Int) == 102) = true := by
      rw [beq_iff_eq]; intro hh; exact h102 (UInt8.toNat_inj.1 (by show c.toNat = 102; omega))
    rw [if_neg h102, if_neg hne, if_pos (by omega)]
    by_cases h115 : c = 115
    · subst h115
      rw [if_pos rfl, if_neg (by decide)]
      simp only [Option.bind_some]
      cases r with
      | nil =>
        rw [if_neg (nt (decide_eq_false (by simp at hrl; omega)))]
        simp only [Option.bind_some]
        rw [if_pos (by simp at hrl; simp; omega)]
        exact ⟨_, _, rfl, rfl⟩
      | cons d r =>
        simp only [List.length_cons] at hrl
        rw [if_pos (decide_eq_true (by omega)), if_pos (by omega), if_neg (by simp : ¬ (d :: r = []))]
        have hx : (1 == 2 : Bool) = false := rfl
        by_cases hd58 : (byt s ((e : Int) + 2) == 58) = true
        · rw [if_pos hd58]
          simp only [Int.reduceBEq, Bool.false_eq_true, if_false, Option.bind_some]
          rw [if_neg (by simp; omega)]; exact ⟨_, _, rfl, rfl⟩
        · rw [if_neg hd58]
          simp only [Option.bind_some]
          rw [if_neg (by simp; omega)]; exact ⟨_, _, rfl, rfl⟩
    · have hne2 : ((c.toNat : Int) != 115) = true := by
        rw [bne_iff_ne]; intro hh; exact h115 (UInt8.toNat_inj.1 (by show c.toNat = 115; omega))
      rw [if_neg h115, if_pos hne2]
      exact ⟨_, _, rfl, rfl⟩
/-! ### The program's pick -/
theorem split_l (s : ByteArray) : (splitS s (⟨#[58]⟩ : ByteArray)).map (·.data.toList) = sp 58 s.data.toList := by
  unfold splitS
  rw [Lib.splitB_data]
  have e : Lib.countB s (⟨#[58]⟩ : ByteArray) = s.data.toList.count 58 := Lib.count_one 58 _
  rw [e]
  exact splitK_sp 58 _
theorem sp_le : ∀ (l : List UInt8), ∀ x ∈ sp 58 l, x.length ≤ l.length
  | [], x, h => by rw [show sp 58 [] = [[]] from rfl, List.mem_singleton] at h; subst h; simp
  | b :: l, x, h => by
    by_cases hb : b = 58
    · subst hb; rw [sp_hit] at h
      rcases List.mem_cons.1 h with rfl | h
      · simp
      · have := sp_le l x h; simp; omega
    · obtain ⟨y, t, hy⟩ := sp_some 58 l
      have ih := sp_le l
      rw [hy] at ih
      rw [sp_pass hb hy] at h
      rcases List.mem_cons.1 h with rfl | h
      · have := ih y (by simp); simp; omega
      · have := ih x (by simp [h]); simp; omega
theorem lit_l {p : ByteArray} {x : List UInt8} : p = (⟨x.toArray⟩ : ByteArray) ↔ p.data.toList = x := by
  constructor
  · rintro rfl; rfl
  · intro h; exact ba_ext h
theorem gt0 {α : Type} [Inhabited α] (a : α) (l : List α) : gt (a :: l) (0 : Int) = a := rfl
theorem gt1 {α : Type} [Inhabited α] (a b : α) (l : List α) : gt (a :: b :: l) (1 : Int) = b := rfl
theorem gt2 {α : Type} [Inhabited α] (a b c : α) (l : List α) : gt (a :: b :: c :: l) (2 : Int) = c := rfl
theorem pick_p (s : ByteArray) (hs : s.size ≤ 1048576) : ∃ k ok, script_pick.f s = some (k, ok) ∧ pickL s.data.toList = sel k ok := by
  unfold script_pick.f strings_Split.f
  rw [if_pos ⟨by omega, by decide⟩]
  simp only [Option.bind_eq_bind, Option.bind_some]
  have hsp := split_l s
  generalize splitS s (⟨#[58]⟩ : ByteArray) = ps at hsp ⊢
  have hle := sp_le s.data.toList
  rw [← hsp] at hle
  have hle' : ∀ p ∈ ps, p.size ≤ 1048576 := fun p hp => by
    have := hle _ (List.mem_map.2 ⟨p, hp, rfl⟩)
    rw [size_l] at *; omega
  unfold pickL
  rw [← hsp]
  match ps, hle' with
  | [], _ => exact ⟨_, _, rfl, rfl⟩
  | [x], _ => exact ⟨_, _, rfl, rfl⟩
  | x :: y :: t, hle' =>
    simp only [List.length_cons, List.map_cons]
    rw [if_neg (nt (decide_eq_false (by omega)))]
    obtain ⟨n, ok, hn, hm, h0⟩ := number_p x (hle' x (by simp))
    by_cases h3 : (((t.length + 1 + 1 : Nat) : Int) > 3)
    · rw [if_pos (decide_eq_true h3)]
      refine ⟨_, _, rfl, ?_⟩
      match t, h3 with
      | a :: b :: t, _ =>
        simp only [List.map_cons]
        split <;> rfl
    · rw [if_neg (nt (decide_eq_false h3)), if_pos (by omega), gt0, hn]
      simp only [Option.bind_some]
      cases ok
      · rw [hm]; exact ⟨_, _, rfl, rfl⟩
      · rw [hm, if_neg (by decide)]
        have h0 := h0 rfl
        simp only [if_true]
        match t, h3 with
        | [], _ =>
          simp only [List.length_nil, Nat.zero_add]
          rw [show ((2 : Nat) : Int) = 2 from rfl, if_pos (by decide), if_pos (by decide), gt1, seq_p]
          simp only [List.map_nil, pick2]
          have k1 : (y = (⟨#[115]⟩ : ByteArray)) ↔ y.data.toList = [115] := lit_l (x := [115])
          have k2 : (y = (⟨#[102]⟩ : ByteArray)) ↔ y.data.toList = [102] := lit_l (x := [102])
          by_cases c1 : y.data.toList = [115]
          · rw [if_pos (decide_eq_true (k1.2 c1)), if_pos c1]
            exact ⟨_, _, rfl, by show some ((n.toNat : Int), (1 : Int), (0 : Int)) = some (n, 1, 0); rw [Int.toNat_of_nonneg h0]⟩
          · rw [if_neg (nt (decide_eq_false (fun h => c1 (k1.1 h)))), if_neg c1, if_pos (by decide), if_pos (by decide), seq_p]
            by_cases c2 : y.data.toList = [102]
            · rw [if_pos (decide_eq_true (k2.2 c2)), if_pos c2]
              exact ⟨_, _, rfl, by show some ((n.toNat : Int), (2 : Int), (0 : Int)) = some (n, 2, 0); rw [Int.toNat_of_nonneg h0]⟩
            · rw [if_neg (nt (decide_eq_false (fun h => c2 (k2.1 h)))), if_neg c2, if_neg (by decide)]
              exact ⟨_, _, rfl, rfl⟩
        | [z], _ =>
          simp only [List.length_cons, List.length_nil, Nat.zero_add]
          rw [show ((1 + 1 + 1 : Nat) : Int) = 3 from rfl, if_neg (by decide), if_neg (by decide), if_pos (by decide), if_pos (by decide), gt1, seq_p]
          simp only [List.map_cons, List.map_nil, pick2]
          have k2 : (y = (⟨#[102]⟩ : ByteArray)) ↔ y.data.toList = [102] := lit_l (x := [102])
          by_cases c2 : y.data.toList = [102]
          · obtain ⟨m, ok2, hm2, hz, h02⟩ := number_p z (hle' z (by simp))
            rw [if_pos (decide_eq_true (k2.2 c2)), if_pos c2, if_pos (by decide), gt2, hm2, hz]
            simp only [Option.bind_some]
            cases ok2
            · exact ⟨_, _, rfl, rfl⟩
            · have h02 := h02 rfl
              simp only [if_true]
              by_cases hp : m > 0
              · rw [if_pos (decide_eq_true hp), if_pos (by omega)]
                exact ⟨_, _, rfl, by show some ((n.toNat : Int), (2 : Int), (m.toNat : Int)) = some (n, 2, m); rw [Int.toNat_of_nonneg h0, Int.toNat_of_nonneg h02]⟩
              · rw [if_neg (nt (decide_eq_false hp)), if_neg (by omega)]
                exact ⟨_, _, rfl, rfl⟩
          · rw [if_neg (nt (decide_eq_false (fun h => c2 (k2.1 h)))), if_neg c2]
            exact ⟨_, _, rfl, rfl⟩
        | a :: b :: t, h3 => exact absurd h3 (by simp only [List.length_cons]; omega)
theorem ofK_inj {a b : api_Pick} (h : ofK a = ofK b) : a = b := by
  obtain ⟨a1, a2, a3⟩ := a
  obtain ⟨b1, b2, b3⟩ := b
  simp only [ofK, Prod.mk.injEq] at h
  obtain ⟨rfl, rfl, rfl⟩ := h
  rfl
/-- Both read a word alike. -/
theorem words (s : ByteArray) (hs : s.size ≤ 1048576) : ∃ k1 k2 ok, script_pick.f s = some (k1, ok) ∧ weirref15_word.f s = some (k2, ok) ∧ (ok = true → k1 = k2) := by
  obtain ⟨k1, o1, h1, e1⟩ := pick_p s hs
  obtain ⟨k2, o2, h2, e2⟩ := word_d s hs
  have e : sel k1 o1 = sel k2 o2 := e1.symm.trans ((pick_word _).trans e2)
  unfold sel at e
  cases o1 <;> cases o2
  · exact ⟨k1, k2, false, h1, h2, fun h => by cases h⟩
  · simp at e
  · simp at e
  · simp only [if_true, Option.some.injEq] at e
    exact ⟨k1, k2, true, h1, h2, fun _ => ofK_inj e⟩
end Go.Proofs.YtlapbgeklhinmaaDoor.K
