/- Numbers: the program's word.Parse and the document's. -/
import Derived.Test.YtboejepakdnbgaaGreatDoorLA
set_option linter.unusedVariables false
set_option linter.unusedSimpArgs false
namespace Go.Proofs.YtboejepakdnbgaaGreatDoor.K
open Go

def dgt (base b : Int) : Option Int := match word_digit.f b base with | some (v, true) => some v | _ => none
def dgOk (base b : Int) : Bool := match dgt base b with
  | some v => decide (word_digit.f b base = some (v, true)) && decide (weirref04_digit.f b base = some v) && decide (0 ≤ v ∧ v < base)
  | none => decide ((word_digit.f b base).map (·.2) = some false) && decide (weirref04_digit.f b base = some (-1))
theorem dg_all : ∀ n : Fin 256, dgOk 10 (n.1 : Int) = true ∧ dgOk 16 (n.1 : Int) = true := by decide +kernel
abbrev isBase (base : Int) : Prop := base = 10 ∨ base = 16
theorem dg_ok {base : Int} (hb : isBase base) {b : Int} (h : 0 ≤ b ∧ b ≤ 255) : dgOk base b = true := by
  have := dg_all ⟨b.toNat, by omega⟩
  have e : ((⟨b.toNat, by omega⟩ : Fin 256).1 : Int) = b := by show ((b.toNat : Nat) : Int) = b; omega
  rw [e] at this
  rcases hb with rfl | rfl
  · exact this.1
  · exact this.2
theorem dg_some {base : Int} (hb : isBase base) {b v : Int} (h : 0 ≤ b ∧ b ≤ 255) (hv : dgt base b = some v) :
    word_digit.f b base = some (v, true) ∧ weirref04_digit.f b base = some v ∧ 0 ≤ v ∧ v < base := by
  have := dg_ok hb h
  unfold dgOk at this
  rw [hv] at this
  simp only [Bool.and_eq_true, decide_eq_true_eq] at this
  exact ⟨this.1.1, this.1.2, this.2⟩
theorem dg_none {base : Int} (hb : isBase base) {b : Int} (h : 0 ≤ b ∧ b ≤ 255) (hv : dgt base b = none) :
    (∃ v, word_digit.f b base = some (v, false)) ∧ weirref04_digit.f b base = some (-1) := by
  have := dg_ok hb h
  unfold dgOk at this
  rw [hv] at this
  simp only [Bool.and_eq_true, decide_eq_true_eq] at this
  refine ⟨?_, this.2⟩
  cases hw : word_digit.f b base with
  | none => rw [hw] at this; cases this.1
  | some p =>
    obtain ⟨v, k⟩ := p
    rw [hw] at this
    have h1 := this.1
    simp only [Option.map_some, Option.some.injEq] at h1
    exact ⟨v, by rw [h1]⟩
theorem dg_0 {base : Int} (hb : isBase base) : dgt base 0 = none := by
  rcases hb with rfl | rfl <;> decide
def dgL (f : Nat → Int) (base : Int) : Nat → Nat → Int → Bool → Int × Bool × Nat
  | 0, k, u, g => (u, g, k)
  | n + 1, k, u, g => match dgt base (f k) with
    | some d => dgL f base n (k + 1) ((u * base + d) % 18446744073709551616) (g || decide (18446744073709551616 ≤ u * base + d))
    | none => (u, g, k)
theorem dgL_k (f : Nat → Int) (base : Int) : ∀ n k u g u' g', (dgL f base n k u g).2.2 = (dgL f base n k u' g').2.2
  | 0, _, _, _, _, _ => rfl
  | n + 1, k, u, g, u', g' => by
    unfold dgL
    split
    · exact dgL_k f base n (k + 1) _ _ _ _
    · rfl
theorem dgL_ge (f : Nat → Int) (base : Int) : ∀ n k u g, k ≤ (dgL f base n k u g).2.2 ∧ (dgL f base n k u g).2.2 ≤ k + n
  | 0, k, _, _ => ⟨Nat.le_refl k, Nat.le_refl k⟩
  | n + 1, k, u, g => by
    unfold dgL
    split
    · have := dgL_ge f base n (k + 1) ((u * base + (by assumption)) % 18446744073709551616) (g || decide (18446744073709551616 ≤ u * base + (by assumption)))
      omega
    · exact ⟨Nat.le_refl k, by simp only; omega⟩
theorem dgL_u (f : Nat → Int) (base : Int) (hf : ∀ k, 0 ≤ f k ∧ f k ≤ 255) (hb : isBase base) : ∀ n k u g, 0 ≤ u → u < 18446744073709551616 → 0 ≤ (dgL f base n k u g).1 ∧ (dgL f base n k u g).1 < 18446744073709551616
  | 0, _, _, _, h0, h1 => ⟨h0, h1⟩
  | n + 1, k, u, g, h0, h1 => by
    unfold dgL
    split
    · exact dgL_u f base hf hb n (k + 1) _ _ (Int.emod_nonneg _ (by decide)) (Int.emod_lt_of_pos _ (by decide))
    · exact ⟨h0, h1⟩
theorem addS_p {x y : Int} (hx : 0 ≤ x) (hy : 0 ≤ y) : addS x y = (x + y) % 18446744073709551616 := by
  unfold addS
  have e : x.toNat + y.toNat + 0 = (x + y).toNat := by omega
  rw [e]
  show (((x + y).toNat % 18446744073709551616 : Nat) : Int) = _
  omega
theorem addC_p {x y : Int} (hx : 0 ≤ x) (hy : 0 ≤ y) : addC x y = (x + y) / 18446744073709551616 := by
  unfold addC
  have e : x.toNat + y.toNat + 0 = (x + y).toNat := by omega
  rw [e]
  show (((x + y).toNat / 18446744073709551616 : Nat) : Int) = _
  omega
theorem word_l (r : ByteArray) (hr : r.size ≤ 1048576) {base : Int} (hb : isBase base) : ∀ (n k : Nat) (u : Int) (g : Bool), k ≤ 1048576 + 2 → r.size ≤ k + n → 0 ≤ u → u < 18446744073709551616 →
    word_Next.l0 r base u g k = some ((dgL (bA r) base n k u g).1, (dgL (bA r) base n k u g).2.1, ((dgL (bA r) base n k u g).2.2 : Int)) := by
  intro n
  induction n with
  | zero =>
    intro k u g h0 h1 h2 h3
    rw [word_Next.l0, if_neg (nt (decide_eq_false (by omega)))]; rfl
  | succ n ih =>
    intro k u g h0 h1 h2 h3
    by_cases hk : k < r.size
    · rw [word_Next.l0, if_pos (decide_eq_true (by omega)), if_pos (by omega)]
      unfold dgL
      cases hd : dgt base (bA r k) with
      | none =>
        obtain ⟨v, hv⟩ := (dg_none hb (bA_b r k) hd).1
        have hv' : word_digit.f (byt r (k : Int)) base = some (v, false) := hv
        rw [hv']; rfl
      | some d =>
        obtain ⟨hv, -, d0, d1⟩ := dg_some hb (bA_b r k) hd
        have hv' : word_digit.f (byt r (k : Int)) base = some (d, true) := hv
        have hbp : 0 ≤ base ∧ base ≤ 16 := by rcases hb with rfl | rfl <;> decide
        have hm : bits_Mul64.f u base = some (u * base / 18446744073709551616, u * base % 18446744073709551616) := if_pos ⟨⟨h2, h3⟩, hbp.1, by omega⟩
        rw [hv']
        simp only [Option.bind_eq_bind, Option.bind_some]
        rw [if_neg (by simp), hm]
        simp only [Option.bind_some]
        have hub : 0 ≤ u * base := Int.mul_nonneg h2 hbp.1
        rw [addS_p (by omega) d0, addC_p (by omega) d0, w1 (by omega)]
        have es : (u * base % 18446744073709551616 + d) % 18446744073709551616 = (u * base + d) % 18446744073709551616 := by omega
        rw [es]
        have hi := fun g => ih (k + 1) ((u * base + d) % 18446744073709551616) g (by omega) (by omega) (by omega) (by omega)
        simp only [hi]
        cases g
        · rw [if_neg (by simp)]
          by_cases hh : u * base / 18446744073709551616 > 0
          · rw [if_pos (decide_eq_true hh), decide_eq_true (show 18446744073709551616 ≤ u * base + d by omega)]; rfl
          · rw [if_neg (nt (decide_eq_false hh))]
            by_cases hc : (u * base % 18446744073709551616 + d) / 18446744073709551616 > 0
            · rw [if_pos (decide_eq_true hc), decide_eq_true (show 18446744073709551616 ≤ u * base + d by omega)]; rfl
            · rw [if_neg (nt (decide_eq_false hc)), decide_eq_false (show ¬ 18446744073709551616 ≤ u * base + d by omega)]; rfl
        · rw [if_pos rfl]; rfl
    · rw [word_Next.l0, if_neg (nt (decide_eq_false (by omega)))]
      unfold dgL
      rw [bA_end (by omega), dg_0 hb]
theorem len_l (r : ByteArray) (hr : r.size ≤ 1048576) {base : Int} (hb : isBase base) : ∀ (n k : Nat), k ≤ 1048576 + 2 → r.size ≤ k + n →
    word_length.l0 r base k = some (((dgL (bA r) base n k 0 false).2.2 : Nat) : Int) := by
  intro n
  induction n with
  | zero =>
    intro k h0 h1
    rw [word_length.l0, if_neg (nt (decide_eq_false (by omega)))]; rfl
  | succ n ih =>
    intro k h0 h1
    by_cases hk : k < r.size
    · rw [word_length.l0, if_pos (decide_eq_true (by omega)), if_pos (by omega)]
      unfold dgL
      cases hd : dgt base (bA r k) with
      | none =>
        obtain ⟨v, hv⟩ := (dg_none hb (bA_b r k) hd).1
        have hv' : word_digit.f (byt r (k : Int)) base = some (v, false) := hv
        rw [hv']; rfl
      | some d =>
        have hv' : word_digit.f (byt r (k : Int)) base = some (d, true) := (dg_some hb (bA_b r k) hd).1
        rw [hv']
        simp only [Option.bind_eq_bind, Option.bind_some]
        rw [if_neg (by simp), w1 (by omega), ih (k + 1) (by omega) (by omega)]
        exact congrArg (fun z : Nat => some (z : Int)) (dgL_k _ _ _ _ _ _ _ _)
    · rw [word_length.l0, if_neg (nt (decide_eq_false (by omega)))]
      unfold dgL
      rw [bA_end (by omega), dg_0 hb]
/-! ### Next and Parse -/
def ofs (x : ByteArray) : Nat := if bA x 0 = 45 then 1 else 0
abbrev bO (x : ByteArray) (k : Nat) : Int := bA x (ofs x + k)
def isHex (x : ByteArray) : Bool := bO x 0 == 48 && (bO x 1 == 120 || bO x 1 == 88) && (dgt 16 (bO x 2)).isSome
def numV (x : ByteArray) : Int × Bool × Nat := if isHex x = true then dgL (bO x) 16 (x.size + 1) 2 0 false else dgL (bO x) 10 (x.size + 1) 0 0 false
theorem bA_mk (l : List UInt8) (k : Nat) : bA (⟨l.toArray⟩ : ByteArray) k = ((l.getD k 0).toNat : Int) := by rw [bA_l]
theorem cutp (x : ByteArray) : ∃ r : ByteArray, strings_CutPrefix.f x (⟨#[45]⟩ : ByteArray) = some (r, decide (bA x 0 = 45)) ∧ r.size = x.size - ofs x ∧ bA r = bO x := by
  have hp : Lib.hasPrefix x.data.toList [45] = decide (bA x 0 = 45) := by
    rw [bA_l]
    unfold Lib.hasPrefix
    cases x.data.toList with
    | nil => exact (decide_eq_false (by decide)).symm
    | cons b l =>
      show (45 == b && true) = decide ((b.toNat : Int) = 45)
      rw [Bool.and_true, Bool.eq_iff_iff]
      simp only [beq_iff_eq, decide_eq_true_eq]
      exact ⟨fun h => by rw [← h]; rfl, fun h => UInt8.toNat_inj.1 (by show 45 = b.toNat; omega)⟩
  refine ⟨_, by unfold strings_CutPrefix.f; rw [show (⟨#[45]⟩ : ByteArray).data.toList = [45] from rfl, hp], ?_, ?_⟩
  · unfold Lib.trimPrefix ofs
    rw [hp]
    by_cases h : bA x 0 = 45
    · rw [if_pos (decide_eq_true h), if_pos h, size_l]
      show ((x.data.toList.drop 1).toArray.toList).length = _
      rw [List.toList_toArray, List.length_drop, size_l]
    · rw [if_neg (nt (decide_eq_false h)), if_neg h, size_l]
      show ((x.data.toList).toArray.toList).length = x.size - 0
      rw [List.toList_toArray, size_l]; rfl
  · funext k
    rw [bA_mk]
    unfold Lib.trimPrefix bO ofs
    rw [hp]
    by_cases h : bA x 0 = 45
    · rw [if_pos (decide_eq_true h), if_pos h, bA_l, List.getD_eq_getElem?_getD, List.getD_eq_getElem?_getD, List.getElem?_drop]; rfl
    · rw [if_neg (nt (decide_eq_false h)), if_neg h, Nat.zero_add, bA_l]
theorem bor_all : ∀ n : Fin 256, (bor .u8 (n.1 : Int) 32 == 120) = ((n.1 : Int) == 120 || (n.1 : Int) == 88) := by decide +kernel
theorem bor_p {b : Int} (h : 0 ≤ b ∧ b ≤ 255) : (bor .u8 b 32 == 120) = (b == 120 || b == 88) := by
  have := bor_all ⟨b.toNat, by omega⟩
  have e : ((⟨b.toNat, by omega⟩ : Fin 256).1 : Int) = b := by show ((b.toNat : Nat) : Int) = b; omega
  rw [e] at this; exact this
theorem base_p (x r : ByteArray) (hr : bA r = bO x) {β : Type} (f : Int × Int → Option β) :
    (((if (decide ((r.size : Int) > 2)) = true then (if 0 ≤ (0 : Int) ∧ (0 : Int) < (r.size : Int) then (if ((byt r (0 : Int)) == 48) = true then (if 0 ≤ (1 : Int) ∧ (1 : Int) < (r.size : Int) then (if ((bor .u8 (byt r (1 : Int)) 32) == 120) = true then (if 0 ≤ (2 : Int) ∧ (2 : Int) < (r.size : Int) then (word_digit.f (byt r (2 : Int)) 16 >>= (fun (t119,t120) => (if t120 = true then some ((16,2)) else some ((10,0))))) else none) else some ((10,0))) else none) else some ((10,0))) else none) else some ((10,0))) : Option (Int × Int)) >>= f)
      = f (if isHex x = true then (16, 2) else (10, 0)) := by
  have b0 : byt r (0 : Int) = bO x 0 := congrFun hr 0
  have b1 : byt r (1 : Int) = bO x 1 := congrFun hr 1
  have b2 : byt r (2 : Int) = bO x 2 := congrFun hr 2
  rw [b0, b1, b2]
  have hbb := bA_b x (ofs x + 1)
  rw [bor_p hbb]
  unfold isHex
  by_cases hsz : 2 < r.size
  · simp only [decide_eq_true (show (r.size : Int) > 2 by omega), if_true, if_pos (show 0 ≤ (0 : Int) ∧ (0 : Int) < (r.size : Int) by omega), if_pos (show 0 ≤ (1 : Int) ∧ (1 : Int) < (r.size : Int) by omega), if_pos (show 0 ≤ (2 : Int) ∧ (2 : Int) < (r.size : Int) by omega)]
    have g1 : (bA x (ofs x + 1) == 120 || bA x (ofs x + 1) == 88) = (bO x 1 == 120 || bO x 1 == 88) := rfl
    rw [g1]
    cases bO x 0 == 48
    · rfl
    · cases bO x 1 == 120 || bO x 1 == 88
      · rfl
      · cases hd : dgt 16 (bO x 2) with
        | none =>
          obtain ⟨v, hv⟩ := (dg_none (.inr rfl) (bA_b x (ofs x + 2)) hd).1
          have hv' : word_digit.f (bO x 2) 16 = some (v, false) := hv
          rw [if_pos rfl, if_pos rfl, hv']; rfl
        | some v =>
          have hv' : word_digit.f (bO x 2) 16 = some (v, true) := (dg_some (.inr rfl) (bA_b x (ofs x + 2)) hd).1
          rw [if_pos rfl, if_pos rfl, hv']; rfl
  · have h2 : bO x 2 = 0 := by rw [← b2]; exact bA_end (k := 2) (by omega)
    rw [if_neg (nt (decide_eq_false (by omega))), h2, dg_0 (.inr rfl), Option.isSome_none, Bool.and_false]
    rfl
theorem numV_b (x : ByteArray) : 0 ≤ (numV x).1 ∧ (numV x).1 < 18446744073709551616 ∧ (numV x).2.2 ≤ x.size + 3 := by
  have h1 := dgL_u (bO x) 16 (fun k => bA_b x _) (.inr rfl) (x.size + 1) 2 0 false (by decide) (by decide)
  have h2 := dgL_u (bO x) 10 (fun k => bA_b x _) (.inl rfl) (x.size + 1) 0 0 false (by decide) (by decide)
  have h3 := dgL_ge (bO x) 16 (x.size + 1) 2 0 false
  have h4 := dgL_ge (bO x) 10 (x.size + 1) 0 0 false
  unfold numV
  split <;> omega
def numN (x : ByteArray) : Int × Int × Int :=
  if (numV x).2.2 = (if isHex x = true then 2 else 0) then (0, 0, 40)
  else if (numV x).2.1 = true ∨ (ofs x = 1 ∧ 9223372036854775808 < (numV x).1) then (0, 0, 41)
  else (IntKind.i64.wrap (if ofs x = 1 then IntKind.u64.wrap (0 - (numV x).1) else (numV x).1), ((ofs x + (numV x).2.2 : Nat) : Int), 0)
theorem next_p (x : ByteArray) (hx : x.size ≤ 1048576) : word_Next.f x 0 = some (numN x) := by
  obtain ⟨r, h1, h2, h3⟩ := cutp x
  have hb := numV_b x
  unfold word_Next.f
  have he : x.extract (0 : Int).toNat x.size = x := by
    refine ba_ext ?_
    show (x.extract 0 x.size).data.toList = _
    rw [cut_l, List.drop_zero, size_l, List.take_length]
  rw [if_neg (nt (decide_eq_false (by omega))), if_neg (nt (decide_eq_false (by omega))), if_pos (by omega), he, h1]
  simp only [Option.bind_eq_bind, Option.bind_some]
  have hb2 := base_p x r h3 (fun (t22,t23) => (word_Next.l0 r t22 0 false t23 >>= (fun (t32,t33,t34) => (if (t34 == t23) = true then some ((0,0,40)) else (if (decide (bA x 0 = 45)) = true then (if t33 = true then some ((0,0,41)) else (if (decide (t32 > 9223372036854775808)) = true then some ((0,0,41)) else some (((IntKind.i64.wrap (IntKind.u64.wrap (0 - t32))),(IntKind.i64.wrap (t34 + 1)),(0 : Int))))) else (if t33 = true then some ((0,0,41)) else some (((IntKind.i64.wrap t32),t34,0))))))))
  simp only [Option.bind_eq_bind] at hb2
  refine hb2.trans ?_
  have hl : word_Next.l0 r (if isHex x = true then ((16 : Int), (2 : Int)) else (10, 0)).1 0 false (if isHex x = true then ((16 : Int), (2 : Int)) else (10, 0)).2 = some ((numV x).1, (numV x).2.1, ((numV x).2.2 : Int)) := by
    unfold numV
    by_cases hh : isHex x = true
    · rw [if_pos hh, if_pos hh, ← h3]; exact word_l r (by omega) (.inr rfl) (x.size + 1) 2 0 false (by omega) (by omega) (by decide) (by decide)
    · rw [if_neg hh, if_neg hh, ← h3]; exact word_l r (by omega) (.inl rfl) (x.size + 1) 0 0 false (by omega) (by omega) (by decide) (by decide)
  have e2 : (if isHex x = true then ((16 : Int), (2 : Int)) else (10, 0)).2 = (((if isHex x = true then 2 else 0 : Nat)) : Int) := by split <;> rfl
  show (word_Next.l0 r (if isHex x = true then ((16 : Int), (2 : Int)) else (10, 0)).1 0 false (if isHex x = true then ((16 : Int), (2 : Int)) else (10, 0)).2).bind _ = _
  rw [hl, e2]
  simp only [Option.bind_some]
  unfold numN ofs
  by_cases hn : (numV x).2.2 = (if isHex x = true then 2 else 0)
  · rw [if_pos hn, if_pos (by rw [hn]; simp)]
  · rw [if_neg hn, if_neg (by intro h; have := eq_of_beq h; omega)]
    by_cases h45 : bA x 0 = 45
    · simp only [h45, decide_true, if_true, true_and]
      by_cases hg : (numV x).2.1 = true
      · rw [if_pos hg, if_pos (.inl hg)]
      · rw [if_neg hg]
        by_cases hw : (numV x).1 > 9223372036854775808
        · rw [if_pos (decide_eq_true hw), if_pos (.inr hw)]
        · rw [if_neg (nt (decide_eq_false hw)), if_neg (fun h => h.elim hg hw), w1 (by omega), Nat.add_comm]
    · simp only [h45, decide_false, if_false, Bool.false_eq_true, false_and, or_false, Nat.zero_add, show ¬ (0 : Nat) = 1 by decide]
      split <;> rfl
theorem length_p (x : ByteArray) (hx : x.size ≤ 1048576) : word_length.f x = some ((ofs x + (numV x).2.2 : Nat) : Int) := by
  obtain ⟨r, h1, h2, h3⟩ := cutp x
  have hb := numV_b x
  unfold word_length.f
  rw [h1]
  simp only [Option.bind_eq_bind, Option.bind_some]
  have hb2 := base_p x r h3 (fun (t10,t11) => (word_length.l0 r t10 t11 >>= (fun t20 => (if decide (bA x 0 = 45) = true then some ((IntKind.i64.wrap (t20 + 1))) else some (t20)))))
  simp only [Option.bind_eq_bind] at hb2
  refine hb2.trans ?_
  have hl : word_length.l0 r (if isHex x = true then ((16 : Int), (2 : Int)) else (10, 0)).1 (if isHex x = true then ((16 : Int), (2 : Int)) else (10, 0)).2 = some ((numV x).2.2 : Int) := by
    unfold numV
    by_cases hh : isHex x = true
    · rw [if_pos hh, if_pos hh, ← h3]; exact len_l r (by omega) (.inr rfl) (x.size + 1) 2 (by omega) (by omega)
    · rw [if_neg hh, if_neg hh, ← h3]; exact len_l r (by omega) (.inl rfl) (x.size + 1) 0 (by omega) (by omega)
  rw [hl]
  simp only [Option.bind_some]
  unfold ofs
  by_cases h45 : bA x 0 = 45
  · rw [decide_eq_true h45, if_pos rfl, if_pos h45, w1 (by omega), Nat.add_comm]
  · rw [decide_eq_false h45, if_neg (by simp), if_neg h45, Nat.zero_add]
def numP (x : ByteArray) : Int × Int :=
  if (numN x).2.2 = 40 then (0, 40) else if ofs x + (numV x).2.2 ≠ x.size then (0, 40) else ((numN x).1, (numN x).2.2)
theorem numN_cases (x : ByteArray) : numN x = (0, 0, 40) ∨ numN x = (0, 0, 41) ∨ ((numN x).2.2 = 0 ∧ (numN x).2.1 = ((ofs x + (numV x).2.2 : Nat) : Int)) := by
  unfold numN
  by_cases h1 : (numV x).2.2 = (if isHex x = true then 2 else 0)
  · rw [if_pos h1]; exact .inl rfl
  · rw [if_neg h1]
    by_cases h2 : (numV x).2.1 = true ∨ (ofs x = 1 ∧ 9223372036854775808 < (numV x).1)
    · rw [if_pos h2]; exact .inr (.inl rfl)
    · rw [if_neg h2]; exact .inr (.inr ⟨rfl, rfl⟩)
theorem parse_p (x : ByteArray) (hx : x.size ≤ 1048576) : word_Parse.f x = some (numP x) := by
  unfold word_Parse.f numP
  rw [next_p x hx, length_p x hx]
  simp only [Option.bind_eq_bind, Option.bind_some]
  rcases numN_cases x with h | h | ⟨h, h2⟩
  · rw [h]; rfl
  · rw [h]
    by_cases hl : ofs x + (numV x).2.2 = x.size
    · rw [hl]; simp
    · have : ¬ ((ofs x + (numV x).2.2 : Nat) : Int) = (x.size : Int) := by omega
      simp [hl, this]; omega
  · rw [h, h2]
    by_cases hl : ofs x + (numV x).2.2 = x.size
    · rw [hl]; simp
    · have : ¬ ((ofs x + (numV x).2.2 : Nat) : Int) = (x.size : Int) := by omega
      simp [hl, this]; omega
end Go.Proofs.YtboejepakdnbgaaGreatDoor.K
