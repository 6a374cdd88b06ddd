/- Where numbers and strings end; signs. -/
import Derived.Test.YtboejepakdnbgaaGreatDoorLB
import Derived.Lib.MapLaws
set_option linter.unusedVariables false
set_option linter.unusedSimpArgs false
namespace Go.Proofs.YtboejepakdnbgaaGreatDoor.K
open Go

/-! ### A number's end -/
def onN (s : ByteArray) (k : Nat) : Bool := isL (bA s k) || isD (bA s k) || bA s k == 46
def noE (s : ByteArray) : Nat → Nat → Nat
  | 0, k => k
  | n + 1, k => if onN s k = true then noE s n (k + 1) else k
theorem noE_s (s : ByteArray) (n k : Nat) : noE s (n + 1) k = if onN s k = true then noE s n (k + 1) else k := rfl
theorem noE_b (s : ByteArray) : ∀ n k, k ≤ noE s n k ∧ noE s n k ≤ k + n
  | 0, k => ⟨Nat.le_refl _, Nat.le_refl _⟩
  | n + 1, k => by
    have := noE_b s n (k + 1)
    unfold noE; split <;> omega
theorem no_p (s : ByteArray) (hs : s.size ≤ 1048576) (a : Nat) (ha : a ≤ s.size) : ∀ (n k : Nat), s.size = a + k + n → lexis_Lexer__Next.l0 s a k = some ((noE s n (a + k) - a : Nat) : Int) := by
  have hz : (s.extract (a : Int).toNat s.size).size = s.size - a := by rw [Int.toNat_natCast]; exact cut_size (Nat.le_refl _)
  intro n
  induction n with
  | zero =>
    intro k hk
    rw [lexis_Lexer__Next.l0, if_neg (nt (decide_eq_false (by rw [hz]; omega)))]
    unfold noE; rw [Nat.add_sub_cancel_left]; rfl
  | succ n ih =>
    intro k hk
    have hi := ih (k + 1) (by omega)
    have eb : byt (s.extract (a : Int).toNat s.size) (k : Int) = bA s (a + k) := by rw [Int.toNat_natCast]; exact bA_cut s a k
    rw [lexis_Lexer__Next.l0, hz, eb, if_pos (decide_eq_true (by omega))]
    simp only [if_pos (show 0 ≤ (k : Int) ∧ (k : Int) < ((s.size - a : Nat) : Int) by omega), letter_p, digit_p, Option.bind_eq_bind, Option.bind_some]
    rw [w1 (by omega), hi]
    rw [noE_s]; unfold onN
    rw [show a + (k + 1) = a + k + 1 by omega]
    have eZ : ∀ b : Bool, ((if b = true then noE s n (a + k + 1) else a + k) - a : Nat) = if b = true then noE s n (a + k + 1) - a else k := by intro b; cases b <;> simp
    rw [eZ]
    cases isL (bA s (a + k)) <;> cases isD (bA s (a + k)) <;> cases bA s (a + k) == 46 <;> rfl
/-! ### A string's end -/
abbrev isQ (b : Int) : Bool := b == 34 || b == 10
def stE (s : ByteArray) : Nat → Nat → Nat
  | 0, k => k
  | n + 1, k => if isQ (bA s k) = true then k else stE s n (k + 1)
theorem stE_s (s : ByteArray) (n k : Nat) : stE s (n + 1) k = if isQ (bA s k) = true then k else stE s n (k + 1) := rfl
theorem stE_b (s : ByteArray) : ∀ n k, k ≤ stE s n k ∧ stE s n k ≤ k + n
  | 0, k => ⟨Nat.le_refl _, Nat.le_refl _⟩
  | n + 1, k => by
    have := stE_b s n (k + 1)
    unfold stE; split <;> omega
theorem stE_q (s : ByteArray) : ∀ n k, stE s n k < k + n → isQ (bA s (stE s n k)) = true
  | 0, k, h => by unfold stE at h; omega
  | n + 1, k, h => by
    unfold stE at h ⊢
    split
    · assumption
    · rename_i hq
      rw [if_neg hq] at h
      exact stE_q s n (k + 1) (by omega)
/-! ### IndexAny -/
abbrev qs : ByteArray := ⟨#[34, 10]⟩
def qset : Vector Bool 256 := vset (vset (Vector.replicate 256 false) 34 true) 10 true
theorem set_p : strings_makeASCIISet.f qs = some (qset, true) := by
  have h : strings_makeASCIISet.l0 qs 0 (Vector.replicate 256 false) = some (.inl qset) := by
    rw [strings_makeASCIISet.l0, if_pos (by decide), if_pos (by decide), if_neg (by decide), if_pos (by decide)]
    rw [show IntKind.i64.wrap ((0 : Int) + 1) = 1 from rfl, strings_makeASCIISet.l0, if_pos (by decide), if_pos (by decide), if_neg (by decide), if_pos (by decide)]
    rw [show IntKind.i64.wrap ((1 : Int) + 1) = 2 from rfl, strings_makeASCIISet.l0, if_neg (by decide)]
    rfl
  unfold strings_makeASCIISet.f
  rw [h]; rfl
theorem qset_all : ∀ n : Fin 256, vget qset (n.1 : Int) = isQ (n.1 : Int) := by decide +kernel
theorem has_p {b : Int} (h : 0 ≤ b ∧ b ≤ 255) : strings_asciiSet__contains.f qset b = some (isQ b) := by
  have := qset_all ⟨b.toNat, by omega⟩
  have e : ((⟨b.toNat, by omega⟩ : Fin 256).1 : Int) = b := by show ((b.toNat : Nat) : Int) = b; omega
  rw [e] at this
  unfold strings_asciiSet__contains.f
  rw [if_pos (by omega), this]
  cases isQ b <;> rfl
theorem any_l1 (r : ByteArray) (hr : r.size ≤ 1048576) : ∀ (n k : Nat), r.size = k + n → strings_IndexAny.l1 r qset k = some (if stE r n k < r.size then .inr (.inr ((stE r n k : Nat) : Int)) else .inl ()) := by
  intro n
  induction n with
  | zero =>
    intro k hk
    rw [strings_IndexAny.l1, if_neg (nt (decide_eq_false (by omega)))]
    unfold stE; rw [if_neg (by omega)]
  | succ n ih =>
    intro k hk
    rw [strings_IndexAny.l1, if_pos (decide_eq_true (by omega)), if_pos (by omega), has_p (bA_b r k), w1 (by omega), ih (k + 1) (by omega)]
    rw [stE_s]
    simp only [Option.bind_eq_bind, Option.bind_some]
    cases hq : isQ (bA r k)
    · rfl
    · rw [if_pos rfl, if_pos rfl, if_pos (by omega)]
theorem get_bA (s : ByteArray) (j : Nat) : (((s.get! j).toNat : Nat) : Int) = bA s j := dat_bA
theorem rune (s : ByteArray) (k : Nat) (hk : k < s.size) : (bA s k < 128 ∧ rdc s k = bA s k ∧ rdw s k = 1) ∨
    (128 ≤ rdc s k ∧ (rdc s k < 55296 ∨ (57343 < rdc s k ∧ rdc s k ≤ 1114111)) ∧ 1 ≤ rdw s k ∧ k + rdw s k ≤ s.size ∧ ∀ j, k ≤ j → j < k + rdw s k → 128 ≤ bA s j) := by
  have h0 := get_bA s k
  have h1 := get_bA s (k + 1)
  have h2 := get_bA s (k + 2)
  have h3 := get_bA s (k + 3)
  have b0 := bA_b s k
  unfold rdc rdw
  rw [Lib.decode_at]
  rcases Lib.decodeN_shape (s.size - k) (s.get! k).toNat (s.get! (k + 1)).toNat (s.get! (k + 2)).toNat (s.get! (k + 3)).toNat with ⟨a, e⟩ | ⟨a, a1, a2, a3, e⟩ | ⟨a, a1, a2, a3, a4, a5, e⟩ | ⟨a, a1, a2, a3, a4, a5, a6, e⟩ | e
  · left; rw [e]; exact ⟨by omega, h0, rfl⟩
  · right; rw [e]; simp only
    refine ⟨by omega, by omega, by omega, by omega, fun j hj hl => ?_⟩
    rcases (show j = k ∨ j = k + 1 by omega) with rfl | rfl <;> omega
  · right; rw [e]; simp only
    refine ⟨by omega, by omega, by omega, by omega, fun j hj hl => ?_⟩
    rcases (show j = k ∨ j = k + 1 ∨ j = k + 2 by omega) with rfl | rfl | rfl <;> omega
  · right; rw [e]; simp only
    refine ⟨by omega, by omega, by omega, by omega, fun j hj hl => ?_⟩
    rcases (show j = k ∨ j = k + 1 ∨ j = k + 2 ∨ j = k + 3 by omega) with rfl | rfl | rfl | rfl <;> omega
  · by_cases hb : bA s k < 128
    · left
      have hlt : (s.get! k).toNat < 128 := by omega
      unfold Lib.decodeN
      rw [if_pos hlt]; exact ⟨hb, h0, rfl⟩
    · right; rw [e]; simp only
      refine ⟨by decide, by decide, by omega, by omega, fun j hj hl => ?_⟩
      obtain rfl : j = k := by omega
      omega
theorem enc_p {c : Int} (h1 : 128 ≤ c) (h2 : c < 55296 ∨ (57343 < c ∧ c ≤ 1114111)) : 2 ≤ (Utf8.encode c).size ∧ (Utf8.encode c).size ≤ 4 ∧ 128 ≤ bA (Utf8.encode c) ((Utf8.encode c).size - 1) := by
  have hv : Utf8.valid c = true := by unfold Utf8.valid; simp only [Bool.or_eq_true, Bool.and_eq_true, decide_eq_true_eq]; omega
  have hb : ∀ n : Nat, 128 ≤ ((UInt8.ofNat (0x80 + n % 64)).toNat : Int) := fun n => by
    rw [UInt8.toNat_ofNat']; omega
  unfold Utf8.encode
  simp only [hv, if_true]
  rw [if_neg (by omega)]
  split
  · exact ⟨by show 2 ≤ 2; decide, by show 2 ≤ 4; decide, hb _⟩
  · split
    · exact ⟨by show 2 ≤ 3; decide, by show 3 ≤ 4; decide, hb _⟩
    · exact ⟨by show 2 ≤ 4; decide, by show 4 ≤ 4; decide, hb _⟩
theorem ib_all : ∀ n : Fin 256, decide (0 ≤ Lib.indexByte [34, 10] (UInt8.ofNat n.1)) = isQ (n.1 : Int) := by decide +kernel
theorem rune_lo {c : Int} (h : 0 ≤ c ∧ c < 128) : ∃ r, strings_IndexRune.f qs c = some r ∧ (0 ≤ r ↔ isQ c = true) := by
  have e : IntKind.u8.wrap c = c := by simp [IntKind.wrap, IntKind.bits, IntKind.signed]; omega
  refine ⟨Lib.indexByte [34, 10] c.toNat.toUInt8, ?_, ?_⟩
  · unfold strings_IndexRune.f
    rw [if_pos (decide_eq_true h.1), if_pos (decide_eq_true h.2), e]; rfl
  · have := ib_all ⟨c.toNat, by omega⟩
    have e2 : ((⟨c.toNat, by omega⟩ : Fin 256).1 : Int) = c := by show ((c.toNat : Nat) : Int) = c; omega
    rw [e2] at this
    rw [← this]
    show _ ↔ decide (0 ≤ Lib.indexByte [34, 10] (UInt8.ofNat c.toNat)) = true
    rw [decide_eq_true_eq]
theorem rune_hi {c : Int} (h1 : 128 ≤ c) (h2 : c < 55296 ∨ (57343 < c ∧ c ≤ 1114111)) : strings_IndexRune.f qs c = some (-1) := by
  unfold strings_IndexRune.f
  rw [if_pos (decide_eq_true (by omega)), if_neg (nt (decide_eq_false (by omega)))]
  by_cases he : c = 65533
  · have h : strings_IndexRune.l0 qs 0 = some (.inl ()) := by
      rw [strings_IndexRune.l0, if_pos (by decide), if_neg (by decide), show 0 + rdw qs 0 = 1 from rfl]
      rw [strings_IndexRune.l0, if_pos (by decide), if_neg (by decide), show 1 + rdw qs 1 = 2 from rfl]
      rw [strings_IndexRune.l0, if_neg (by decide)]
    rw [if_pos (by simpa using he), h]; rfl
  · have hv : utf8_ValidRune.f c = some true := by
      unfold utf8_ValidRune.f
      rw [if_pos (decide_eq_true (by omega))]
      rcases h2 with h | h
      · rw [if_pos (decide_eq_true h)]
      · rw [if_neg (nt (decide_eq_false (by omega))), if_pos (decide_eq_true h.1), if_pos (decide_eq_true h.2)]
    rw [if_neg (by simpa using he), hv]
    simp only [Option.bind_eq_bind, Option.bind_some]
    obtain ⟨z2, z4, zb⟩ := enc_p h1 h2
    generalize hE : Utf8.encode c = E at z2 z4 zb
    have ew : IntKind.i64.wrap ((E.size : Int) - 1) = ((E.size - 1 : Nat) : Int) := wsub (b := 1) (by omega) (by omega)
    have hl : strings_IndexRune.l1 qs c ((E.size - 1 : Nat) : Int) = some (.inl ()) ∨ strings_IndexRune.l1 qs c ((E.size - 1 : Nat) : Int) = some (.inr (-1)) := by
      unfold strings_IndexRune.l1
      rw [hE, ew]
      have hq : (qs.size : Int) = 2 := rfl
      by_cases h3 : E.size = 2
      · right
        have e10 : byt qs ((E.size - 1 : Nat) : Int) = 10 := by rw [h3]; rfl
        have z : byt E ((E.size - 1 : Nat) : Int) = bA E (E.size - 1) := rfl
        rw [hq, if_pos (decide_eq_true (by omega)), if_pos (by omega), if_pos (by omega), e10, z, if_pos (by simp only [bne_iff_ne, ne_eq]; omega), w1 (by omega), if_pos (by omega), if_pos (by omega)]
        have hi : ∀ b, strings_IndexByte.f (qs.extract (((E.size - 1 + 1 : Nat) : Int)).toNat qs.size) b = some (-1) := by
          intro b; rw [h3]; rfl
        rw [hi]; rfl
      · left
        rw [hq, if_neg (nt (decide_eq_false (by omega)))]
    rw [if_neg (by simp), ew]
    rcases hl with h | h <;> rw [h] <;> rfl
theorem stE_step (r : ByteArray) : ∀ (w n k : Nat), r.size = k + n → k + w ≤ r.size → (∀ j, k ≤ j → j < k + w → isQ (bA r j) = false) → stE r n k = stE r (n - w) (k + w)
  | 0, n, k, _, _, _ => rfl
  | w + 1, n, k, h, h1, h2 => by
    obtain ⟨m, rfl⟩ : ∃ m, n = m + 1 := ⟨n - 1, by omega⟩
    rw [stE, h2 k (Nat.le_refl _) (by omega), if_neg (by simp)]
    rw [stE_step r w m (k + 1) (by omega) (by omega) (fun j a b => h2 j (by omega) (by omega))]
    rw [show m + 1 - (w + 1) = m - w by omega, show k + 1 + w = k + (w + 1) by omega]
theorem any_l0 (r : ByteArray) (hr : r.size ≤ 1048576) : ∀ (m n k : Nat), n ≤ m → r.size = k + n → strings_IndexAny.l0 r qs k = some (if stE r n k < r.size then .inr ((stE r n k : Nat) : Int) else .inl ()) := by
  intro m
  induction m with
  | zero =>
    intro n k hm hk
    obtain rfl : n = 0 := by omega
    rw [strings_IndexAny.l0, if_neg (nt (decide_eq_false (by omega)))]
    unfold stE; rw [if_neg (by omega)]
  | succ m ih =>
    intro n k hm hk
    by_cases hlt : k < r.size
    · rw [strings_IndexAny.l0, if_pos (decide_eq_true hlt)]
      rcases rune r k hlt with ⟨c1, c2, c3⟩ | ⟨c1, c2, c3, c4, c5⟩
      · obtain ⟨v, v1, v2⟩ := rune_lo (c := bA r k) ⟨(bA_b r k).1, c1⟩
        obtain ⟨n, rfl⟩ : ∃ j, n = j + 1 := ⟨n - 1, by omega⟩
        rw [c2, v1, c3]
        simp only [Option.bind_eq_bind, Option.bind_some]
        rw [ih n (k + 1) (by omega) (by omega)]
        rw [stE_s]
        cases hq : isQ (bA r k)
        · rw [if_neg (nt (decide_eq_false (mt v2.1 (by rw [hq]; simp))))]; rfl
        · rw [if_pos (decide_eq_true (v2.2 hq)), if_pos rfl, if_pos (by omega)]
      · have hst := stE_step r (rdw r k) n k hk c4 (fun j a b => by
          have := c5 j a b
          unfold isQ
          rw [Bool.or_eq_false_iff]
          constructor <;> (rw [beq_eq_false_iff_ne]; omega))
        rw [rune_hi c1 c2]
        simp only [Option.bind_eq_bind, Option.bind_some]
        rw [if_neg (by decide), ih (n - rdw r k) (k + rdw r k) (by omega) (by omega), hst]
    · obtain rfl : n = 0 := by omega
      rw [strings_IndexAny.l0, if_neg (nt (decide_eq_false (by omega)))]
      unfold stE; rw [if_neg (by omega)]
theorem any_p (r : ByteArray) (hr : r.size ≤ 1048576) : strings_IndexAny.f r qs = some (if stE r r.size 0 < r.size then ((stE r r.size 0 : Nat) : Int) else -1) := by
  unfold strings_IndexAny.f strings_shouldUseASCIISet.f
  rw [if_neg (by rw [seq_p]; decide), if_neg (by decide)]
  have h0 : strings_IndexAny.l0 r qs 0 = _ := any_l0 r hr r.size r.size 0 (Nat.le_refl _) (by omega)
  have h1 : strings_IndexAny.l1 r qset 0 = _ := any_l1 r hr r.size 0 (by omega)
  by_cases h8 : (r.size : Int) > 8
  · rw [if_pos (decide_eq_true h8)]
    simp only [Option.bind_eq_bind, Option.bind_some, if_true]
    rw [set_p]
    simp only [Option.bind_some, if_true]
    rw [h1]
    split <;> rfl
  · rw [if_neg (nt (decide_eq_false h8))]
    simp only [Option.bind_eq_bind, Option.bind_some, Bool.false_eq_true, if_false]
    rw [h0]
    split <;> rfl
/-! ### Signs -/
theorem pre_take (l p : List UInt8) : Lib.hasPrefix l p = decide (p = l.take p.length) := by
  unfold Lib.hasPrefix
  rw [Bool.eq_iff_iff, List.isPrefixOf_iff_prefix, decide_eq_true_eq, List.prefix_iff_eq_take]
theorem pre_p (s : ByteArray) (a : Nat) (p : ByteArray) : strings_HasPrefix.f (s.extract (a : Int).toNat s.size) p = some (decide (p.data.toList = (s.data.toList.drop a).take p.size)) := by
  unfold strings_HasPrefix.f
  rw [Int.toNat_natCast, cut_l, pre_take, size_l s, List.take_length, size_l p]
abbrev lng (i : Nat) : ByteArray := if i = 0 then ⟨#[47, 92]⟩ else if i = 1 then ⟨#[92, 47]⟩ else ⟨#[94, 45, 49]⟩
theorem lng_v : ∀ i, i < 3 → vget (vset (vset (vset (Vector.replicate 3 (⟨#[]⟩ : ByteArray)) 0 (⟨#[47,92]⟩ : ByteArray)) 1 (⟨#[92,47]⟩ : ByteArray)) 2 (⟨#[94,45,49]⟩ : ByteArray)) ((i : Nat) : Int) = lng i
  | 0, _ => rfl
  | 1, _ => rfl
  | 2, _ => rfl
  | n + 3, h => absurd h (by omega)
def at_ (s : ByteArray) (a : Nat) (p : ByteArray) : Bool := decide (p.data.toList = (s.data.toList.drop a).take p.size)
def lgE (s : ByteArray) (a : Nat) : Nat → Nat → Option ByteArray
  | 0, _ => none
  | n + 1, i => if at_ s a (lng i) = true then some (lng i) else lgE s a n (i + 1)
theorem lgE_s (s : ByteArray) (a n i : Nat) : lgE s a (n + 1) i = if decide ((lng i).data.toList = (s.data.toList.drop a).take (lng i).size) = true then some (lng i) else lgE s a n (i + 1) := rfl
theorem lng_z (i : Nat) : (lng i).size ≤ 3 ∧ 2 ≤ (lng i).size := by
  unfold lng; split
  · decide
  · split <;> decide
theorem lg_p (s : ByteArray) (a : Nat) : ∀ n i : Nat, n + i = 3 → lexis_sign.l0 (s.extract (a : Int).toNat s.size) i = some (match lgE s a n i with | some p => .inr (p.size : Int) | none => .inl ())
  | 0, i, h => by rw [lexis_sign.l0, if_neg (nt (decide_eq_false (by omega)))]; rfl
  | n + 1, i, h => by
    rw [lexis_sign.l0, if_pos (decide_eq_true (by omega)), if_pos (by omega), lng_v i (by omega), pre_p, w1 (by omega), lg_p s a n (i + 1) (by omega)]
    simp only [Option.bind_eq_bind, Option.bind_some]
    rw [lgE_s]
    split <;> rfl
theorem lgE_at (s : ByteArray) (a : Nat) : ∀ n i p, lgE s a n i = some p → 2 ≤ p.size ∧ a + p.size ≤ s.size ∧ s.extract a (a + p.size) = p
  | 0, _, _, h => by cases h
  | n + 1, i, p, h => by
    unfold lgE at h
    split at h
    · rename_i hc
      cases h
      have hc' := of_decide_eq_true hc
      have hz := lng_z i
      have hl := congrArg List.length hc'
      rw [List.length_take, List.length_drop, ← size_l, ← size_l] at hl
      refine ⟨hz.2, by omega, ba_ext ?_⟩
      rw [cut_l, List.drop_take, Nat.add_sub_cancel_left, hc']
    · exact lgE_at s a n _ p h
abbrev shs : ByteArray := ⟨#[123,125,40,41,91,93,59,44,58,124,61,36,126,38,43,42,63,92]⟩
def shE (b : Int) : Nat → Nat → Bool
  | 0, _ => false
  | n + 1, i => b == bA shs i || shE b n (i + 1)
theorem sh_all : ∀ n : Fin 256, decide (0 ≤ Lib.indexByte [123,125,40,41,91,93,59,44,58,124,61,36,126,38,43,42,63,92] (UInt8.ofNat n.1)) = shE (n.1 : Int) 18 0 := by decide +kernel
theorem sh_p (s : ByteArray) (a : Nat) : ∃ r, strings_IndexByte.f shs (bA s a) = some r ∧ (0 ≤ r ↔ shE (bA s a) 18 0 = true) := by
  refine ⟨_, rfl, ?_⟩
  have hb := bA_b s a
  have := sh_all ⟨(bA s a).toNat, by omega⟩
  have e2 : ((⟨(bA s a).toNat, by omega⟩ : Fin 256).1 : Int) = bA s a := by show (((bA s a).toNat : Nat) : Int) = bA s a; omega
  rw [e2] at this
  rw [← this]
  show _ ↔ decide (0 ≤ Lib.indexByte [123,125,40,41,91,93,59,44,58,124,61,36,126,38,43,42,63,92] (UInt8.ofNat (bA s a).toNat)) = true
  rw [decide_eq_true_eq]
def sgE (s : ByteArray) (a : Nat) : Nat := match lgE s a 3 0 with
  | some p => p.size
  | none => if shE (bA s a) 18 0 = true then 1 else 0
theorem sgE_le {s : ByteArray} {a : Nat} (ha : a < s.size) : a + sgE s a ≤ s.size := by
  unfold sgE
  cases h : lgE s a 3 0 with
  | some p => exact (lgE_at s a 3 0 p h).2.1
  | none => simp only; split <;> omega
theorem sign_p (s : ByteArray) (a : Nat) (ha : a < s.size) : lexis_sign.f (s.extract (a : Int).toNat s.size) = some (sgE s a : Int) := by
  unfold lexis_sign.f sgE
  have h : lexis_sign.l0 (s.extract (a : Int).toNat s.size) 0 = _ := lg_p s a 3 0 rfl
  rw [h]
  cases hl : lgE s a 3 0 with
  | some p => rfl
  | none =>
    simp only [Option.bind_eq_bind, Option.bind_some]
    have hz : (s.extract (a : Int).toNat s.size).size = s.size - a := by rw [Int.toNat_natCast]; exact cut_size (Nat.le_refl _)
    have eb : byt (s.extract (a : Int).toNat s.size) (0 : Int) = bA s a := by rw [Int.toNat_natCast]; exact bA_cut s a 0
    obtain ⟨r, r1, r2⟩ := sh_p s a
    rw [hz, if_pos (by omega), eb, r1]
    simp only [Option.bind_some]
    by_cases hs : shE (bA s a) 18 0 = true
    · rw [if_pos (decide_eq_true (r2.2 hs)), if_pos hs]; rfl
    · rw [if_neg (nt (decide_eq_false (mt r2.1 hs))), if_neg hs]; rfl
end Go.Proofs.YtboejepakdnbgaaGreatDoor.K
