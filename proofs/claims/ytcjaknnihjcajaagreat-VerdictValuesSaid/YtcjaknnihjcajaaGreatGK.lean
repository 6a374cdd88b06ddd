/- A text that holds a quote or the end of a line. -/
import Derived.Test.YtcjaknnihjcajaaGreatGJ
import Derived.Lib.MapLaws
namespace Go.Proofs.YtcjaknnihjcajaaGreat.K
open Go Go.RowKit
theorem wsub {a b : Nat} (hb : b ≤ a) (h : a < 9223372036854775807) : IntKind.i64.wrap ((a : Int) - (b : Int)) = ((a - b : Nat) : Int) := by rw [wi64_id (by omega) (by omega)]; omega
abbrev bA (s : ByteArray) (k : Nat) : Int := byt s (k : Int)
theorem bA_l (s : ByteArray) (k : Nat) : bA s k = ((s.data.toList.getD k 0).toNat : Int) := by unfold bA byt; rw [Int.toNat_natCast]
theorem bA_b (s : ByteArray) (k : Nat) : 0 ≤ bA s k ∧ bA s k ≤ 255 := by
 rw [bA_l]; have := (s.data.toList.getD k 0).toNat_lt; omega
theorem dat_bA {s : ByteArray} {j : Nat} : ((s.data[j]!).toNat : Int) = bA s j := by
 rw [bA_l, List.getD_eq_getElem?_getD, Array.getElem?_toList, getElem!_def]
 cases s.data[j]? <;> rfl
abbrev isQ (b : Int) : Bool := b == 34 || b == 10
def stE (s : ByteArray) : Nat → Nat → Nat
 | 0, k => k
 | n + 1, k => if isQ (bA s k) = true then k else stE s n (k + 1)
theorem stE_s (s : ByteArray) (n k : Nat) : stE s (n + 1) k = if isQ (bA s k) = true then k else stE s n (k + 1) := rfl
theorem stE_b (s : ByteArray) : ∀ n k, k ≤ stE s n k ∧ stE s n k ≤ k + n
 | 0, k => ⟨Nat.le_refl _, Nat.le_refl _⟩
 | n + 1, k => by
  have := stE_b s n (k + 1)
  unfold stE; split <;> omega
abbrev qs : ByteArray := ⟨#[34, 10]⟩
def qset : Vector Bool 256 := vset (vset (Vector.replicate 256 false) 34 true) 10 true
theorem set_p : strings_makeASCIISet.f qs = some (qset, true) := by
 have h : strings_makeASCIISet.l0 qs 0 (Vector.replicate 256 false) = some (.inl qset) := by
  rw [strings_makeASCIISet.l0, if_pos (by decide), if_pos (by decide), if_neg (by decide), if_pos (by decide)];rw [show IntKind.i64.wrap ((0 : Int) + 1) = 1 from rfl, strings_makeASCIISet.l0, if_pos (by decide), if_pos (by decide), if_neg (by decide), if_pos (by decide)];rw [show IntKind.i64.wrap ((1 : Int) + 1) = 2 from rfl, strings_makeASCIISet.l0, if_neg (by decide)];rfl
 unfold strings_makeASCIISet.f;rw [h]; rfl
theorem qset_all : ∀ n : Fin 256, vget qset (n.1 : Int) = isQ (n.1 : Int) := by decide +kernel
theorem asc_p {b : Int} (h : 0 ≤ b ∧ b ≤ 255) : strings_asciiSet__contains.f qset b = some (isQ b) := by
 have := qset_all ⟨b.toNat, by omega⟩
 have e : ((⟨b.toNat, by omega⟩ : Fin 256).1 : Int) = b := by show ((b.toNat : Nat) : Int) = b; omega
 rw [e] at this;unfold strings_asciiSet__contains.f;rw [if_pos (by omega), this]
 cases isQ b <;> rfl
theorem any_l1 (r : ByteArray) (hr : r.size ≤ 140737488355328) : ∀ (n k : Nat), r.size = k + n → strings_IndexAny.l1 r qset k = some (if stE r n k < r.size then .inr (.inr ((stE r n k : Nat) : Int)) else .inl ()) := by
 intro n
 induction n with
 | zero =>
  intro k hk;rw [strings_IndexAny.l1, if_neg (nt (decide_eq_false (by omega)))];unfold stE; rw [if_neg (by omega)]
 | succ n ih =>
  intro k hk;rw [strings_IndexAny.l1, if_pos (decide_eq_true (by omega)), if_pos (by omega), asc_p (bA_b r k), w1 (by omega), ih (k + 1) (by omega)];rw [stE_s];simp only [Option.bind_eq_bind, Option.bind_some];cases hq : isQ (bA r k)
  ·rfl
  ·rw [if_pos rfl, if_pos rfl, if_pos (by omega)]
theorem get_bA (s : ByteArray) (j : Nat) : (((s.get! j).toNat : Nat) : Int) = bA s j := dat_bA
theorem rune (s : ByteArray) (k : Nat) (hk : k < s.size) : (bA s k < 128 ∧ rdc s k = bA s k ∧ rdw s k = 1) ∨
  (128 ≤ rdc s k ∧ (rdc s k < 55296 ∨ (57343 < rdc s k ∧ rdc s k ≤ 1114111)) ∧ 1 ≤ rdw s k ∧ k + rdw s k ≤ s.size ∧ ∀ j, k ≤ j → j < k + rdw s k → 128 ≤ bA s j) := by
 have h0 := get_bA s k;have h1 := get_bA s (k + 1);have h2 := get_bA s (k + 2);have h3 := get_bA s (k + 3);have b0 := bA_b s k;unfold rdc rdw;rw [Lib.decode_at]
 rcases Lib.decodeN_shape (s.size - k) (s.get! k).toNat (s.get! (k + 1)).toNat (s.get! (k + 2)).toNat (s.get! (k + 3)).toNat with ⟨a, e⟩ | ⟨a, a1, a2, a3, e⟩ | ⟨a, a1, a2, a3, a4, a5, e⟩ | ⟨a, a1, a2, a3, a4, a5, a6, e⟩ | e
 ·left; rw [e]; exact ⟨by omega, h0, rfl⟩
 ·right; rw [e]; simp only
  refine ⟨by omega, by omega, by omega, by omega, fun j hj hl => ?_⟩
  rcases (show j = k ∨ j = k + 1 by omega) with rfl | rfl <;> omega
 ·right; rw [e]; simp only
  refine ⟨by omega, by omega, by omega, by omega, fun j hj hl => ?_⟩
  rcases (show j = k ∨ j = k + 1 ∨ j = k + 2 by omega) with rfl | rfl | rfl <;> omega
 ·right; rw [e]; simp only
  refine ⟨by omega, by omega, by omega, by omega, fun j hj hl => ?_⟩
  rcases (show j = k ∨ j = k + 1 ∨ j = k + 2 ∨ j = k + 3 by omega) with rfl | rfl | rfl | rfl <;> omega
 ·by_cases hb : bA s k < 128
  ·left
   have hlt : (s.get! k).toNat < 128 := by omega
   unfold Lib.decodeN;rw [if_pos hlt]; exact ⟨hb, h0, rfl⟩
  ·right; rw [e]; simp only
   refine ⟨by decide, by decide, by omega, by omega, fun j hj hl => ?_⟩
   obtain rfl : j = k := by omega
   omega
theorem enc_p {c : Int} (h1 : 128 ≤ c) (h2 : c < 55296 ∨ (57343 < c ∧ c ≤ 1114111)) : 2 ≤ (Utf8.encode c).size ∧ (Utf8.encode c).size ≤ 4 ∧ 128 ≤ bA (Utf8.encode c) ((Utf8.encode c).size - 1) := by
 have hv : Utf8.valid c = true := by unfold Utf8.valid; simp only [Bool.or_eq_true, Bool.and_eq_true, decide_eq_true_eq]; omega
 have hb : ∀ n : Nat, 128 ≤ ((UInt8.ofNat (0x80 + n % 64)).toNat : Int) := fun n => by
  rw [UInt8.toNat_ofNat']; omega
 unfold Utf8.encode;simp only [hv, if_true];rw [if_neg (by omega)]
 split
 ·exact ⟨by show 2 ≤ 2; decide, by show 2 ≤ 4; decide, hb _⟩
 ·split
  ·exact ⟨by show 2 ≤ 3; decide, by show 3 ≤ 4; decide, hb _⟩
  ·exact ⟨by show 2 ≤ 4; decide, by show 4 ≤ 4; decide, hb _⟩
theorem ib_all : ∀ n : Fin 256, decide (0 ≤ Lib.indexByte [34, 10] (UInt8.ofNat n.1)) = isQ (n.1 : Int) := by decide +kernel
theorem rune_lo {c : Int} (h : 0 ≤ c ∧ c < 128) : ∃ r, strings_IndexRune.f qs c = some r ∧ (0 ≤ r ↔ isQ c = true) := by
 have e : IntKind.u8.wrap c = c := by simp [IntKind.wrap, IntKind.bits, IntKind.signed]; omega
 refine ⟨Lib.indexByte [34, 10] c.toNat.toUInt8, ?_, ?_⟩
 ·unfold strings_IndexRune.f;rw [if_pos (decide_eq_true h.1), if_pos (decide_eq_true h.2), e]; rfl
 ·have := ib_all ⟨c.toNat, by omega⟩
  have e2 : ((⟨c.toNat, by omega⟩ : Fin 256).1 : Int) = c := by show ((c.toNat : Nat) : Int) = c; omega
  rw [e2] at this;rw [← this];show _ ↔ decide (0 ≤ Lib.indexByte [34, 10] (UInt8.ofNat c.toNat)) = true;rw [decide_eq_true_eq]
theorem rune_hi {c : Int} (h1 : 128 ≤ c) (h2 : c < 55296 ∨ (57343 < c ∧ c ≤ 1114111)) : strings_IndexRune.f qs c = some (-1) := by
 unfold strings_IndexRune.f;rw [if_pos (decide_eq_true (by omega)), if_neg (nt (decide_eq_false (by omega)))]
 by_cases he : c = 65533
 ·have h : strings_IndexRune.l0 qs 0 = some (.inl ()) := by
   rw [strings_IndexRune.l0, if_pos (by decide), if_neg (by decide), show 0 + rdw qs 0 = 1 from rfl];rw [strings_IndexRune.l0, if_pos (by decide), if_neg (by decide), show 1 + rdw qs 1 = 2 from rfl];rw [strings_IndexRune.l0, if_neg (by decide)]
  rw [if_pos (by simpa using he), h]; rfl
 ·have hv : utf8_ValidRune.f c = some true := by
   unfold utf8_ValidRune.f;rw [if_pos (decide_eq_true (by omega))]
   rcases h2 with h | h
   ·rw [if_pos (decide_eq_true h)]
   ·rw [if_neg (nt (decide_eq_false (by omega))), if_pos (decide_eq_true h.1), if_pos (decide_eq_true h.2)]
  rw [if_neg (by simpa using he), hv];simp only [Option.bind_eq_bind, Option.bind_some];obtain ⟨z2, z4, zb⟩ := enc_p h1 h2;generalize hE : Utf8.encode c = E at z2 z4 zb;have ew : IntKind.i64.wrap ((E.size : Int) - 1) = ((E.size - 1 : Nat) : Int) := wsub (b := 1) (by omega) (by omega)
  have hl : strings_IndexRune.l1 qs c ((E.size - 1 : Nat) : Int) = some (.inl ()) ∨ strings_IndexRune.l1 qs c ((E.size - 1 : Nat) : Int) = some (.inr (-1)) := by
   unfold strings_IndexRune.l1;rw [hE, ew];have hq : (qs.size : Int) = 2 := rfl
   by_cases h3 : E.size = 2
   ·right
    have e10 : byt qs ((E.size - 1 : Nat) : Int) = 10 := by rw [h3]; rfl
    have z : byt E ((E.size - 1 : Nat) : Int) = bA E (E.size - 1) := rfl;rw [hq, if_pos (decide_eq_true (by omega)), if_pos (by omega), if_pos (by omega), e10, z, if_pos (by simp only [bne_iff_ne, ne_eq]; omega), w1 (by omega), if_pos (by omega), if_pos (by omega)]
    have hi : ∀ b, strings_IndexByte.f (qs.extract (((E.size - 1 + 1 : Nat) : Int)).toNat qs.size) b = some (-1) := by
     intro b; rw [h3]; rfl
    rw [hi]; rfl
   ·left
    rw [hq, if_neg (nt (decide_eq_false (by omega)))]
  rw [if_neg (by simp), ew]
  rcases hl with h | h <;> rw [h] <;> rfl
theorem stE_step (r : ByteArray) : ∀ (w n k : Nat), r.size = k + n → k + w ≤ r.size → (∀ j, k ≤ j → j < k + w → isQ (bA r j) = false) → stE r n k = stE r (n - w) (k + w)
 | 0, n, k, _, _, _ => rfl
 | w + 1, n, k, h, h1, h2 => by
  obtain ⟨m, rfl⟩ : ∃ m, n = m + 1 := ⟨n - 1, by omega⟩;rw [stE, h2 k (Nat.le_refl _) (by omega), if_neg (by simp)];rw [stE_step r w m (k + 1) (by omega) (by omega) (fun j a b => h2 j (by omega) (by omega))];rw [show m + 1 - (w + 1) = m - w by omega, show k + 1 + w = k + (w + 1) by omega]
theorem any_l0 (r : ByteArray) (hr : r.size ≤ 140737488355328) : ∀ (m n k : Nat), n ≤ m → r.size = k + n → strings_IndexAny.l0 r qs k = some (if stE r n k < r.size then .inr ((stE r n k : Nat) : Int) else .inl ()) := by
 intro m
 induction m with
 | zero =>
  intro n k hm hk
  obtain rfl : n = 0 := by omega
  rw [strings_IndexAny.l0, if_neg (nt (decide_eq_false (by omega)))];unfold stE; rw [if_neg (by omega)]
 | succ m ih =>
  intro n k hm hk
  by_cases hlt : k < r.size
  ·rw [strings_IndexAny.l0, if_pos (decide_eq_true hlt)]
   rcases rune r k hlt with ⟨c1, c2, c3⟩ | ⟨c1, c2, c3, c4, c5⟩
   ·obtain ⟨v, v1, v2⟩ := rune_lo (c := bA r k) ⟨(bA_b r k).1, c1⟩;obtain ⟨n, rfl⟩ : ∃ j, n = j + 1 := ⟨n - 1, by omega⟩;rw [c2, v1, c3];simp only [Option.bind_eq_bind, Option.bind_some];rw [ih n (k + 1) (by omega) (by omega)];rw [stE_s];cases hq : isQ (bA r k)
    ·rw [if_neg (nt (decide_eq_false (mt v2.1 (by rw [hq]; simp))))]; rfl
    ·rw [if_pos (decide_eq_true (v2.2 hq)), if_pos rfl, if_pos (by omega)]
   ·have hst := stE_step r (rdw r k) n k hk c4 (fun j a b => by
     have := c5 j a b;unfold isQ;rw [Bool.or_eq_false_iff]
     constructor <;> (rw [beq_eq_false_iff_ne]; omega))
    rw [rune_hi c1 c2];simp only [Option.bind_eq_bind, Option.bind_some];rw [if_neg (by decide), ih (n - rdw r k) (k + rdw r k) (by omega) (by omega), hst]
  ·obtain rfl : n = 0 := by omega
   rw [strings_IndexAny.l0, if_neg (nt (decide_eq_false (by omega)))];unfold stE; rw [if_neg (by omega)]
theorem any_p (r : ByteArray) (hr : r.size ≤ 140737488355328) : strings_IndexAny.f r qs = some (if stE r r.size 0 < r.size then ((stE r r.size 0 : Nat) : Int) else -1) := by
 unfold strings_IndexAny.f strings_shouldUseASCIISet.f;rw [if_neg (by rw [seq_p]; decide), if_neg (by decide)];have h0 : strings_IndexAny.l0 r qs 0 = _ := any_l0 r hr r.size r.size 0 (Nat.le_refl _) (by omega);have h1 : strings_IndexAny.l1 r qset 0 = _ := any_l1 r hr r.size 0 (by omega)
 by_cases h8 : (r.size : Int) > 8
 ·rw [if_pos (decide_eq_true h8)];simp only [Option.bind_eq_bind, Option.bind_some, if_true];rw [set_p];simp only [Option.bind_some, if_true];rw [h1]
  split <;> rfl
 ·rw [if_neg (nt (decide_eq_false h8))];simp only [Option.bind_eq_bind, Option.bind_some, Bool.false_eq_true, if_false];rw [h0]
  split <;> rfl
theorem doc_p (s : ByteArray) (hs : s.size ≤ 140737488355328) : strings_ContainsAny.f s qs = some (decide (stE s s.size 0 < s.size)) := by
 unfold strings_ContainsAny.f;rw [any_p s hs];simp only [Option.bind_eq_bind, Option.bind_some]
 by_cases h : stE s s.size 0 < s.size
 ·rw [if_pos h, if_pos (decide_eq_true (by omega)), decide_eq_true h]
 ·rw [if_neg h, if_neg (by decide), decide_eq_false h]
theorem doc_d (a : api_Test) (hs : a.Doc.size ≤ 140737488355328) : ∀ (n k : Nat), a.Doc.size = k + n → weirref09_asked.l2 a (k : Int) = some (if stE a.Doc n k < a.Doc.size then .inr (⟨1, 0, 0⟩, 50) else .inl ()) := by
 intro n
 induction n with
 | zero =>
  intro k hk;rw [weirref09_asked.l2, if_neg (dF (by omega))];unfold stE; rw [if_neg (by omega)]
 | succ n ih =>
  intro k hk
  have g0 : 0 ≤ (k : Int) ∧ (k : Int) < (a.Doc.size : Int) := by omega
  rw [weirref09_asked.l2, if_pos (dT (by omega))];simp only [if_pos g0, w1 (show k < 9223372036854775807 by omega), ih (k + 1) (by omega)];rw [stE_s];have hb := stE_b a.Doc n (k + 1);unfold isQ;show (if (bA a.Doc k == 34) = true then _ else (if (bA a.Doc k == 10) = true then _ else _)) = _
  cases bA a.Doc k == 34 <;> cases bA a.Doc k == 10
  ·rfl
  ·simp only [Bool.false_or, if_true, Bool.false_eq_true, if_false]; rw [if_pos (by omega)]
  ·simp only [Bool.true_or, if_true]; rw [if_pos (by omega)]
  ·simp only [Bool.true_or, if_true]; rw [if_pos (by omega)]
end Go.Proofs.YtcjaknnihjcajaaGreat.K
