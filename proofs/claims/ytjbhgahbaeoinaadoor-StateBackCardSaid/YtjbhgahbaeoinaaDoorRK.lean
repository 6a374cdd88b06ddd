/- A state's code, and what is taken back of a text. -/
import Derived.Test.YtjbhgahbaeoinaaDoorRB
set_option linter.unusedVariables false
set_option linter.unusedSimpArgs false
set_option maxRecDepth 100000
namespace Go.Proofs.YtjbhgahbaeoinaaDoor.K
open Go

theorem strBytes_of {l : List Int} (h : ∀ x ∈ l, 0 ≤ x ∧ x < 256) : strBytes (ofBytes l) = l := by
  simp only [strBytes, ofBytes, List.map_map]
  refine (List.map_congr_left fun x hx => ?_).trans (List.map_id l)
  obtain ⟨h0, h1⟩ := h x hx
  simp only [Function.comp, id, UInt8.toNat_ofNat']
  omega
theorem ofBytes_str (s : ByteArray) : ofBytes (strBytes s) = s := by
  obtain ⟨a⟩ := s
  simp only [strBytes, ofBytes, List.map_map]
  congr 1
  refine (congrArg List.toArray ((List.map_congr_left fun x _ => ?_).trans (List.map_id a.toList))).trans (by simp)
  simp
theorem strBytes_byte (s : ByteArray) : ∀ x ∈ strBytes s, 0 ≤ x ∧ x < 256 := by
  intro x hx
  simp only [strBytes, List.mem_map] at hx
  obtain ⟨b, _, rfl⟩ := hx
  have := b.toNat_lt
  omega
theorem ofBytes_cat (a b : List Int) : ofBytes (a ++ b) = ofBytes a ++ ofBytes b := by
  apply ByteArray.ext
  apply Array.toList_inj.1
  simp [ofBytes, ByteArray.toList_data_append]
theorem ofBytes_len (a : List Int) : (strBytes (ofBytes a)).length = a.length := by simp [strBytes, ofBytes]
theorem ofBytes_size (a : List Int) : (ofBytes a).size = a.length := by simp [ofBytes, ByteArray.size]
theorem strBytes_inj {s t : ByteArray} (h : strBytes s = strBytes t) : s = t := by rw [← ofBytes_str s, h, ofBytes_str]

/-! ### Put -/
theorem put_l (n : Nat) : ∀ (t : Int) (xs : List Int), 0 ≤ t → t.toNat < 128 ^ (n + 1) → t ≤ 18446744073709551615 → xs.length + n ≤ 1000 →
    ∃ u ys, word_Put.l0 t xs = some (u, ys) ∧ ys ++ [u] = xs ++ pcode t.toNat ∧ ys.length ≤ xs.length + n ∧ 0 ≤ u ∧ u < 128 := by
  induction n with
  | zero =>
    intro t xs h0 h1 h2 hx
    have hd : decide (t ≥ 128) = false := decide_eq_false (by omega)
    refine ⟨t, xs, by rw [word_Put.l0, if_neg (nt hd)], ?_, by omega, h0, by omega⟩
    rw [pcode_lt (by omega), Int.toNat_of_nonneg h0]
  | succ n ih =>
    intro t xs h0 h1 h2 hx
    by_cases hd : t ≥ 128
    · have e1 : shrI .u64 t 7 = t / 128 := by rw [shr7, fdiv_pos (by omega)]
      have e3 : bor .u8 (IntKind.u8.wrap t) 128 = t % 128 + 128 := by rw [wu8, bor128 (by omega) (by omega)]; omega
      have hp : 128 ^ (n + 1 + 1) = 128 ^ (n + 1) * 128 := Nat.pow_succ _ _
      have e4 : (t / 128).toNat = t.toNat / 128 := by omega
      obtain ⟨u, ys, i1, i2, i3, i4⟩ := ih (t / 128) (xs ++ [t % 128 + 128]) (by omega) (by omega) (by omega) (by simp; omega)
      refine ⟨u, ys, ?_, ?_, by simp at i3; omega, i4⟩
      · have q : (xs.length + ([t % 128 + 128] : List Int).length) * 1 ≤ 140737488355328 := by simp; omega
        rw [word_Put.l0, if_pos (decide_eq_true hd), e3, if_pos q, e1]; exact i1
      · rw [i2, pcode_ge (u := t.toNat) (by omega), e4, List.append_assoc]
        congr 1
        simp only [List.cons_append, List.nil_append, List.cons.injEq, and_true]
        omega
    · have hd' : decide (t ≥ 128) = false := decide_eq_false hd
      refine ⟨t, xs, by rw [word_Put.l0, if_neg (nt hd')], ?_, by omega, h0, by omega⟩
      rw [pcode_lt (by omega), Int.toNat_of_nonneg h0]
theorem put_s {v : Int} (hv : inR v) : word_Put.f v = some (ofBytes (pcode (zig v))) := by
  obtain ⟨h0, h1⟩ := hv
  unfold word_Put.f
  have e1 : bxor .u64 (IntKind.u64.wrap (shlI .i64 v 1)) (IntKind.u64.wrap (shrI .i64 v 63)) = ((zig v : Nat) : Int) := by
    unfold zig
    by_cases hv : v < 0
    · have : IntKind.u64.wrap (shrI .i64 v 63) = 18446744073709551615 := by rw [shr63, fdiv_pos (by omega), wu64]; omega
      rw [this, bxor_um', shl1_i, wi64, wu64, if_pos hv]; omega
    · have : IntKind.u64.wrap (shrI .i64 v 63) = 0 := by rw [shr63, fdiv_pos (by omega), wu64]; omega
      rw [this, bxor_u0, shl1_i, wi64, wu64, wu64, if_neg hv]; omega
  have hz := zig_lt ⟨h0, h1⟩
  have hp : (128 : Nat) ^ (9 + 1) = 1180591620717411303424 := by decide
  obtain ⟨u, ys, i1, i2, i3, i4, i5⟩ := put_l 9 ((zig v : Nat) : Int) [] (by omega) (by rw [hp]; omega) (by omega) (by simp)
  rw [e1, i1]
  simp only [Option.bind_eq_bind, Option.bind_some]
  have e2 : IntKind.u8.wrap u = u := by rw [wu8]; omega
  have q : (ys.length + ([IntKind.u8.wrap u] : List Int).length) * 1 ≤ 140737488355328 := by simp at i3 ⊢; omega
  rw [if_pos q, e2, i2]
  simp

/-! ### Take -/
theorem bor_add {acc x n : Nat} (ha : acc < 128 ^ n) (hx : x < 128) (hn : n ≤ 9) (hs : acc + x * 128 ^ n < 18446744073709551616) : bor .u64 (acc : Int) (shlI .u64 (x : Int) ((7 * n : Nat) : Int)) = ((acc + x * 128 ^ n : Nat) : Int) := by
  have hp : (2 : Nat) ^ (7 * n) = 128 ^ n := by rw [Nat.pow_mul]
  have e1 : shlI .u64 (x : Int) ((7 * n : Nat) : Int) = ((x * 128 ^ n : Nat) : Int) := by
    unfold shlI
    rw [bits_u64, Int.toNat_natCast, Nat.min_eq_left (by omega), wu64, ← hp]
    have : ((x : Int) * 2 ^ (7 * n)) = ((x * 2 ^ (7 * n) : Nat) : Int) := by simp
    rw [this, hp]; omega
  rw [e1]
  unfold bor
  have n1 : (BitVec.ofInt 64 (acc : Int)).toNat = acc := by have := ofInt_nat 64 (acc : Int); omega
  have n2 : (BitVec.ofInt 64 ((x * 128 ^ n : Nat) : Int)).toNat = x * 128 ^ n := by have := ofInt_nat 64 ((x * 128 ^ n : Nat) : Int); omega
  have e2 : (BitVec.ofInt 64 (acc : Int) ||| BitVec.ofInt 64 ((x * 128 ^ n : Nat) : Int)).toNat = acc + x * 128 ^ n := by
    rw [BitVec.toNat_or, n1, n2, ← hp]
    have h := Nat.shiftLeft_add_eq_or_of_lt (a := x) (b := acc) (i := 7 * n) (by rw [hp]; exact ha)
    rw [Nat.shiftLeft_eq] at h
    rw [Nat.or_comm, ← h]; omega
  rw [bits_u64, e2, wu64]; omega
theorem zag_i {U : Nat} (h : U < 18446744073709551616) : bxor .i64 (IntKind.i64.wrap (shrI .u64 (U : Int) 1)) (IntKind.i64.wrap (0 - (IntKind.i64.wrap (band .u64 (U : Int) 1)))) = zag U := by
  rw [band_u1, shr1, fdiv_pos (by omega), wi64_id (n := (U : Int) / 2) (by omega) (by omega), wi64_id (n := (U : Int) % 2) (by omega) (by omega)]
  unfold zag
  by_cases h : U % 2 = 1
  · rw [if_pos h, show (U : Int) % 2 = 1 by omega, wi64_id (n := 0 - 1) (by omega) (by omega), show (0 - 1 : Int) = -1 from rfl, bxor_i1, wi64_id (by omega) (by omega)]
    omega
  · rw [if_neg h, show (U : Int) % 2 = 0 by omega, wi64_id (n := 0 - 0) (by omega) (by omega), show (0 - 0 : Int) = 0 from rfl, bxor_i0, wi64_id (by omega) (by omega)]
    omega
def outT : Option (Nat × Nat) → Sum Unit (Int × Int × Int)
  | none => .inl ()
  | some (u, k) => .inr (zag u, (k : Int), 0)
theorem byt_str (s : ByteArray) {i : Nat} (h : i < (strBytes s).length) : byt s (i : Int) = (strBytes s)[i] := by
  have h' : i < s.data.toList.length := by simpa [strBytes] using h
  simp only [byt, strBytes, List.getElem_map, Int.toNat_natCast]
  rw [List.getD_eq_getElem?_getD, List.getElem?_eq_getElem h']; rfl
theorem take_l (s : ByteArray) (hs : s.size ≤ 281474976710656) (a : Nat) (ha : a ≤ s.size) : ∀ (m n acc : Nat), n + m = 10 → acc < 128 ^ n →
    word_Take.l0 s (a : Int) (acc : Int) (n : Int) = some (outT (tcode ((strBytes s).drop (a + n)) n acc)) := by
  have hl : (strBytes s).length = s.size := strBytes_len s
  intro m
  induction m with
  | zero =>
    intro n acc hn hacc
    rw [word_Take.l0, if_neg (nt (decide_eq_false (by omega)))]
    cases (strBytes s).drop (a + n) with
    | nil => rfl
    | cons c r => simp only [tcode]; rw [if_pos (by omega)]; rfl
  | succ m ih =>
    intro n acc hn hacc
    have hidx : IntKind.i64.wrap ((a : Int) + (n : Int)) = ((a + n : Nat) : Int) := by rw [wi64_id (by omega) (by omega)]; omega
    rw [word_Take.l0, if_pos (decide_eq_true (by omega)), hidx]
    by_cases hi : a + n < s.size
    · have hi' : a + n < (strBytes s).length := by omega
      rw [if_pos (decide_eq_true (by omega)), if_pos (by omega), byt_str s hi', List.drop_eq_getElem_cons hi']
      obtain ⟨c0, c1⟩ := strBytes_byte s _ (List.getElem_mem hi')
      generalize (strBytes s)[a + n] = c at *
      simp only [tcode]
      rw [if_neg (show ¬ 10 ≤ n by omega)]
      by_cases h9 : n = 9 ∧ c > 1
      · rw [if_pos h9, if_pos (show ((n : Int) == 9) = true by simp; omega), if_pos (decide_eq_true h9.2)]; rfl
      · rw [if_neg h9]
        have e0 : ((if ((n : Int) == 9) = true then (if decide (c > 1) = true then some (.inr (.inl ())) else some (.inl ())) else some (.inl ())) : Option (Sum Unit (Sum Unit (Int × Int × Int)))) = some (.inl ()) := by
          by_cases h1 : n = 9
          · rw [if_pos (by simp; omega), if_neg (nt (decide_eq_false (fun h => h9 ⟨h1, h⟩)))]
          · rw [if_neg (by simp; omega)]
        have e7 : IntKind.i64.wrap (7 * (n : Int)) = ((7 * n : Nat) : Int) := by rw [wi64_id (by omega) (by omega)]; omega
        have ec : IntKind.u64.wrap (band .u8 c 127) = ((c % 128).toNat : Int) := by rw [band127 c0 c1, wu64_id (by omega) (by omega)]; omega
        have hp : 128 ^ (n + 1) = 128 ^ n * 128 := Nat.pow_succ ..
        have hx : (c % 128).toNat * 128 ^ n ≤ 127 * 128 ^ n := Nat.mul_le_mul_right _ (by omega)
        have hlt : acc + (c % 128).toNat * 128 ^ n < 128 ^ (n + 1) := by rw [hp, Nat.mul_comm (128 ^ n)]; omega
        have hsum : acc + (c % 128).toNat * 128 ^ n < 18446744073709551616 := by
          by_cases h1 : n = 9
          · subst h1
            rw [pow9] at *
            have : ¬ c > 1 := fun h => h9 ⟨rfl, h⟩
            have : (c % 128).toNat ≤ 1 := by omega
            have h2 : (c % 128).toNat * 9223372036854775808 ≤ 1 * 9223372036854775808 := Nat.mul_le_mul_right _ this
            omega
          · have := pow_le9 (n := n) (by omega)
            rw [hp] at hlt; omega
        rw [e0, e7, ec, bor_add hacc (by omega) (by omega) hsum]
        simp only [Option.bind_eq_bind, Option.bind_some]
        rw [if_pos (show (0 : Int) ≤ ((7 * n : Nat) : Int) by omega), w1 (by omega)]
        by_cases hc : c < 128
        · rw [if_pos (decide_eq_true hc), if_pos hc]
          by_cases hz : c = 0 ∧ 0 < n
          · rw [if_pos hz, if_pos (show (c == 0) = true by simp [hz.1]), if_pos (decide_eq_true (by omega))]; rfl
          · have e5 : ((if (c == 0) = true then (if decide ((n : Int) > 0) = true then some (.inr (.inl ())) else some (.inl ())) else some (.inl ())) : Option (Sum Unit (Sum Unit (Int × Int × Int)))) = some (.inl ()) := by
              by_cases h1 : c = 0
              · rw [if_pos (by simp [h1]), if_neg (nt (decide_eq_false (by omega)))]
              · rw [if_neg (by simpa using h1)]
            rw [if_neg hz, e5]
            simp only [Option.bind_some]
            rw [zag_i hsum]; rfl
        · rw [if_neg (nt (decide_eq_false hc)), if_neg hc]
          exact ih (n + 1) _ (by omega) hlt
    · rw [if_neg (nt (decide_eq_false (by omega))), List.drop_of_length_le (by omega)]; rfl
def outF : Option (Nat × Nat) → Int × Int × Int
  | none => (0, 0, 40)
  | some (u, k) => (zag u, (k : Int), 0)
theorem take_s (s : ByteArray) (hs : s.size ≤ 281474976710656) (a : Nat) : word_Take.f s (a : Int) = some (outF (tcode ((strBytes s).drop a) 0 0)) := by
  unfold word_Take.f
  rw [if_neg (nt (decide_eq_false (by omega)))]
  by_cases h : a ≥ s.size
  · rw [if_pos (decide_eq_true (by omega)), List.drop_of_length_le (by rw [strBytes_len]; exact h)]; rfl
  · rw [if_neg (nt (decide_eq_false (by omega)))]
    have := take_l s hs a (by omega) 10 0 0 (by omega) (by simp)
    rw [Nat.add_zero] at this
    rw [show ((0 : Int)) = ((0 : Nat) : Int) from rfl, this]
    cases tcode ((strBytes s).drop a) 0 0 with
    | none => rfl
    | some x => obtain ⟨u, k⟩ := x; rfl
end Go.Proofs.YtjbhgahbaeoinaaDoor.K
