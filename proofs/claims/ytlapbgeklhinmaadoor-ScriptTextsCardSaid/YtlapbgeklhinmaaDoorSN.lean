/- Numerals of numbers: the document's against the library's. -/
import Derived.Test.YtlapbgeklhinmaaDoorSC
set_option linter.unusedVariables false
set_option linter.unusedSimpArgs false
set_option maxRecDepth 100000
namespace Go.Proofs.YtlapbgeklhinmaaDoor.K
open Go

abbrev hexs : ByteArray := ⟨#[48, 49, 50, 51, 52, 53, 54, 55, 56, 57, 97, 98, 99, 100, 101, 102]⟩
theorem dig1 : ∀ d, d < 10 → hexs.extract d (d + 1) = ⟨#[UInt8.ofNat (48 + d)]⟩ := by decide
theorem dig {d : Nat} (h : d < 10) : hexs.extract ((d : Int)).toNat (IntKind.u64.wrap ((d : Int) + 1)).toNat = ⟨#[UInt8.ofNat (48 + d)]⟩ := by
  rw [wu64_id (by omega) (by omega), Int.toNat_natCast, show ((d : Int) + 1).toNat = d + 1 by omega, dig1 d h]
theorem dig_g {d : Nat} (h : d < 10) : 0 ≤ (d : Int) ∧ (d : Int) ≤ IntKind.u64.wrap ((d : Int) + 1) ∧ IntKind.u64.wrap ((d : Int) + 1) ≤ (hexs.size : Int) := by
  rw [wu64_id (by omega) (by omega), show hexs.size = 16 from rfl]; omega
theorem mk_cat (a b : List UInt8) : (⟨a.toArray⟩ : ByteArray) ++ ⟨b.toArray⟩ = ⟨(a ++ b).toArray⟩ := by
  apply ByteArray.ext; simp [ByteArray.data_append]
theorem mk_size (a : List UInt8) : (⟨a.toArray⟩ : ByteArray).size = a.length := by simp [ByteArray.size]
theorem in_l : ∀ (k u : Nat) (acc : ByteArray), u < 10 ^ (k + 1) → u < 18446744073709551616 → acc.size + k ≤ 1000 →
    ∃ (h : Nat) (l : List UInt8), h < 10 ∧ Lib.decDigits u = UInt8.ofNat (48 + h) :: l ∧ weirref04_in.l0 10 (u : Int) acc = some ((h : Int), (⟨l.toArray⟩ : ByteArray) ++ acc) := by
  intro k
  induction k with
  | zero =>
    intro u acc h _ _
    have h1 : u < 10 := by simpa using h
    refine ⟨u, [], h1, by rw [Lib.decDigits, dif_pos h1], ?_⟩
    rw [weirref04_in.l0, if_neg (nt (decide_eq_false (by omega)))]
    rw [show (⟨([] : List UInt8).toArray⟩ : ByteArray) = ByteArray.empty from rfl, ByteArray.empty_append]
  | succ k ih =>
    intro u acc h hu ha
    by_cases h1 : u < 10
    · refine ⟨u, [], h1, by rw [Lib.decDigits, dif_pos h1], ?_⟩
      rw [weirref04_in.l0, if_neg (nt (decide_eq_false (by omega)))]
      rw [show (⟨([] : List UInt8).toArray⟩ : ByteArray) = ByteArray.empty from rfl, ByteArray.empty_append]
    · have hm : (u : Int).tmod 10 = ((u % 10 : Nat) : Int) := rfl
      have hd : IntKind.u64.wrap ((u : Int).tdiv 10) = ((u / 10 : Nat) : Int) := by
        rw [show (u : Int).tdiv 10 = ((u / 10 : Nat) : Int) from rfl, wu64_id (by omega) (by omega)]
      have hz : ((⟨#[UInt8.ofNat (48 + u % 10)]⟩ : ByteArray) ++ acc).size = 1 + acc.size := by rw [ByteArray.size_append]; rfl
      obtain ⟨q, l, q1, q2, q3⟩ := ih (u / 10) ((⟨#[UInt8.ofNat (48 + u % 10)]⟩ : ByteArray) ++ acc) (by rw [Nat.pow_succ] at h; omega) (by omega) (by omega)
      refine ⟨q, l ++ [UInt8.ofNat (48 + u % 10)], q1, ?_, ?_⟩
      · rw [Lib.decDigits, dif_neg h1, q2, List.cons_append]
      · rw [weirref04_in.l0, if_pos (decide_eq_true (by omega)), if_pos (by decide), if_pos (by decide), hm, if_pos (dig_g (Nat.mod_lt _ (by decide))), dig (Nat.mod_lt _ (by decide)), if_pos (by rw [← ByteArray.size_append, hz]; omega), if_pos (by decide), hd, q3, ← ByteArray.append_assoc]
        exact congrArg (fun x => some ((q : Int), x ++ acc)) (mk_cat l [UInt8.ofNat (48 + u % 10)])
theorem in10 (u : Nat) (hu : u < 18446744073709551616) : weirref04_in.f (u : Int) 10 = some ⟨(Lib.decDigits u).toArray⟩ := by
  unfold weirref04_in.f
  obtain ⟨h, l, h1, h2, h3⟩ := in_l 19 u ⟨#[]⟩ (by omega) hu (by decide)
  have hl : l.length ≤ 19 := by have := dec_len 19 u (by omega); rw [h2, List.length_cons] at this; omega
  rw [h3, show (⟨#[]⟩ : ByteArray) = ByteArray.empty from rfl, ByteArray.append_empty]
  simp only [Option.bind_eq_bind, Option.bind_some]
  rw [if_pos (dig_g h1), dig h1, if_pos (by rw [show (⟨#[UInt8.ofNat (48 + h)]⟩ : ByteArray).size = 1 from rfl, mk_size]; omega), h2]
  rw [show (⟨#[UInt8.ofNat (48 + h)]⟩ : ByteArray) = ⟨([UInt8.ofNat (48 + h)] : List UInt8).toArray⟩ from rfl, mk_cat]; rfl
theorem itoa_size {v : Int} (h : -9223372036854775808 ≤ v ∧ v ≤ 9223372036854775807) : (itoaB v).size ≤ 20 := by
  unfold itoaB Lib.itoa
  rw [mk_size]
  split
  · have := dec_len 18 v.natAbs (by omega)
    rw [List.length_cons]; omega
  · have := dec_len 18 v.toNat (by omega)
    omega
theorem text_d {v : Int} (h : -9223372036854775808 ≤ v ∧ v ≤ 9223372036854775807) : weirref04_Text.f v = some (itoaB v) := by
  unfold weirref04_Text.f itoaB Lib.itoa
  by_cases h0 : v < 0
  · have e1 : IntKind.u64.wrap (0 - IntKind.u64.wrap v) = ((v.natAbs : Nat) : Int) := by rw [wu64, wu64]; omega
    have hl := dec_len 18 v.natAbs (by omega)
    rw [if_pos (decide_eq_true h0), if_pos h0, e1, in10 _ (by omega)]
    simp only [Option.bind_eq_bind, Option.bind_some]
    rw [if_pos (by rw [show (⟨#[45]⟩ : ByteArray).size = 1 from rfl, mk_size]; omega)]
    rw [show (⟨#[45]⟩ : ByteArray) = ⟨([45] : List UInt8).toArray⟩ from rfl, mk_cat]; rfl
  · have e1 : IntKind.u64.wrap v = ((v.toNat : Nat) : Int) := by rw [wu64]; omega
    rw [if_neg (nt (decide_eq_false h0)), if_neg h0, e1, in10 _ (by omega)]; rfl
theorem format_p {v : Int} (h : -9223372036854775808 ≤ v ∧ v ≤ 9223372036854775807) : strconv_FormatInt.f v 10 = some (itoaB v) := if_pos ⟨rfl, h⟩
theorem sz (s t : ByteArray) : (s ++ t).size = s.size + t.size := ByteArray.size_append
end Go.Proofs.YtlapbgeklhinmaaDoor.K
