/- Names found: by halves, or one by one. -/
import Derived.Test.YtcjaknnihjcajaaGreatGI
namespace Go.Proofs.YtcjaknnihjcajaaGreat.K
open Go Go.RowKit
instance memD (s : ByteArray) (l : List ByteArray) : Decidable (s ∈ l) := decidable_of_iff ((l.any fun x => decide (x = s)) = true) (by simp)
theorem gt_mem {l : List ByteArray} {j : Nat} (h : j < l.length) : gt l (j : Int) ∈ l := by rw [gt_nat h]; exact List.getElem_mem h
theorem slt_at {s : ByteArray} : ∀ {l : List ByteArray} {j : Nat}, StrictS l → j < l.length → (slt (gt l (j : Int)) s = true ↔ j < fi s l)
 | [], j, _, h => by simp at h
 | x :: l, 0, h, hj => by
  show slt x s = true ↔ 0 < (if slt x s = true then fi s l + 1 else 0)
  by_cases hh : slt x s = true
  ·rw [if_pos hh]; simp [hh]
  ·rw [if_neg hh]; simp [hh]
 | x :: l, j + 1, h, hj => by
  have h' := List.pairwise_cons.1 h
  have hj' : j < l.length := by simpa using hj
  have ih := slt_at (s := s) h'.2 hj'
  have e : gt (x :: l) ((j + 1 : Nat) : Int) = gt l (j : Int) := by rw [gt_nat hj, gt_nat hj']; rfl
  rw [e, ih];show _ ↔ j + 1 < (if slt x s = true then fi s l + 1 else 0)
  by_cases hh : slt x s = true
  ·rw [if_pos hh]; omega
  ·rw [if_neg hh];have h2 := h'.1 _ (gt_mem hj');constructor
   ·intro h3;exact absurd (slt_trans h2 (ih.2 h3)) hh
   ·intro h3; omega
theorem fi_of {s : ByteArray} {l : List ByteArray} (h : StrictS l) {i : Nat} (hi : i < l.length) (e : gt l (i : Int) = s) : fi s l = i := by
 have h1 : ¬ i < fi s l := fun hh => by
  have := (slt_at (s := s) h hi).2 hh;rw [e, slt_irrefl] at this; cases this
 by_cases h2 : fi s l < i
 ·exfalso
  have h3 : ¬ slt (gt l (fi s l : Int)) s = true := fun hh => by have := (slt_at (s := s) h (by omega)).1 hh; omega
  have h4 := List.pairwise_iff_getElem.1 h (fi s l) i (by omega) hi h2;rw [← gt_nat (show fi s l < l.length by omega), ← gt_nat hi, e] at h4;exact h3 h4
 ·omega
theorem fi_mem {s : ByteArray} {l : List ByteArray} (h : StrictS l) (hm : s ∈ l) : fi s l < l.length ∧ gt l (fi s l : Int) = s := by
 obtain ⟨i, hi, e⟩ := List.mem_iff_getElem.1 hm
 have e' : gt l (i : Int) = s := by rw [gt_nat hi]; exact e
 rw [fi_of h hi e']; exact ⟨hi, e'⟩
theorem less_p (x y : ByteArray) : cmp_Less_string.f x y = some (slt x y) := by
 unfold cmp_Less_string.f cmp_isNaN_string.f slt;rw [seq_p];simp only [decide_true, Bool.not_true, Bool.false_eq_true, if_false, Option.bind_eq_bind, Option.bind_some]
 cases Op.bytesLess x.toList y.toList <;> rfl
theorem mid_eq (lo hi : Nat) (h : lo + hi ≤ 9223372036854775807) : IntKind.i64.wrap (shrI .u64 (IntKind.u64.wrap (IntKind.i64.wrap ((lo : Int) + (hi : Int)))) 1) = (((lo + hi) / 2 : Nat) : Int) := by
 have e1 : IntKind.i64.wrap ((lo : Int) + (hi : Int)) = ((lo + hi : Nat) : Int) := by rw [wi64_id (by omega) (by omega)]; omega
 have e2 : IntKind.u64.wrap ((lo + hi : Nat) : Int) = ((lo + hi : Nat) : Int) := by
  simp only [IntKind.wrap, IntKind.bits, IntKind.signed]; simp; omega
 rw [e1, e2]
 have e3 : shrI .u64 ((lo + hi : Nat) : Int) 1 = (((lo + hi) / 2 : Nat) : Int) := by
  rw [shr1, Int.fdiv_eq_ediv_of_nonneg _ (by omega)]; omega
 rw [e3, wi64_id (by omega) (by omega)]
theorem bs_l (l : List ByteArray) (s : ByteArray) (h : StrictS l) (hl : l.length ≤ big) : ∀ (n lo hi : Nat), hi - lo ≤ n → lo ≤ fi s l → fi s l ≤ hi → hi ≤ l.length → slices_BinarySearch___string_string.l0 l s (lo : Int) (hi : Int) = some (fi s l : Int) := by
 unfold big at hl;intro n
 induction n with
 | zero =>
  intro lo hi h1 h2 h3 h4;rw [slices_BinarySearch___string_string.l0, if_neg (dF (by omega)), show fi s l = lo by omega]
 | succ n ih =>
  intro lo hi h1 h2 h3 h4;rw [slices_BinarySearch___string_string.l0]
  by_cases hc : lo < hi
  ·rw [if_pos (dT (by omega)), mid_eq lo hi (by omega), if_pos (by omega), less_p];simp only [Option.bind_eq_bind, Option.bind_some, id];have hm := slt_at (s := s) h (show (lo + hi) / 2 < l.length by omega)
   by_cases hq : slt (gt l (((lo + hi) / 2 : Nat) : Int)) s = true
   ·rw [if_pos hq, w1 (by omega)];exact ih _ _ (by omega) (by have := hm.1 hq; omega) h3 h4
   ·rw [if_neg hq];exact ih _ _ (by omega) h2 (by have := mt hm.2 hq; omega) (by omega)
  ·rw [if_neg (dF (by omega)), show fi s l = lo by omega]
theorem bs_p (l : List ByteArray) (s : ByteArray) (h : StrictS l) (hl : l.length ≤ big) : slices_BinarySearch___string_string.f l s = some ((fi s l : Int), decide (s ∈ l)) := by
 have e0 := bs_l l s h hl l.length 0 l.length (by omega) (by omega) (fi_le s l) (by omega);unfold slices_BinarySearch___string_string.f;rw [show slices_BinarySearch___string_string.l0 l s 0 (l.length : Int) = _ from e0];simp only [Option.bind_eq_bind, Option.bind_some]
 by_cases hf : fi s l < l.length
 ·rw [if_pos (dT (by omega)), if_pos (by omega), seq_p]
  by_cases hg : gt l (fi s l : Int) = s
  ·rw [if_pos (dT hg), dT (show s ∈ l by rw [← hg]; exact gt_mem hf)]
  ·have hn : decide (s ∈ l) = false := decide_eq_false fun hm => hg (fi_mem h hm).2;rw [if_neg (dF hg), if_pos (by omega), hn];unfold slices_isNaN_string.f;rw [seq_p];simp only [decide_true, Bool.not_true, Bool.false_eq_true, if_false, Option.bind_some]
 ·have hn : decide (s ∈ l) = false := decide_eq_false fun hm => hf (fi_mem h hm).1;rw [if_neg (dF (by omega)), hn]
theorem place_p (l : List ByteArray) (s : ByteArray) (h : StrictS l) (hl : l.length ≤ big) : prog_place.f l s = some (fi s l : Int) := by
 unfold prog_place.f;rw [bs_p l s h hl]; rfl
theorem num_d (l : List ByteArray) (s : ByteArray) (h : StrictS l) (hl : l.length ≤ big) : weirref09_number.f l s = some (if s ∈ l then (fi s l : Int) else -1) := by
 rcases number_s l s hl with ⟨i, hi, e, e2⟩ | ⟨e, e2⟩
 ·rw [e2, if_pos (by rw [← e]; exact gt_mem hi), fi_of h hi e]
 ·rw [e2, if_neg e]
def kno (a : api_Test) (r : api_Ref) : Bool := if r.Thread = -1 then decide (r.Name ∈ kl a) else if 0 ≤ r.Thread ∧ r.Thread < (a.Threads.length : Int) then decide (r.Name ∈ kr a r.Thread.toNat) else false
theorem kl_len (a : api_Test) (h : Tsz a) : (kl a).length ≤ 8796093022208 := by
 have h1 := sum_fm nmL nmL_len a.Threads; have h2 := ini_len a.Inits (-1); have h3 := h.sum; have h4 := h.ini;have := insSs_len (xs := ini a.Inits (-1) ++ a.Threads.flatMap (fun l => l.flatMap nmL)) (l := []);rw [List.length_append] at this;simp only [List.length_nil] at this;unfold kl; omega
theorem kr_len (a : api_Test) (h : Tsz a) (t : Nat) (ht : t < a.Threads.length) : (kr a t).length ≤ 8796093022208 := by
 have h1 := fm_len nmT_len (gt a.Threads (t : Int)); have h2 := ini_len a.Inits (t : Int); have h3 := h.ops t ht; have h4 := h.ini;have := insSs_len (xs := ini a.Inits (t : Int) ++ (gt a.Threads (t : Int)).flatMap nmT) (l := []);rw [List.length_append] at this;simp only [List.length_nil] at this;unfold kr; omega
theorem krs_len (a : api_Test) : (krs a).length = a.Threads.length := by unfold krs; simp
theorem krs_gt (a : api_Test) {t : Nat} (h : t < a.Threads.length) : gt (krs a) (t : Int) = kr a t := nmd_get h
theorem has_p (a : api_Test) (h : Tsz a) (r : api_Ref) : prog_known__has.f (kn a) r = some (kno a r) := by
 have hl := kl_len a h;unfold prog_known__has.f kno kn;simp only [krs_len]
 by_cases c1 : r.Thread = -1
 ·rw [if_neg (by simp [c1]), if_pos c1];simp only [Option.bind_eq_bind, Option.bind_some];rw [bs_p _ _ (kl_st a) (by unfold big; omega)]; rfl
 ·rw [if_pos (by simpa using c1), if_neg c1]
  by_cases c2 : r.Thread < 0
  ·rw [if_pos (dT c2), if_neg (by omega)]; rfl
  ·rw [if_neg (dF c2)]
   by_cases c3 : r.Thread ≥ (a.Threads.length : Int)
   ·rw [if_pos (dT c3), if_neg (by omega)]; rfl
   ·rw [if_neg (dF c3), if_pos (by omega), if_pos (by omega)];obtain ⟨t, ht⟩ : ∃ t : Nat, r.Thread = (t : Int) := ⟨r.Thread.toNat, by omega⟩
    have ht2 : t < a.Threads.length := by omega
    have hl2 := kr_len a h t ht2;rw [ht, krs_gt a ht2];simp only [Option.bind_eq_bind, Option.bind_some, Int.toNat_natCast];rw [bs_p _ _ (kr_st a t) (by unfold big; omega)]; rfl
theorem ge0 (l : List ByteArray) (s : ByteArray) : (if decide ((if s ∈ l then (fi s l : Int) else -1) ≥ 0) = true then some true else some false : Option Bool) = some (decide (s ∈ l)) := by
 by_cases h : s ∈ l
 ·rw [if_pos h, if_pos (dT (by omega)), dT h]
 ·rw [if_neg h, if_neg (dF (by omega)), decide_eq_false h]
theorem known_d (a : api_Test) (h : Tsz a) (r : api_Ref) : weirref09_known.f (krs a) (kl a) r = some (kno a r) := by
 have hl := kl_len a h;unfold weirref09_known.f kno;simp only [krs_len]
 by_cases c1 : r.Thread = -1
 ·rw [if_pos (by simp [c1]), if_pos c1, num_d _ _ (kl_st a) (by unfold big; omega)];simp only [Option.bind_eq_bind, Option.bind_some];exact ge0 _ _
 ·rw [if_neg (by simpa using c1), if_neg c1]
  by_cases c2 : r.Thread ≥ 0
  ·rw [if_pos (dT c2)]
   by_cases c3 : r.Thread < (a.Threads.length : Int)
   ·rw [if_pos (dT c3), if_pos (by omega), if_pos (by omega)];obtain ⟨t, ht⟩ : ∃ t : Nat, r.Thread = (t : Int) := ⟨r.Thread.toNat, by omega⟩
    have ht2 : t < a.Threads.length := by omega
    have hl2 := kr_len a h t ht2;rw [ht, krs_gt a ht2, num_d _ _ (kr_st a t) (by unfold big; omega)];simp only [Option.bind_eq_bind, Option.bind_some, Int.toNat_natCast];exact ge0 _ _
   ·rw [if_neg (dF c3), if_neg (by omega)]
  ·rw [if_neg (dF c2), if_neg (by omega)]
end Go.Proofs.YtcjaknnihjcajaaGreat.K
