/- Texts in strict order: unique by their members; sorting, putting one in. -/
import Derived.Test.YtcjaknnihjcajaaGreatNT
namespace Go.Proofs.YtcjaknnihjcajaaGreat.K
open Go Go.RowKit
def slt (x y : ByteArray) : Bool := Op.bytesLess x.toList y.toList
theorem ba_toList (x : ByteArray) : x.toList = x.data.toList := by
 exact ByteArray.toList_eq x
theorem slt_eq (x y : ByteArray) : slt x y = decide (x.data.toList < y.data.toList) := by
 unfold slt;rw [ba_toList, ba_toList, Go.Proofs.bytesLess_eq]
theorem slt_iff {x y : ByteArray} : slt x y = true ↔ x.data.toList < y.data.toList := by rw [slt_eq]; simp
theorem slt_irrefl (x : ByteArray) : slt x x = false := by rw [slt_eq]; simp
theorem slt_trans {x y z : ByteArray} (h1 : slt x y = true) (h2 : slt y z = true) : slt x z = true := by
 rw [slt_iff] at *; exact List.lt_trans h1 h2
theorem ba_data_inj {x y : ByteArray} (h : x.data.toList = y.data.toList) : x = y := by
 cases x with | mk a => cases y with | mk b => congr 1; exact Array.toList_inj.1 h
theorem slt_total {x y : ByteArray} (h1 : slt x y = false) (h2 : slt y x = false) : x = y := by
 rw [slt_eq, decide_eq_false_iff_not] at h1 h2;exact ba_data_inj (List.le_antisymm (List.not_lt.1 h2) (List.not_lt.1 h1))
theorem slt_asymm {x y : ByteArray} (h : slt x y = true) : slt y x = false := by
 cases h2 : slt y x with
 | false => rfl
 | true => have := slt_trans h h2; rw [slt_irrefl] at this; cases this
def StrictS (l : List ByteArray) : Prop := l.Pairwise (fun a b => slt a b = true)
theorem strictS_unique : ∀ {a b : List ByteArray}, StrictS a → StrictS b → (∀ z, z ∈ a ↔ z ∈ b) → a = b
 | [], [], _, _, _ => rfl
 | [], y :: b, _, _, h => by have := (h y).2 (List.mem_cons_self ..); simp at this
 | x :: a, [], _, _, h => by have := (h x).1 (List.mem_cons_self ..); simp at this
 | x :: a, y :: b, ha, hb, h => by
  have ha' := List.pairwise_cons.1 ha;have hb' := List.pairwise_cons.1 hb
  have e : x = y := by
   rcases List.mem_cons.1 ((h x).1 (List.mem_cons_self ..)) with e | e
   ·exact e
   ·rcases List.mem_cons.1 ((h y).2 (List.mem_cons_self ..)) with e2 | e2
    ·exact e2.symm
    ·have h1 := hb'.1 x e;have h2 := ha'.1 y e2;rw [slt_asymm h1] at h2; cases h2
  subst e
  congr 1
  refine strictS_unique ha'.2 hb'.2 fun z => ⟨fun hz => ?_, fun hz => ?_⟩
  ·rcases List.mem_cons.1 ((h z).1 (List.mem_cons_of_mem _ hz)) with e | e
   ·subst e; have := ha'.1 z hz; rw [slt_irrefl] at this; cases this
   ·exact e
  ·rcases List.mem_cons.1 ((h z).2 (List.mem_cons_of_mem _ hz)) with e | e
   ·subst e; have := hb'.1 z hz; rw [slt_irrefl] at this; cases this
   ·exact e
theorem leS_eq (x y : ByteArray) : leS x y = !slt y x := by
 unfold leS;rw [slt_eq, ← decide_not];exact decide_eq_decide.2 (List.not_lt (α := UInt8)).symm
theorem mem_sortS {l : List ByteArray} {z : ByteArray} : z ∈ sortS l ↔ z ∈ l := (List.mergeSort_perm l leS).mem_iff
theorem strictS_sortS {l : List ByteArray} (h : l.Nodup) : StrictS (sortS l) := by
 have h1 : (sortS l).Pairwise (fun a b => leS a b = true) := List.pairwise_mergeSort (le := leS)
  (fun a b c h1 h2 => by
   rw [leS_eq, Bool.not_eq_true'] at *
   cases hc : slt c a with
   | false => rfl
   | true =>
    cases hb : slt b c with
    | true => have := slt_trans hb hc; rw [h1] at this; cases this
    | false => have := slt_total h2 hb; subst this; rw [hc] at h1; cases h1)
  (fun a b => by
   rw [leS_eq, leS_eq]
   cases hc : slt b a with
   | false => rfl
   | true => rw [slt_asymm hc]; rfl) l
 have h2 : (sortS l).Nodup := (List.mergeSort_perm l leS).nodup_iff.2 h;refine (h1.and h2).imp ?_;rintro a b ⟨h1, h2⟩;rw [leS_eq, Bool.not_eq_true'] at h1
 cases hc : slt a b with
 | true => rfl
 | false => exact absurd (slt_total hc h1) h2
def insS : List ByteArray → ByteArray → List ByteArray
 | [], s => [s]
 | x :: l, s => if slt x s = true then x :: insS l s else if x = s then x :: l else s :: x :: l
theorem mem_insS : ∀ {l : List ByteArray} {s z : ByteArray}, z ∈ insS l s ↔ z ∈ l ∨ z = s
 | [], s, z => by simp [insS]
 | x :: l, s, z => by
  unfold insS
  by_cases h : slt x s = true
  ·rw [if_pos h, List.mem_cons, mem_insS, List.mem_cons, or_assoc]
  ·rw [if_neg h]
   by_cases h2 : x = s
   ·rw [if_pos h2, List.mem_cons]; subst h2;constructor
    ·rintro (h | h)
     ·exact .inl (.inl h)
     ·exact .inl (.inr h)
    ·rintro ((h | h) | h)
     ·exact .inl h
     ·exact .inr h
     ·exact .inl h
   ·rw [if_neg h2]; simp only [List.mem_cons];constructor
    ·rintro (h | h | h)
     ·exact .inr h
     ·exact .inl (.inl h)
     ·exact .inl (.inr h)
    ·rintro ((h | h) | h)
     ·exact .inr (.inl h)
     ·exact .inr (.inr h)
     ·exact .inl h
theorem strictS_insS : ∀ {l : List ByteArray} (s : ByteArray), StrictS l → StrictS (insS l s)
 | [], s, h => by unfold insS; exact List.pairwise_singleton ..
 | x :: l, s, h => by
  have h' := List.pairwise_cons.1 h;unfold insS
  by_cases h1 : slt x s = true
  ·rw [if_pos h1];refine List.pairwise_cons.2 ⟨fun z hz => ?_, strictS_insS s h'.2⟩
   rcases mem_insS.1 hz with hz | rfl
   ·exact h'.1 z hz
   ·exact h1
  ·rw [if_neg h1]
   by_cases h2 : x = s
   ·rw [if_pos h2]; exact h
   ·rw [if_neg h2]
    have h3 : slt s x = true := by
     cases h4 : slt s x with
     | true => rfl
     | false => exact absurd (slt_total (by simpa using h1) h4) h2
    refine List.pairwise_cons.2 ⟨fun z hz => ?_, h⟩
    rcases List.mem_cons.1 hz with rfl | hz
    ·exact h3
    ·exact slt_trans h3 (h'.1 z hz)
end Go.Proofs.YtcjaknnihjcajaaGreat.K
