/- The names that a test gives: both sides tell the same rows, each in strict order. -/
import Derived.Test.YtcjaknnihjcajaaGreatGF
namespace Go.Proofs.YtcjaknnihjcajaaGreat.K
open Go Go.RowKit
def KS (m : List (ByteArray × Int)) : List ByteArray := m.map (·.1)
theorem KS_mem {k : ByteArray} {v : Int} {z : ByteArray} : ∀ {m : List (ByteArray × Int)}, z ∈ KS (mput m k v) ↔ z ∈ KS m ∨ z = k
 | [] => by simp [KS, mput]
 | p :: r => by
  have ih := KS_mem (k := k) (v := v) (z := z) (m := r);unfold mput
  by_cases h : p.1 = k
  ·rw [if_pos h]; subst h;simp only [KS, List.map_cons, List.mem_cons];constructor
   ·rintro (h | h)
    ·exact .inl (.inl h)
    ·exact .inl (.inr h)
   ·rintro ((h | h) | h)
    ·exact .inl h
    ·exact .inr h
    ·exact .inl h
  ·rw [if_neg h];simp only [KS, List.map_cons, List.mem_cons] at ih ⊢;rw [ih, or_assoc]
theorem KS_nd {k : ByteArray} {v : Int} : ∀ {m : List (ByteArray × Int)}, (KS m).Nodup → (KS (mput m k v)).Nodup
 | [], _ => by simp [KS, mput]
 | p :: r, hn => by
  have h' := List.nodup_cons.1 (show (p.1 :: KS r).Nodup from hn);unfold mput
  by_cases h : p.1 = k
  ·rw [if_pos h]; subst h; exact hn
  ·rw [if_neg h];refine List.nodup_cons.2 ⟨fun hm => ?_, KS_nd h'.2⟩
   rcases KS_mem.1 hm with hm | hm
   ·exact h'.1 hm
   ·exact h hm
theorem mput_len {k : ByteArray} {v : Int} : ∀ {m : List (ByteArray × Int)}, (mput m k v).length ≤ m.length + 1
 | [] => by simp [mput]
 | p :: r => by
  have := mput_len (k := k) (v := v) (m := r);unfold mput
  by_cases h : p.1 = k
  ·rw [if_pos h]; simp
  ·rw [if_neg h]; simp; omega
def mputs (m : List (ByteArray × Int)) (l : List ByteArray) : List (ByteArray × Int) := l.foldl (fun m s => mput m s 1) m
theorem mputs_app (m : List (ByteArray × Int)) (a b : List ByteArray) : mputs m (a ++ b) = mputs (mputs m a) b := List.foldl_append ..
theorem mputs_mem {z : ByteArray} : ∀ {l : List ByteArray} {m : List (ByteArray × Int)}, z ∈ KS (mputs m l) ↔ z ∈ KS m ∨ z ∈ l
 | [], m => by simp [mputs]
 | s :: l, m => by
  show z ∈ KS (mputs (mput m s 1) l) ↔ _;rw [mputs_mem, KS_mem, List.mem_cons, or_assoc]
theorem mputs_nd : ∀ {l : List ByteArray} {m : List (ByteArray × Int)}, (KS m).Nodup → (KS (mputs m l)).Nodup
 | [], m, h => h
 | s :: l, m, h => by
  show (KS (mputs (mput m s 1) l)).Nodup;exact mputs_nd (KS_nd h)
theorem mputs_len : ∀ {l : List ByteArray} {m : List (ByteArray × Int)}, (mputs m l).length ≤ m.length + l.length
 | [], m => by simp [mputs]
 | s :: l, m => by
  have h1 := mputs_len (l := l) (m := mput m s 1);have h2 := mput_len (k := s) (v := 1) (m := m);show (mputs (mput m s 1) l).length ≤ _;simp only [List.length_cons]; omega
theorem rising_p {m : List (ByteArray × Int)} {l : List ByteArray} (hn : (KS m).Nodup) (hb : m.length * 16 ≤ 140737488355328) (hl : StrictS l) (hm : ∀ z, z ∈ l ↔ z ∈ KS m) : prog_rising.f m = some l := by
 unfold prog_rising.f prog_rising.l0;rw [show ∀ o : Option (List ByteArray), (o >>= fun e => some e) = o from fun o => by cases o <;> rfl];refine rngS_ind (M := fun L s => (s ++ KS L).Perm (KS m)) ?_ ?_ ?_
 ·intro s hs
  have hs' : s.Perm (KS m) := by simpa [KS] using hs
  have he := hs'.length_eq
  have hk : (KS m).length = m.length := by simp [KS]
  rw [if_pos (by omega)];unfold slices_Clip___string_string_1.f;simp only [Option.bind_eq_bind, Option.bind_some];rw [strictS_unique (strictS_sortS (hs'.nodup_iff.2 hn)) hl (fun z => by rw [mem_sortS, hs'.mem_iff, hm])]
 ·rintro L s i ⟨k, v⟩ hs hi;have hlt := (List.getElem?_eq_some_iff.1 hi).1;have hg := (List.getElem?_eq_some_iff.1 hi).2;have he := hs.length_eq
  have hk : (KS m).length = m.length := by simp [KS]
  have hk2 : (KS L).length = L.length := by simp [KS]
  rw [List.length_append] at he;refine ⟨s ++ [k], ?_, ?_⟩
  ·show (if _ then _ else _) = _;rw [if_pos (by simp only [List.length_cons, List.length_nil]; omega)]
  ·have h1 : (L[i] :: L.eraseIdx i).Perm L := by
    rw [List.eraseIdx_eq_take_drop_succ];refine (List.perm_middle (a := L[i]) (l₁ := L.take i) (l₂ := L.drop (i + 1))).symm.trans ?_;rw [List.getElem_cons_drop, List.take_append_drop]
   have h2 := h1.map (·.1);rw [hg] at h2;rw [List.append_assoc];exact (List.Perm.append_left s (by simpa [KS] using h2)).trans hs
 ·simp
def fi (s : ByteArray) : List ByteArray → Nat
 | [] => 0
 | x :: l => if slt x s = true then fi s l + 1 else 0
theorem fi_le (s : ByteArray) : ∀ l, fi s l ≤ l.length
 | [] => by simp [fi]
 | x :: l => by
  have := fi_le s l;unfold fi
  split
  ·simp; omega
  ·simp
theorem put_l (l : List ByteArray) (s : ByteArray) (hl : l.length ≤ big) : ∀ (n k : Nat), k + n = l.length → weirref09_put.l0 l s (k : Int) = some ((k + fi s (l.drop k) : Nat) : Int) := by
 unfold big at hl;intro n
 induction n with
 | zero =>
  intro k hk;rw [weirref09_put.l0, if_neg (dF (by omega)), List.drop_of_length_le (by omega)];simp [fi]
 | succ n ih =>
  intro k hk;have hd := drop_get (show k < l.length by omega);rw [weirref09_put.l0, if_pos (dT (by omega)), if_pos (by omega), hd];unfold fi
  by_cases h : slt (gt l (k : Int)) s = true
  ·rw [if_pos (show Op.bytesLess _ _ = true from h), if_pos h, w1 (by omega), ih (k + 1) (by omega)]
   congr 2; omega
  ·rw [if_neg (show ¬ Op.bytesLess _ _ = true from h), if_neg h];rfl
theorem insS_fi (s : ByteArray) : ∀ l, insS l s = if fi s l < l.length ∧ l[fi s l]? = some s then l else l.take (fi s l) ++ [s] ++ l.drop (fi s l)
 | [] => by simp [insS, fi]
 | x :: l => by
  have ih := insS_fi s l;unfold insS fi
  by_cases h : slt x s = true
  ·rw [if_pos h, if_pos h, ih]
   by_cases h2 : fi s l < l.length ∧ l[fi s l]? = some s
   ·rw [if_pos h2, if_pos ⟨by simp; omega, by simpa using h2.2⟩]
   ·rw [if_neg h2, if_neg (fun h3 => h2 ⟨by have := h3.1; simp at this; omega, by simpa using h3.2⟩)];simp
  ·rw [if_neg h, if_neg h]
   by_cases h2 : x = s
   ·rw [if_pos h2, if_pos ⟨by simp, by simp [h2]⟩]
   ·rw [if_neg h2, if_neg (fun h3 => h2 (by simpa using h3.2))]; simp
theorem put_d (l : List ByteArray) (s : ByteArray) (hb : (l.length + 1) * 16 ≤ 140737488355328) : weirref09_put.f l s = some (insS l s) := by
 have h0 := put_l l s (by unfold big; omega) l.length 0 (by omega);have hf := fi_le s l;rw [List.drop_zero, Nat.zero_add] at h0;have e := insS_fi s l;unfold weirref09_put.f;rw [show weirref09_put.l0 l s 0 = _ from h0];simp only [Option.bind_eq_bind, Option.bind_some]
 by_cases h : fi s l < l.length
 ·rw [if_pos (dT (by omega)), if_pos (by omega)]
  have hg : l[fi s l]? = some (gt l (fi s l : Int)) := by rw [gt_nat h, List.getElem?_eq_getElem h]
  rw [seq_p]
  by_cases h2 : gt l (fi s l : Int) = s
  ·rw [if_pos ⟨h, by rw [hg, h2]⟩] at e;rw [if_pos (dT h2), e]; rfl
  ·rw [if_neg (fun h3 => h2 (by rw [hg] at h3; exact Option.some.inj h3.2))] at e;rw [if_neg (dF h2), e];simp only [Option.bind_some, Int.toNat_natCast];rw [if_pos (by omega), if_pos (by simp; omega), if_pos (by simp; omega), if_pos (by omega), if_pos (by simp; omega)];simp [List.take_of_length_le]
 ·rw [if_neg (fun h3 => h h3.1)] at e;rw [if_neg (dF (by omega)), e];simp only [Option.bind_some, Int.toNat_natCast];rw [if_pos (by omega), if_pos (by simp; omega), if_pos (by simp; omega), if_pos (by omega), if_pos (by simp; omega)];simp [List.take_of_length_le]
theorem insS_len : ∀ {l : List ByteArray} {s : ByteArray}, (insS l s).length ≤ l.length + 1
 | [], s => by simp [insS]
 | x :: l, s => by
  have := insS_len (l := l) (s := s);unfold insS
  split
  ·simp; omega
  ·split
   ·simp
   ·simp
def insSs (l xs : List ByteArray) : List ByteArray := xs.foldl insS l
theorem insSs_app (l a b : List ByteArray) : insSs l (a ++ b) = insSs (insSs l a) b := List.foldl_append ..
theorem insSs_mem {z : ByteArray} : ∀ {xs l : List ByteArray}, z ∈ insSs l xs ↔ z ∈ l ∨ z ∈ xs
 | [], l => by simp [insSs]
 | s :: xs, l => by
  show z ∈ insSs (insS l s) xs ↔ _;rw [insSs_mem, mem_insS, List.mem_cons, or_assoc]
theorem insSs_st : ∀ {xs l : List ByteArray}, StrictS l → StrictS (insSs l xs)
 | [], l, h => h
 | s :: xs, l, h => by
  show StrictS (insSs (insS l s) xs);exact insSs_st (strictS_insS s h)
theorem insSs_len : ∀ {xs l : List ByteArray}, (insSs l xs).length ≤ l.length + xs.length
 | [], l => by simp [insSs]
 | s :: xs, l => by
  have h1 := insSs_len (xs := xs) (l := insS l s);have h2 := insS_len (l := l) (s := s);show (insSs (insS l s) xs).length ≤ _;simp only [List.length_cons]; omega
end Go.Proofs.YtcjaknnihjcajaaGreat.K
