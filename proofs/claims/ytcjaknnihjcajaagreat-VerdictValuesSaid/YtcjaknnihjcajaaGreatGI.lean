/- weirref09.named, whole. -/
import Derived.Test.YtcjaknnihjcajaaGreatGH
namespace Go.Proofs.YtcjaknnihjcajaaGreat.K
open Go Go.RowKit
theorem nd_l1 (a : api_Test) (h : Tsz a) : ∀ (n k : Nat) (ls : List ByteArray) (g : Nat → List ByteArray), k + n = a.Threads.length →
  ls.length + ((a.Threads.drop k).map (·.length)).sum ≤ 8796093022208 → (∀ i, k ≤ i → (g i).length ≤ 64) →
  weirref09_named.l1 a ls (k : Int) ((List.range a.Threads.length).map g) = some (insSs ls ((a.Threads.drop k).flatMap fun l => l.flatMap nmL), (List.range a.Threads.length).map fun i => if k ≤ i then insSs (g i) ((gt a.Threads (i : Int)).flatMap nmT) else g i) := by
 have h4 := h.th;intro n
 induction n with
 | zero =>
  intro k ls g hk h1 h2;rw [weirref09_named.l1, if_neg (dF (by omega)), List.drop_of_length_le (by omega)];rw [show (List.range a.Threads.length).map g = (List.range a.Threads.length).map fun i => if k ≤ i then insSs (g i) ((gt a.Threads (i : Int)).flatMap nmT) else g i from nmd_congr fun i hi => by rw [if_neg (by omega)]];rfl
 | succ n ih =>
  intro k ls g hk h1 h2;have ho := h.ops k (by omega);have hd := drop_get (show k < a.Threads.length by omega);rw [hd, List.map_cons, List.sum_cons] at h1;have e2 := nd_l2 a k (by omega) ho (gt a.Threads (k : Int)).length 0 ls g (by omega) (by omega) (by have := h2 k (Nat.le_refl _); omega);rw [List.drop_zero] at e2;rw [weirref09_named.l1, if_pos (dT (by omega)), show weirref09_named.l2 a (k : Int) ls 0 _ = _ from e2];simp only [Option.bind_eq_bind, Option.bind_some];have hl := insSs_len (xs := (gt a.Threads (k : Int)).flatMap nmL) (l := ls);have hl2 := fm_len nmL_len (gt a.Threads (k : Int));rw [w1 (by omega), ih (k + 1) _ _ (by omega) (by omega) (fun i hi => by rw [if_neg (by omega)]; exact h2 i (by omega)), hd, List.flatMap_cons, insSs_app]
  congr 2
  apply nmd_congr;intro i hi
  by_cases e : i = k
  ·subst e; rw [if_neg (by omega), if_pos rfl, if_pos (Nat.le_refl _)]
  ·by_cases e2 : k ≤ i
   ·rw [if_pos (by omega), if_neg e, if_pos e2]
   ·rw [if_neg (by omega), if_neg e, if_neg e2]
theorem ini_cons (x : api_Init) (l : List api_Init) (t : Int) : ini (x :: l) t = if x.Ref.Thread = t then x.Ref.Name :: ini l t else ini l t := by
 unfold ini;rw [List.filter_cons]
 by_cases h : x.Ref.Thread = t
 ·rw [if_pos h, if_pos (by simpa using h)]; rfl
 ·rw [if_neg h, if_neg (by simpa using h)]
theorem nd_l0 (a : api_Test) (h : a.Inits.length ≤ 64) : ∀ (n k : Nat) (ls : List ByteArray) (g : Nat → List ByteArray), k + n = a.Inits.length →
  ls.length + n ≤ 64 → (∀ i, (g i).length + n ≤ 64) →
  weirref09_named.l0 a ls (k : Int) ((List.range a.Threads.length).map g) = some (insSs ls (ini (a.Inits.drop k) (-1)), (List.range a.Threads.length).map fun i => insSs (g i) (ini (a.Inits.drop k) (i : Int))) := by
 intro n
 induction n with
 | zero =>
  intro k ls g hk h1 h2;rw [weirref09_named.l0, if_neg (dF (by omega)), List.drop_of_length_le (by omega)]; rfl
 | succ n ih =>
  intro k ls g hk h1 h2;rw [drop_get (show k < a.Inits.length by omega), weirref09_named.l0, if_pos (dT (by omega)), if_pos (by omega)];generalize gt a.Inits (k : Int) = x
  have hlen : (((List.range a.Threads.length).map g).length : Int) = (a.Threads.length : Int) := by simp
  rw [ini_cons]
  by_cases c1 : x.Ref.Thread = -1
  ·rw [if_pos (by simpa using c1), if_pos c1, put_d _ _ (by omega)];simp only [Option.bind_eq_bind, Option.bind_some, id];rw [w1 (by omega), ih (k + 1) _ g (by omega) (by have := insS_len (l := ls) (s := x.Ref.Name); omega) (fun i => by have := h2 i; omega)]
   congr 2
   apply nmd_congr;intro i hi;rw [ini_cons, if_neg (by omega)]
  ·rw [if_neg (by simpa using c1), if_neg c1, hlen]
   have hskip : (∀ i : Nat, i < a.Threads.length → x.Ref.Thread ≠ (i : Int)) → weirref09_named.l0 a (id ls) (IntKind.i64.wrap ((k : Int) + 1)) (id ((List.range a.Threads.length).map g)) = some (insSs ls (ini (a.Inits.drop (k + 1)) (-1)), (List.range a.Threads.length).map fun i => insSs (g i) (ini (x :: a.Inits.drop (k + 1)) (i : Int))) := by
    intro hx;simp only [id];rw [w1 (by omega), ih (k + 1) _ g (by omega) (by omega) (fun i => by have := h2 i; omega)]
    congr 2
    apply nmd_congr;intro i hi;rw [ini_cons, if_neg (hx i hi)]
   by_cases c2 : x.Ref.Thread ≥ 0
   ·rw [if_pos (dT c2)]
    by_cases c3 : x.Ref.Thread < (a.Threads.length : Int)
    ·rw [if_pos (dT c3), if_pos ⟨c2, c3⟩];obtain ⟨t, ht⟩ : ∃ t : Nat, x.Ref.Thread = (t : Int) := ⟨x.Ref.Thread.toNat, by omega⟩;rw [ht]
     have ht2 : t < a.Threads.length := by omega
     rw [nmd_get ht2, put_d _ _ (by have := h2 t; omega)];simp only [Option.bind_eq_bind, Option.bind_some, id];rw [nmd_set ht2, w1 (by omega), ih (k + 1) _ _ (by omega) (by omega) (fun i => by
      have h3 := h2 i; have h4 := h2 t; have := insS_len (l := g t) (s := x.Ref.Name)
      split <;> omega)]
     congr 2
     apply nmd_congr;intro i hi;rw [ini_cons, ht]
     by_cases e : i = t
     ·subst e; rw [if_pos rfl, if_pos rfl]; rfl
     ·rw [if_neg e, if_neg (by omega)]
    ·rw [if_neg (dF c3)]; exact hskip (fun i hi => by omega)
   ·rw [if_neg (dF c2)]; exact hskip (fun i hi => by omega)
theorem named_d (a : api_Test) (h : Tsz a) : weirref09_named.f a = some (krs a, kl a) := by
 have h4 := h.th;have hi := h.ini;have hs := h.sum;unfold weirref09_named.f;rw [if_pos (by omega)];have e0 := nd_l0 a hi a.Inits.length 0 [] (fun _ => []) (by omega) (by simpa using hi) (fun i => by simpa using hi);rw [List.drop_zero] at e0
 have hr : List.replicate (a.Threads.length : Int).toNat ([] : List ByteArray) = (List.range a.Threads.length).map (fun _ => []) := by
  simp [List.map_const']
 rw [hr, show weirref09_named.l0 a [] 0 _ = _ from e0];simp only [Option.bind_eq_bind, Option.bind_some]
 have hL : ∀ t, (insSs [] (ini a.Inits t)).length ≤ 64 := fun t => by
  have h1 := insSs_len (xs := ini a.Inits t) (l := []); have h2 := ini_len a.Inits t;simp only [List.length_nil] at h1; omega
 have e1 := nd_l1 a h a.Threads.length 0 (insSs [] (ini a.Inits (-1))) (fun i => insSs [] (ini a.Inits (i : Int))) (by omega) (by rw [List.drop_zero]; have := hL (-1); omega) (fun i _ => hL _);rw [List.drop_zero] at e1;rw [show weirref09_named.l1 a _ 0 _ = _ from e1];simp only [Option.bind_some];unfold krs kl kr;rw [insSs_app]
 congr 2
 apply nmd_congr;intro i hi;rw [if_pos (Nat.zero_le _), insSs_app]
end Go.Proofs.YtcjaknnihjcajaaGreat.K
