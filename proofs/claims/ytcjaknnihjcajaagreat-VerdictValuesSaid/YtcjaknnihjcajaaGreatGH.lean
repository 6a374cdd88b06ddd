/- The names of a test: prog.names and weirref09.named tell the same. -/
import Derived.Test.YtcjaknnihjcajaaGreatGG
namespace Go.Proofs.YtcjaknnihjcajaaGreat.K
open Go Go.RowKit
def evU (u : prog_uses) (x : api_Instr) : List ByteArray := (if u.reg = true then [x.Reg] else []) ++ ((if u.src = true then [x.Src] else []) ++ (if (x.Op == 8) = true then [(⟨#[69,65,88]⟩ : ByteArray)] else []))
def nmT (x : api_Instr) : List ByteArray := evU (kd x.Op).1 x
def nmL (x : api_Instr) : List ByteArray := if (kd x.Op).1.loc = true then [x.Loc] else []
def ini (l : List api_Init) (t : Int) : List ByteArray := (l.filter fun i => i.Ref.Thread == t).map fun i => i.Ref.Name
structure Tsz (a : api_Test) : Prop where
 th : a.Threads.length ≤ 4
 ops : ∀ t, t < a.Threads.length → (gt a.Threads (t : Int)).length ≤ 2199023255488
 sum : (a.Threads.map (·.length)).sum ≤ 8796093022144
 ini : a.Inits.length ≤ 64
theorem nmT_len (x : api_Instr) : (nmT x).length ≤ 3 := by
 unfold nmT evU;rw [List.length_append, List.length_append]
 have h : ∀ (c : Bool) (s : ByteArray), (if c = true then [s] else []).length ≤ 1 := by intro c s; cases c <;> simp
 have h1 := h (kd x.Op).1.reg x.Reg; have h2 := h (kd x.Op).1.src x.Src; have h3 := h (x.Op == 8) ⟨#[69,65,88]⟩;omega
theorem nmL_len (x : api_Instr) : (nmL x).length ≤ 1 := by
 unfold nmL; split <;> simp
theorem fm_len {f : api_Instr → List ByteArray} {c : Nat} (h : ∀ x, (f x).length ≤ c) : ∀ l : List api_Instr, (l.flatMap f).length ≤ c * l.length
 | [] => by simp
 | x :: l => by
  have h1 := fm_len h l; have h2 := h x;rw [List.flatMap_cons, List.length_append, List.length_cons, Nat.mul_add]; omega
theorem ini_len (l : List api_Init) (t : Int) : (ini l t).length ≤ l.length := by
 unfold ini; rw [List.length_map]; exact List.length_filter_le ..
def kr (a : api_Test) (t : Nat) : List ByteArray := insSs [] (ini a.Inits (t : Int) ++ (gt a.Threads (t : Int)).flatMap nmT)
def kl (a : api_Test) : List ByteArray := insSs [] (ini a.Inits (-1) ++ a.Threads.flatMap (fun l => l.flatMap nmL))
def krs (a : api_Test) : List (List ByteArray) := (List.range a.Threads.length).map (kr a)
def kn (a : api_Test) : prog_known := ⟨krs a, kl a⟩
theorem kr_st (a : api_Test) (t : Nat) : StrictS (kr a t) := insSs_st List.Pairwise.nil
theorem kl_st (a : api_Test) : StrictS (kl a) := insSs_st List.Pairwise.nil
theorem itp (c : Bool) (m : List (ByteArray × Int)) (s : ByteArray) : (if c = true then some (mput m s 1) else some m : Option (List (ByteArray × Int))) = some (mputs m (if c = true then [s] else [])) := by cases c <;> rfl
theorem pn_l2 (a : api_Test) (t : Nat) (hl : (gt a.Threads (t : Int)).length ≤ big) : ∀ (n k : Nat) (m1 m2 : List (ByteArray × Int)), k + n = (gt a.Threads (t : Int)).length →
  prog_names.l2 a (t : Int) (k : Int) m1 m2 = some (mputs m1 (((gt a.Threads (t : Int)).drop k).flatMap nmL), mputs m2 (((gt a.Threads (t : Int)).drop k).flatMap nmT)) := by
 unfold big at hl;intro n
 induction n with
 | zero =>
  intro k m1 m2 hk;rw [prog_names.l2, if_neg (dF (by omega)), List.drop_of_length_le (by omega)]; rfl
 | succ n ih =>
  intro k m1 m2 hk;rw [drop_get (show k < (gt a.Threads (t : Int)).length by omega)];generalize hx : gt (gt a.Threads (t : Int)) (k : Int) = x;have e1 : nmT x = evU (kd x.Op).1 x := rfl
  have e2 : nmL x = if (kd x.Op).1.loc = true then [x.Loc] else [] := rfl
  rw [prog_names.l2, if_pos (dT (by omega)), if_pos (by omega), hx, kind_p, List.flatMap_cons, List.flatMap_cons, e1, e2];generalize kd x.Op = q;obtain ⟨u, b⟩ := q;simp only [Option.bind_eq_bind, Option.bind_some, itp];rw [w1 (by omega), ih (k + 1) _ _ (by omega), ih (k + 1) _ _ (by omega)];unfold evU;rw [mputs_app, mputs_app, mputs_app, mputs_app]
  cases u.loc <;> rfl
theorem pn_l3 (a : api_Test) (t : Int) (hl : a.Inits.length ≤ big) : ∀ (n k : Nat) (m : List (ByteArray × Int)), k + n = a.Inits.length →
  prog_names.l3 a t (k : Int) m = some (mputs m (ini (a.Inits.drop k) t)) := by
 unfold big at hl;intro n
 induction n with
 | zero =>
  intro k m hk;rw [prog_names.l3, if_neg (dF (by omega)), List.drop_of_length_le (by omega)]; rfl
 | succ n ih =>
  intro k m hk;rw [drop_get (show k < a.Inits.length by omega), prog_names.l3, if_pos (dT (by omega)), if_pos (by omega), w1 (by omega), ih (k + 1) _ (by omega), ih (k + 1) _ (by omega)];unfold ini;rw [List.filter_cons]
  cases ((gt a.Inits (k : Int)).Ref.Thread == t) <;> rfl
theorem pn_l1 (a : api_Test) (hl : a.Inits.length ≤ big) : ∀ (n k : Nat) (m : List (ByteArray × Int)), k + n = a.Inits.length →
  prog_names.l1 a (k : Int) m = some (mputs m (ini (a.Inits.drop k) (-1))) := by
 unfold big at hl;intro n
 induction n with
 | zero =>
  intro k m hk;rw [prog_names.l1, if_neg (dF (by omega)), List.drop_of_length_le (by omega)]; rfl
 | succ n ih =>
  intro k m hk;rw [drop_get (show k < a.Inits.length by omega), prog_names.l1, if_pos (dT (by omega)), if_pos (by omega), w1 (by omega), ih (k + 1) _ (by omega), ih (k + 1) _ (by omega)];unfold ini;rw [List.filter_cons]
  cases ((gt a.Inits (k : Int)).Ref.Thread == (-1)) <;> rfl
theorem pn_l0 (a : api_Test) (h : Tsz a) : ∀ (n k : Nat) (m : List (ByteArray × Int)) (rs : List (List ByteArray)), k + n = a.Threads.length → rs = (List.range k).map (kr a) →
  prog_names.l0 a (k : Int) m rs = some (mputs m ((a.Threads.drop k).flatMap fun l => l.flatMap nmL), krs a) := by
 have h4 := h.th;have hi := h.ini;intro n
 induction n with
 | zero =>
  intro k m rs hk hr;rw [prog_names.l0, if_neg (dF (by omega)), List.drop_of_length_le (by omega), hr, show k = a.Threads.length by omega]; rfl
 | succ n ih =>
  intro k m rs hk hr;have ho := h.ops k (by omega);have e2 := pn_l2 a k (by unfold big; omega) (gt a.Threads (k : Int)).length 0 m [] (by omega);have e3 := pn_l3 a (k : Int) (by unfold big; omega) a.Inits.length 0 (mputs [] ((gt a.Threads (k : Int)).flatMap nmT)) (by omega);rw [List.drop_zero] at e2 e3
  have hr2 : rs.length ≤ 4 := by rw [hr]; simp; omega
  rw [prog_names.l0, if_pos (dT (by omega)), if_pos (by omega), show prog_names.l2 a (k : Int) 0 m [] = _ from e2];simp only [Option.bind_eq_bind, Option.bind_some];rw [show prog_names.l3 a (k : Int) 0 _ = _ from e3, ← mputs_app];simp only [Option.bind_some]
  have hlen : ((gt a.Threads (k : Int)).flatMap nmT ++ ini a.Inits (k : Int)).length ≤ 3 * 2199023255488 + 64 := by
   have h1 := fm_len nmT_len (gt a.Threads (k : Int)); have h2 := ini_len a.Inits (k : Int);rw [List.length_append]; omega
  rw [rising_p (m := mputs [] ((gt a.Threads (k : Int)).flatMap nmT ++ ini a.Inits (k : Int))) (l := kr a k) (mputs_nd (m := []) (by simp [KS])) (by have := mputs_len (l := (gt a.Threads (k : Int)).flatMap nmT ++ ini a.Inits (k : Int)) (m := []); simp only [List.length_nil] at this; omega) (kr_st a k) (fun z => by
   unfold kr;rw [insSs_mem, mputs_mem, List.mem_append, List.mem_append];simp only [KS, List.map_nil, List.not_mem_nil, false_or];exact Or.comm)]
  simp only [Option.bind_some];rw [if_pos (by omega), w1 (by omega), ih (k + 1) _ _ (by omega) (by rw [hr, List.range_succ, List.map_append]; rfl), drop_get (show k < a.Threads.length by omega), List.flatMap_cons, mputs_app]
theorem sum_fm (f : api_Instr → List ByteArray) (h : ∀ x, (f x).length ≤ 1) : ∀ l : List (List api_Instr), (l.flatMap fun q => q.flatMap f).length ≤ (l.map (·.length)).sum
 | [] => by simp
 | x :: l => by
  have h1 := sum_fm f h l; have h2 := fm_len h x;rw [List.flatMap_cons, List.length_append, List.map_cons, List.sum_cons]; omega
theorem names_p (a : api_Test) (h : Tsz a) : prog_names.f a = some (kn a) := by
 have hi := h.ini;have e0 := pn_l0 a h a.Threads.length 0 [] [] (by omega) rfl;rw [List.drop_zero] at e0;have e1 := pn_l1 a (by unfold big; omega) a.Inits.length 0 (mputs [] (a.Threads.flatMap fun l => l.flatMap nmL)) (by omega);rw [List.drop_zero] at e1;unfold prog_names.f;rw [show prog_names.l0 a 0 [] [] = _ from e0];simp only [Option.bind_eq_bind, Option.bind_some];rw [show prog_names.l1 a 0 _ = _ from e1, ← mputs_app];simp only [Option.bind_some]
 have hlen : ((a.Threads.flatMap fun l => l.flatMap nmL) ++ ini a.Inits (-1)).length ≤ 8796093022208 := by
  have h1 := sum_fm nmL nmL_len a.Threads; have h2 := ini_len a.Inits (-1); have h3 := h.sum;rw [List.length_append]; omega
 rw [rising_p (m := mputs [] ((a.Threads.flatMap fun l => l.flatMap nmL) ++ ini a.Inits (-1))) (l := kl a) (mputs_nd (m := []) (by simp [KS])) (by have := mputs_len (l := (a.Threads.flatMap fun l => l.flatMap nmL) ++ ini a.Inits (-1)) (m := []); simp only [List.length_nil] at this; omega) (kl_st a) (fun z => by
  unfold kl;rw [insSs_mem, mputs_mem, List.mem_append, List.mem_append];simp only [KS, List.map_nil, List.not_mem_nil, false_or];exact Or.comm)]
 rfl
theorem nmd_get {n : Nat} {g : Nat → List ByteArray} {t : Nat} (h : t < n) : gt ((List.range n).map g) (t : Int) = g t := by
 rw [gt_nat (by simpa using h)]; simp
theorem nmd_set {n : Nat} {g : Nat → List ByteArray} {t : Nat} {v : List ByteArray} (h : t < n) : setl ((List.range n).map g) (t : Int) v = (List.range n).map (fun i => if i = t then v else g i) := by
 unfold setl;apply List.ext_getElem
 ·simp
 ·intro i h1 h2;simp only [Int.toNat_natCast, List.getElem_set, List.getElem_map, List.getElem_range]
  by_cases e : t = i
  ·rw [if_pos e, if_pos e.symm]
  ·rw [if_neg e, if_neg (fun x => e x.symm)]
theorem nmd_congr {n : Nat} {g g' : Nat → List ByteArray} (h : ∀ i, i < n → g i = g' i) : (List.range n).map g = (List.range n).map g' := by
 apply List.map_congr_left;intro i hi; exact h i (List.mem_range.1 hi)
theorem nmd_put {n : Nat} {g : Nat → List ByteArray} {t : Nat} {s : ByteArray} (c : Bool) (h : t < n) (hb : (c = true → ((g t).length + 1) * 16 ≤ 140737488355328)) :
  (if c = true then (if 0 ≤ (t : Int) ∧ (t : Int) < (((List.range n).map g).length : Int) then (weirref09_put.f (gt ((List.range n).map g) (t : Int)) s).bind (fun r => some (setl ((List.range n).map g) (t : Int) r)) else none) else some ((List.range n).map g))
   = some ((List.range n).map fun i => if i = t then insSs (g t) (if c = true then [s] else []) else g i) := by
 cases c with
 | true =>
  rw [if_pos rfl, if_pos rfl, if_pos (by simp; omega), nmd_get h, put_d _ _ (hb rfl)];simp only [Option.bind_some];rw [nmd_set h]; rfl
 | false =>
  rw [if_neg (by simp)]
  congr 1
  apply nmd_congr;intro i hi
  by_cases e : i = t
  ·rw [if_pos e, e]; rfl
  ·rw [if_neg e]
theorem nd_l2 (a : api_Test) (t : Nat) (ht : t < a.Threads.length) (hl : (gt a.Threads (t : Int)).length ≤ 2199023255488) : ∀ (n k : Nat) (ls : List ByteArray) (g : Nat → List ByteArray), k + n = (gt a.Threads (t : Int)).length →
  ls.length + n ≤ 8796093022208 → (g t).length + 3 * n ≤ 8796093022208 →
  weirref09_named.l2 a (t : Int) ls (k : Int) ((List.range a.Threads.length).map g) = some (insSs ls (((gt a.Threads (t : Int)).drop k).flatMap nmL), (List.range a.Threads.length).map fun i => if i = t then insSs (g t) (((gt a.Threads (t : Int)).drop k).flatMap nmT) else g i) := by
 intro n
 induction n with
 | zero =>
  intro k ls g hk h1 h2;rw [weirref09_named.l2, if_pos (by omega), if_neg (dF (by omega)), List.drop_of_length_le (by omega)]
  have : (List.range a.Threads.length).map g = (List.range a.Threads.length).map fun i => if i = t then insSs (g t) (([] : List api_Instr).flatMap nmT) else g i := nmd_congr fun i hi => by
   by_cases e : i = t
   ·rw [if_pos e, e]; rfl
   ·rw [if_neg e]
  rw [← this]; rfl
 | succ n ih =>
  intro k ls g hk h1 h2;rw [drop_get (show k < (gt a.Threads (t : Int)).length by omega)];generalize hx : gt (gt a.Threads (t : Int)) (k : Int) = x;have e1 : nmT x = evU (kd x.Op).1 x := rfl
  have e2 : nmL x = if (kd x.Op).1.loc = true then [x.Loc] else [] := rfl
  rw [weirref09_named.l2, if_pos (by omega), if_pos (dT (by omega)), if_pos (by omega), if_pos (by omega), hx, uses_d, List.flatMap_cons, List.flatMap_cons, e1, e2];generalize (kd x.Op).1 = u;simp only [Option.bind_eq_bind, Option.bind_some]
  have ln : ∀ (c : Bool) (s : ByteArray), (if c = true then [s] else []).length ≤ 1 := by intro c s; cases c <;> simp
  rw [nmd_put u.reg ht (fun _ => by omega)];simp only [Option.bind_some];have l1 := insSs_len (xs := if u.reg = true then [x.Reg] else []) (l := g t); have m1 := ln u.reg x.Reg;rw [nmd_put u.src ht (fun _ => by rw [if_pos rfl]; omega)];simp only [Option.bind_some, if_true, ite_self];have l2 := insSs_len (xs := if u.src = true then [x.Src] else []) (l := insSs (g t) (if u.reg = true then [x.Reg] else [])); have m2 := ln u.src x.Src;rw [nmd_put (x.Op == 8) ht (fun _ => by simp only [if_true]; omega)];simp only [Option.bind_some, if_true];have l3 := insSs_len (xs := if (x.Op == 8) = true then [(⟨#[69,65,88]⟩ : ByteArray)] else []) (l := insSs (insSs (g t) (if u.reg = true then [x.Reg] else [])) (if u.src = true then [x.Src] else [])); have m3 := ln (x.Op == 8) ⟨#[69,65,88]⟩
  have hfin : ∀ ls' : List ByteArray, ls'.length + n ≤ 8796093022208 → weirref09_named.l2 a (t : Int) ls' (IntKind.i64.wrap ((k : Int) + 1)) ((List.range a.Threads.length).map fun i => if i = t then insSs (insSs (insSs (g t) (if u.reg = true then [x.Reg] else [])) (if u.src = true then [x.Src] else [])) (if (x.Op == 8) = true then [(⟨#[69,65,88]⟩ : ByteArray)] else []) else if i = t then insSs (insSs (g t) (if u.reg = true then [x.Reg] else [])) (if u.src = true then [x.Src] else []) else if i = t then insSs (g t) (if u.reg = true then [x.Reg] else []) else g i) = some (insSs ls' (((gt a.Threads (t : Int)).drop (k + 1)).flatMap nmL), (List.range a.Threads.length).map fun i => if i = t then insSs (g t) (evU u x ++ ((gt a.Threads (t : Int)).drop (k + 1)).flatMap nmT) else g i) := by
   intro ls' h3;rw [w1 (by omega), ih (k + 1) ls' _ (by omega) h3 (by simp only [if_true]; omega)]
   congr 2
   apply nmd_congr;intro i hi
   by_cases e : i = t
   ·simp only [if_pos e, if_true]; unfold evU; rw [insSs_app, insSs_app, insSs_app]
   ·simp only [if_neg e]
  cases u.loc
  ·exact hfin ls (by omega)
  ·rw [if_pos rfl, if_pos rfl, put_d _ _ (by omega)];simp only [Option.bind_some];exact hfin _ (by have := insS_len (l := ls) (s := x.Loc); omega)
end Go.Proofs.YtcjaknnihjcajaaGreat.K
