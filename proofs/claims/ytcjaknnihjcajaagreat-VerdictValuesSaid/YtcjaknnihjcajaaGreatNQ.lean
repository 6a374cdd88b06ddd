/- Rows of rows of the call's own: the outer row holds the inner rows' headers, and owns them all. -/
import Derived.Test.YtcjaknnihjcajaaGreatNP
set_option linter.unusedVariables false
set_option linter.unusedSimpArgs false
namespace Go.Proofs.YtcjaknnihjcajaaGreat.K
open Go Go.RowKit
abbrev Hd3 := Option Addr × Nat × Nat
def encH (x : Hd3) : List Value := [.slice x.1 x.2.1 x.2.2]
theorem len_encH (x : Hd3) : (encH x).length = 1 := rfl
def hdlF {α : Type} (h : Nat → Option Addr × Nat) : Nat → List (List α) → List Hd3
 | _, [] => []
 | k, t :: ts => ((h k).1, t.length, (h k).2) :: hdlF h (k + 1) ts
def hdl {α : Type} (h : Nat → Option Addr × Nat) (ts : List (List α)) : List Hd3 := hdlF h 0 ts
def upd (h : Nat → Option Addr × Nat) (i : Nat) (x : Option Addr × Nat) : Nat → Option Addr × Nat := fun k => if k = i then x else h k
section
variable {α : Type} {h : Nat → Option Addr × Nat}
theorem hdlF_len : ∀ (ts : List (List α)) (k : Nat), (hdlF h k ts).length = ts.length
 | [], _ => rfl
 | t :: ts, k => by simp only [hdlF, List.length_cons, hdlF_len ts]
theorem hdl_len (ts : List (List α)) : (hdl h ts).length = ts.length := hdlF_len ts 0
theorem hdlF_get : ∀ (ts : List (List α)) (k i : Nat) (t : List α), ts[i]? = some t → (hdlF h k ts)[i]? = some ((h (k + i)).1, t.length, (h (k + i)).2)
  | [], _, _, _, e => by simp at e
  | x :: ts, k, 0, t, e => by
    simp only [List.getElem?_cons_zero, Option.some.injEq] at e
    subst e
    simp [hdlF]
  | x :: ts, k, i + 1, t, e => by
    simp only [List.getElem?_cons_succ] at e
    have := hdlF_get ts (k + 1) i t e
    simp only [hdlF, List.getElem?_cons_succ]
    rw [this, show k + 1 + i = k + (i + 1) by omega]
theorem hdl_get {ts : List (List α)} {i : Nat} {t : List α} (e : ts[i]? = some t) : (hdl h ts)[i]? = some ((h i).1, t.length, (h i).2) := by
 have := hdlF_get (h := h) ts 0 i t e
 rw [Nat.zero_add] at this
 exact this
theorem upd_same (i : Nat) (x : Option Addr × Nat) : upd h i x i = x := if_pos rfl
theorem upd_ne {i j : Nat} (x : Option Addr × Nat) (e : j ≠ i) : upd h i x j = h j := if_neg e
theorem hdl_set {ts : List (List α)} {i : Nat} (hi : i < ts.length) (x : Option Addr × Nat) (t : List α) : hdl (upd h i x) (ts.set i t) = (hdl h ts).set i (x.1, t.length, x.2) := by
 refine List.ext_getElem? fun j => ?_
 by_cases hj : j < ts.length
 ·by_cases e : j = i
  ·subst e
   rw [hdl_get (t := t) (by simp [hj]), upd_same, List.getElem?_set_self (by rw [hdl_len]; exact hj)]
  ·have e1 : (ts.set i t)[j]? = some ts[j] := by rw [List.getElem?_set_ne (Ne.symm e)]; exact List.getElem?_eq_getElem hj
   rw [hdl_get e1, upd_ne _ e, List.getElem?_set_ne (Ne.symm e), hdl_get (List.getElem?_eq_getElem hj)]
 ·rw [List.getElem?_eq_none (by rw [hdl_len, List.length_set]; omega), List.getElem?_eq_none (by rw [List.length_set, hdl_len]; omega)]
theorem hdl_push (ts : List (List α)) (x : Option Addr × Nat) (t : List α) : hdl (upd h ts.length x) (ts ++ [t]) = hdl h ts ++ [(x.1, t.length, x.2)] := by
 refine List.ext_getElem? fun j => ?_
 by_cases hj : j < ts.length
 ·have e1 : (ts ++ [t])[j]? = some ts[j] := by rw [List.getElem?_append_left hj]; exact List.getElem?_eq_getElem hj
  rw [hdl_get e1, upd_ne _ (by omega), List.getElem?_append_left (by rw [hdl_len]; exact hj), hdl_get (List.getElem?_eq_getElem hj)]
 ·by_cases e : j = ts.length
  ·subst e
   rw [hdl_get (t := t) (by simp), upd_same, List.getElem?_append_right (by rw [hdl_len]; omega), hdl_len, Nat.sub_self]; rfl
  ·rw [List.getElem?_eq_none (by rw [hdl_len]; simp; omega), List.getElem?_eq_none (by simp [hdl_len]; omega)]
end
def ownR (A : Option Addr) (c : Nat) (b : Nat) : Prop := 0 < c ∧ ∃ a, A = some a ∧ a.block = b
structure ElsIn {α : Type} (p : Nat → Prop) (h : Nat → Option Addr × Nat) (e : TypeId) (sz : Nat) (enc : α → List Value) (ts : List (List α)) (w : World) : Prop where
 row : ∀ i t, ts[i]? = some t → ¬ p i → RowIn (h i).1 (h i).2 e sz (t.flatMap enc) w
 ap : ∀ i j, i < ts.length → j < ts.length → ¬ p i → ¬ p j → i ≠ j → ∀ b, ownR (h i).1 (h i).2 b → ¬ ownR (h j).1 (h j).2 b
theorem RowIn.there {A : Option Addr} {c : Nat} {e : TypeId} {sz : Nat} {cs : List Value} {w : World} {b : Nat} (h : RowIn A c e sz cs w) (ho : ownR A c b) : b < w.heap.size := (xrow A c e sz cs).there h ho
theorem RowIn.stable {A : Option Addr} {c : Nat} {e : TypeId} {sz : Nat} {cs : List Value} {w w' : World} (hb : ∀ b, ownR A c b → w'.heap[b]? = w.heap[b]?) (h : RowIn A c e sz cs w) : RowIn A c e sz cs w' := (xrow A c e sz cs).stable hb h
def xels {α : Type} (p : Nat → Prop) (h : Nat → Option Addr × Nat) (e : TypeId) (sz : Nat) (enc : α → List Value) (ts : List (List α)) : XObj where
 own := fun b => ∃ i, i < ts.length ∧ ¬ p i ∧ ownR (h i).1 (h i).2 b
 keeps := fun _ _ => False
 holds := ElsIn p h e sz enc ts
 stable := fun hb k => ⟨fun i t hi hp => RowIn.stable (fun b ho => hb b ⟨i, (List.getElem?_eq_some_iff.1 hi).1, hp, ho⟩) (k.row i t hi hp), k.ap⟩
 there := by
  rintro w b k ⟨i, hi, hp, ho⟩
  exact (k.row i _ (List.getElem?_eq_getElem hi) hp).there ho
def xrr {α : Type} (A : Option Addr) (c : Nat) (E : TypeId) (h : Nat → Option Addr × Nat) (e : TypeId) (sz : Nat) (enc : α → List Value) (ts : List (List α)) : XObj where
 own := fun b => ownR A c b ∨ ∃ i, i < ts.length ∧ ownR (h i).1 (h i).2 b
 keeps := fun _ _ => False
 holds := fun w => RowIn A c E 1 ((hdl h ts).flatMap encH) w ∧ ElsIn (fun _ => False) h e sz enc ts w ∧ ∀ i, i < ts.length → ∀ b, ownR A c b → ¬ ownR (h i).1 (h i).2 b
 stable := fun hb k => ⟨RowIn.stable (fun b ho => hb b (.inl ho)) k.1, (xels (fun _ => False) h e sz enc ts).stable (fun b ho => by
  obtain ⟨i, hi, -, ho⟩ := ho
  exact hb b (.inr ⟨i, hi, ho⟩)) k.2.1, k.2.2⟩
 there := by
  rintro w b k (ho | ⟨i, hi, ho⟩)
  ·exact k.1.there ho
  ·exact (k.2.1.row i _ (List.getElem?_eq_getElem hi) (fun f => f)).there ho
section
variable {w0 w w' : World} {Z Z' : Zm} {X Y Y' : XObj} {os : List XObj}
theorem St.split2 (hS : St w0 Z (X :: os) w) (hk : ∀ b o, ¬ X.keeps b o) (hY : Y.holds w) (hY' : Y'.holds w) (ho : ∀ b, Y.own b → X.own b) (ho' : ∀ b, Y'.own b → X.own b) (hd : ∀ b, Y.own b → ¬ Y'.own b) : St w0 Z (Y :: Y' :: os) w := by
 have hap := List.pairwise_cons.1 hS.ap
 refine ⟨hS.fr, hS.dr, hS.zc, hS.zb, ?_, ?_, ?_, ?_, ?_⟩
 ·intro Q hQ
  rcases List.mem_cons.1 hQ with rfl | hQ
  ·exact hY
  ·rcases List.mem_cons.1 hQ with rfl | hQ
   ·exact hY'
   ·exact hS.ob Q (List.mem_cons_of_mem _ hQ)
 ·intro Q hQ b hb
  rcases List.mem_cons.1 hQ with rfl | hQ
  ·exact hS.new X (List.mem_cons_self ..) b (ho b hb)
  ·rcases List.mem_cons.1 hQ with rfl | hQ
   ·exact hS.new X (List.mem_cons_self ..) b (ho' b hb)
   ·exact hS.new Q (List.mem_cons_of_mem _ hQ) b hb
 ·refine List.pairwise_cons.2 ⟨fun Q hQ b hb hq => ?_, List.pairwise_cons.2 ⟨fun Q hQ b hb hq => hap.1 Q hQ b (ho' b hb) hq, hap.2⟩⟩
  rcases List.mem_cons.1 hQ with rfl | hQ
  ·exact hd b hb hq
  ·exact hap.1 Q hQ b (ho b hb) hq
 ·intro Q hQ b o v hz hb
  rcases List.mem_cons.1 hQ with rfl | hQ
  ·exact absurd (hS.zx X (List.mem_cons_self ..) b o v hz (ho b hb)) (hk b o)
  ·rcases List.mem_cons.1 hQ with rfl | hQ
   ·exact absurd (hS.zx X (List.mem_cons_self ..) b o v hz (ho' b hb)) (hk b o)
   ·exact hS.zx Q (List.mem_cons_of_mem _ hQ) b o v hz hb
 ·intro Q hQ b x hz hb
  rcases List.mem_cons.1 hQ with rfl | hQ
  ·exact hS.zy X (List.mem_cons_self ..) b x hz (ho b hb)
  ·rcases List.mem_cons.1 hQ with rfl | hQ
   ·exact hS.zy X (List.mem_cons_self ..) b x hz (ho' b hb)
   ·exact hS.zy Q (List.mem_cons_of_mem _ hQ) b x hz hb
theorem St.join2 (hS : St w0 Z (Y :: Y' :: os) w) (hk : ∀ b o, ¬ Y.keeps b o) (hk' : ∀ b o, ¬ Y'.keeps b o) (hX : X.holds w) (ho : ∀ b, X.own b → Y.own b ∨ Y'.own b) : St w0 Z (X :: os) w := by
 have hap := List.pairwise_cons.1 hS.ap
 have hap2 := List.pairwise_cons.1 hap.2
 have m1 : Y ∈ Y :: Y' :: os := List.mem_cons_self ..
 have m2 : Y' ∈ Y :: Y' :: os := List.mem_cons_of_mem _ (List.mem_cons_self ..)
 have m3 : ∀ Q ∈ os, Q ∈ Y :: Y' :: os := fun Q h => List.mem_cons_of_mem _ (List.mem_cons_of_mem _ h)
 refine ⟨hS.fr, hS.dr, hS.zc, hS.zb, ?_, ?_, ?_, ?_, ?_⟩
 ·intro Q hQ
  rcases List.mem_cons.1 hQ with rfl | hQ
  ·exact hX
  ·exact hS.ob Q (m3 Q hQ)
 ·intro Q hQ b hb
  rcases List.mem_cons.1 hQ with rfl | hQ
  ·rcases ho b hb with h | h
   ·exact hS.new Y m1 b h
   ·exact hS.new Y' m2 b h
  ·exact hS.new Q (m3 Q hQ) b hb
 ·refine List.pairwise_cons.2 ⟨fun Q hQ b hb hq => ?_, hap2.2⟩
  rcases ho b hb with h | h
  ·exact hap.1 Q (List.mem_cons_of_mem _ hQ) b h hq
  ·exact hap2.1 Q hQ b h hq
 ·intro Q hQ b o v hz hb
  rcases List.mem_cons.1 hQ with rfl | hQ
  ·rcases ho b hb with h | h
   ·exact absurd (hS.zx Y m1 b o v hz h) (hk b o)
   ·exact absurd (hS.zx Y' m2 b o v hz h) (hk' b o)
  ·exact hS.zx Q (m3 Q hQ) b o v hz hb
 ·intro Q hQ b x hz hb
  rcases List.mem_cons.1 hQ with rfl | hQ
  ·rcases ho b hb with h | h
   ·exact hS.zy Y m1 b x hz h
   ·exact hS.zy Y' m2 b x hz h
  ·exact hS.zy Q (m3 Q hQ) b x hz hb
end
section
variable {α : Type} {enc : α → List Value} {E e : TypeId} {sz : Nat} {w0 w w' : World} {Z : Zm} {A A' : Option Addr} {c c' : Nat} {h : Nat → Option Addr × Nat} {ts : List (List α)} {t t' : List α} {os : List XObj} {i : Nat} {p : Nat → Prop}
theorem St.rrOpen (hS : St w0 Z (xrr A c E h e sz enc ts :: os) w) : St w0 Z (xrow A c E 1 ((hdl h ts).flatMap encH) :: xels (fun _ => False) h e sz enc ts :: os) w := by
 have hh := hS.hd
 refine hS.split2 (fun _ _ f => f) hh.1 hh.2.1 (fun b hb => .inl hb) (fun b hb => ?_) (fun b hb hb' => ?_)
 ·obtain ⟨i, hi, -, ho⟩ := hb; exact .inr ⟨i, hi, ho⟩
 ·obtain ⟨i, hi, -, ho⟩ := hb'; exact hh.2.2 i hi b hb ho
theorem St.rrShut (hS : St w0 Z (xrow A c E 1 ((hdl h ts).flatMap encH) :: xels (fun _ => False) h e sz enc ts :: os) w) : St w0 Z (xrr A c E h e sz enc ts :: os) w := by
 have h1 := hS.hd
 have h2 := hS.drop.hd
 have hap := (List.pairwise_cons.1 hS.ap).1 _ (List.mem_cons_self ..)
 refine hS.join2 (fun _ _ f => f) (fun _ _ f => f) ⟨h1, h2, fun i hi b hb hb' => hap b hb ⟨i, hi, fun f => f, hb'⟩⟩ (fun b hb => ?_)
 rcases hb with hb | ⟨i, hi, hb⟩
 ·exact .inl hb
 ·exact .inr ⟨i, hi, fun f => f, hb⟩
theorem St.elsOut (hS : St w0 Z (xels p h e sz enc ts :: os) w) (hi : ts[i]? = some t) (hp : ¬ p i) : St w0 Z (xrow (h i).1 (h i).2 e sz (t.flatMap enc) :: xels (fun k => p k ∨ k = i) h e sz enc ts :: os) w := by
 have hh : ElsIn p h e sz enc ts w := hS.hd
 have hl := (List.getElem?_eq_some_iff.1 hi).1
 refine hS.split2 (fun _ _ f => f) (hh.row i t hi hp) ⟨fun j u hj hq => hh.row j u hj (fun q => hq (.inl q)), fun j k hj hk hpj hpk hne => hh.ap j k hj hk (fun q => hpj (.inl q)) (fun q => hpk (.inl q)) hne⟩ (fun b hb => ⟨i, hl, hp, hb⟩) (fun b hb => ?_) (fun b hb hb' => ?_)
 ·obtain ⟨j, hj, hq, ho⟩ := hb; exact ⟨j, hj, fun q => hq (.inl q), ho⟩
 ·obtain ⟨j, hj, hq, ho⟩ := hb'
  exact hh.ap i j hl hj hp (fun q => hq (.inl q)) (fun q => hq (.inr q.symm)) b hb ho
theorem St.elsIn (hS : St w0 Z (xrow A c e sz (t.flatMap enc) :: xels (fun k => False ∨ k = i) h e sz enc ts :: os) w) (hi : i < ts.length) : St w0 Z (xels (fun _ => False) (upd h i (A, c)) e sz enc (ts.set i t) :: os) w := by
 have h1 : RowIn A c e sz (t.flatMap enc) w := hS.hd
 have h2 : ElsIn (fun k => False ∨ k = i) h e sz enc ts w := hS.drop.hd
 have hap := (List.pairwise_cons.1 hS.ap).1 _ (List.mem_cons_self ..)
 have hn : ∀ {j : Nat}, j ≠ i → ¬ (False ∨ j = i) := fun hne q => q.elim (fun f => f) hne
 refine hS.join2 (fun _ _ f => f) (fun _ _ f => f) ⟨fun j u hj _ => ?_, fun j k hj hk _ _ hne b hb hb' => ?_⟩ (fun b hb => ?_)
 ·by_cases e : j = i
  ·subst e
   rw [List.getElem?_set_self hi] at hj
   simp only [Option.some.injEq] at hj
   subst hj
   rw [upd_same]; exact h1
  ·rw [List.getElem?_set_ne (Ne.symm e)] at hj
   rw [upd_ne _ e]; exact h2.row j u hj (hn e)
 ·rw [List.length_set] at hj hk
  by_cases e1 : j = i
  ·subst e1
   rw [upd_same] at hb
   rw [upd_ne _ (Ne.symm hne)] at hb'
   exact hap b hb ⟨k, hk, hn (Ne.symm hne), hb'⟩
  ·rw [upd_ne _ e1] at hb
   by_cases e2 : k = i
   ·subst e2
    rw [upd_same] at hb'
    exact hap b hb' ⟨j, hj, hn e1, hb⟩
   ·rw [upd_ne _ e2] at hb'
    exact h2.ap j k hj hk (hn e1) (hn e2) hne b hb hb'
 ·obtain ⟨j, hj, -, ho⟩ := hb
  rw [List.length_set] at hj
  by_cases e : j = i
  ·subst e; rw [upd_same] at ho; exact .inl ho
  ·rw [upd_ne _ e] at ho; exact .inr ⟨j, hj, hn e, ho⟩
theorem St.elsPush (hS : St w0 Z (xrow A c e sz (t.flatMap enc) :: xels (fun _ => False) h e sz enc ts :: os) w) : St w0 Z (xels (fun _ => False) (upd h ts.length (A, c)) e sz enc (ts ++ [t]) :: os) w := by
 have h1 : RowIn A c e sz (t.flatMap enc) w := hS.hd
 have h2 : ElsIn (fun _ => False) h e sz enc ts w := hS.drop.hd
 have hap := (List.pairwise_cons.1 hS.ap).1 _ (List.mem_cons_self ..)
 have hlt : ∀ {j : Nat}, j < (ts ++ [t]).length → j ≠ ts.length → j < ts.length := fun hj hne => by simp at hj; omega
 refine hS.join2 (fun _ _ f => f) (fun _ _ f => f) ⟨fun j u hj _ => ?_, fun j k hj hk _ _ hne b hb hb' => ?_⟩ (fun b hb => ?_)
 ·by_cases e : j = ts.length
  ·subst e
   rw [List.getElem?_append_right (by omega), Nat.sub_self] at hj
   simp only [List.getElem?_cons_zero, Option.some.injEq] at hj
   subst hj
   rw [upd_same]; exact h1
  ·have hl := hlt (List.getElem?_eq_some_iff.1 hj).1 e
   rw [List.getElem?_append_left hl] at hj
   rw [upd_ne _ e]; exact h2.row j u hj (fun f => f)
 ·by_cases e1 : j = ts.length
  ·subst e1
   rw [upd_same] at hb
   rw [upd_ne _ (Ne.symm hne)] at hb'
   exact hap b hb ⟨k, hlt hk (Ne.symm hne), fun f => f, hb'⟩
  ·rw [upd_ne _ e1] at hb
   by_cases e2 : k = ts.length
   ·subst e2
    rw [upd_same] at hb'
    exact hap b hb' ⟨j, hlt hj e1, fun f => f, hb⟩
   ·rw [upd_ne _ e2] at hb'
    exact h2.ap j k (hlt hj e1) (hlt hk e2) (fun f => f) (fun f => f) hne b hb hb'
 ·obtain ⟨j, hj, -, ho⟩ := hb
  by_cases e : j = ts.length
  ·subst e; rw [upd_same] at ho; exact .inl ho
  ·rw [upd_ne _ e] at ho; exact .inr ⟨j, hlt hj e, fun f => f, ho⟩
theorem St.elsNone (hS : St w0 Z os w) : St w0 Z (xels (α := α) (fun _ => False) h e sz enc [] :: os) w :=
 hS.add (FrP.refl _ _) ⟨fun i t hi => by simp at hi, fun i j hi => by simp at hi⟩ (fun b hb => by obtain ⟨i, hi, -⟩ := hb; simp at hi)
theorem RowIn.slz {xs : List α} (hr : RowIn A c e sz (xs.flatMap enc) w) (hl : ∀ x, (enc x).length = sz) (hsz : 0 < sz) (hZ : ∀ b o v, ownR A c b → w.cell? ⟨b, o, none⟩ = some v → Z.cell b o v) : SlZ (flat enc) sz Z A c xs := by
 refine ⟨hr.small hl hsz, hr.cap hl hsz, fun i x hx => ?_⟩
 have hi : i < xs.length := (List.getElem?_eq_some_iff.1 hx).1
 haveI : Inhabited α := ⟨x⟩
 obtain ⟨b, o, hA, hc⟩ := hr.at_ hl hsz (i := i) (by omega) (by omega)
 have hg : gt xs (i : Int) = x := by have := gt_get (xs := xs) (i := (i : Int)) (by omega) (by omega); rw [Int.toNat_natCast] at this; rw [this] at hx; exact Option.some.inj hx
 rw [hg, Int.toNat_natCast] at hc
 refine ⟨b, o, _, hA, rfl, hl x, fun j v hv => hZ _ _ _ ⟨?_, _, hA, rfl⟩ ?_⟩
 ·have := hr.cap hl hsz; omega
 ·have := hc j v hv; rwa [add_lit] at this
theorem St.rrNone (hS : St w0 Z os w) (E e : TypeId) (sz : Nat) (enc : α → List Value) : St w0 Z (xrr (none : Option Addr) 0 E (fun _ => (none, 0)) e sz enc ([] : List (List α)) :: os) w :=
 ((hS.elsNone (h := fun _ => (none, 0))).nilrow none E 1).rrShut
theorem hdl_rep (n : Nat) : hdl (fun _ => ((none, 0) : Option Addr × Nat)) (List.replicate n ([] : List α)) = List.replicate n ((none, 0, 0) : Hd3) := by
 refine List.ext_getElem? fun i => ?_
 by_cases hi : i < n
 ·rw [hdl_get (t := ([] : List α)) (by rw [List.getElem?_replicate, if_pos hi]), List.getElem?_replicate, if_pos hi]; rfl
 ·rw [List.getElem?_eq_none (by rw [hdl_len, List.length_replicate]; omega), List.getElem?_eq_none (by rw [List.length_replicate]; omega)]
theorem St.rrMake {n : Nat} (hS : St w0 Z (xrow A c E 1 ((List.replicate n ((none, 0, 0) : Hd3)).flatMap encH) :: os) w) (e : TypeId) (sz : Nat) (enc : α → List Value) : St w0 Z (xrr A c E (fun _ => (none, 0)) e sz enc (List.replicate n ([] : List α)) :: os) w := by
 have hno : ∀ b, ¬ ownR (none : Option Addr) 0 b := fun b hb => absurd hb.1 (by omega)
 have h1 : St w0 Z (xels (fun _ => False) (fun _ => ((none, 0) : Option Addr × Nat)) e sz enc (List.replicate n ([] : List α)) :: xrow A c E 1 ((List.replicate n ((none, 0, 0) : Hd3)).flatMap encH) :: os) w := by
  refine hS.add (X := xels (fun _ => False) (fun _ => ((none, 0) : Option Addr × Nat)) e sz enc (List.replicate n ([] : List α))) (FrP.refl _ _) ⟨fun i t hi _ => ?_, fun i j _ _ _ _ _ b hb => absurd hb (hno b)⟩ (fun b hb => ?_)
  ·rw [List.getElem?_replicate] at hi
   split at hi
   ·obtain rfl := Option.some.inj hi; exact .inl ⟨rfl, rfl⟩
   ·cases hi
  ·obtain ⟨i, -, -, ho⟩ := hb; exact absurd ho (hno b)
 rw [← hdl_rep (α := α)] at h1
 exact h1.pick1.rrShut
theorem slz_rr (hS : St w0 Z (xrr A c E h e sz enc ts :: os) w) (hl : ∀ x, (enc x).length = sz) (hsz : 0 < sz) : SlZ (repL (flat enc) sz) 1 (Z.with (xrr A c E h e sz enc ts) w) A c ts := by
  have hh := hS.hd
  have hcap : ts.length ≤ c ∧ c ≤ 9223372036854775807 := by
    have := hh.1.cap len_encH (by omega)
    rw [hdl_len] at this
    exact ⟨this, hh.1.len.2⟩
  refine ⟨by omega, hcap.1, fun i t hi => ?_⟩
  have hil := (List.getElem?_eq_some_iff.1 hi).1
  have hr := hh.2.1.row i t hi (fun f => f)
  have hz : SlZ (flat enc) sz (Z.with (xrr A c E h e sz enc ts) w) (h i).1 (h i).2 t := by
    exact hr.slz hl hsz (fun b o v ho hc => .inr ⟨.inr ⟨i, hil, ho⟩, hc⟩)
  rcases hh.1 with ⟨hc0, h2⟩ | ⟨b, pre, tail, hA, hB, h3, h4, h5⟩
  · omega
  · refine ⟨b, pre.length, _, hA, ⟨_, _, rfl, hz⟩, rfl, fun j v hv => ?_⟩
    match j, hv with
    | 0, hv =>
      simp only [List.getElem?_cons_zero, Option.some.injEq] at hv
      subst hv
      refine .inr ⟨.inl ⟨h4, _, hA, rfl⟩, ?_⟩
      obtain ⟨b2, o2, hA2, hc2⟩ := RowIn.at_ (i := (i : Int)) hh.1 len_encH (by omega) (by omega) (by rw [hdl_len]; omega)
      rw [hA] at hA2
      simp only [Option.some.injEq, Addr.mk.injEq, and_true] at hA2
      obtain ⟨rfl, rfl⟩ := hA2
      have hg : gt (hdl h ts) (i : Int) = ((h i).1, t.length, (h i).2) := by
        have q1 := gt_get (xs := hdl h ts) (i := (i : Int)) (by omega) (by rw [hdl_len]; omega)
        rw [Int.toNat_natCast, hdl_get hi] at q1
        exact (Option.some.inj q1).symm
      have q2 := hc2 0 (.slice (h i).1 t.length (h i).2) (by rw [hg]; rfl)
      rw [add_lit, Int.toNat_natCast] at q2
      rw [Nat.add_assoc]
      exact q2
    | j + 1, hv => simp at hv
theorem St.lendrr (hS : St w0 Z (xrr A c E h e sz enc ts :: os) w) (hl : ∀ x, (enc x).length = sz) (hsz : 0 < sz) :
  ∃ Z', Zm.Le Z Z' ∧ St w0 Z' os w ∧ SlZ (repL (flat enc) sz) 1 Z' A c ts ∧ ∀ ys w', St w0 Z' ys w' → St w0 Z (xrr A c E h e sz enc ts :: ys) w' :=
 ⟨_, Zm.le_with _ _ _, hS.lend, slz_rr hS hl hsz, fun _ _ k => hS.back k⟩
theorem hdl_gt {ix : Int} (g : 0 ≤ ix ∧ ix < (ts.length : Int)) : gt (hdl h ts) ix = ((h ix.toNat).1, (gt ts ix).length, (h ix.toNat).2) := by
 have hn : ix.toNat < ts.length := by omega
 have q1 := gt_get (xs := hdl h ts) (i := ix) g.1 (by rw [hdl_len]; exact g.2)
 have q2 := gt_get (xs := ts) (i := ix) g.1 g.2
 rw [hdl_get q2] at q1
 exact (Option.some.inj q1).symm
theorem hdl_g {ix : Int} (g : 0 ≤ ix ∧ ix < (ts.length : Int)) : 0 ≤ ix ∧ ix < ((hdl h ts).length : Int) := by rw [hdl_len]; exact g
theorem St.rrAt {ix : Int} (hS : St w0 Z (xrr A c E h e sz enc ts :: os) w) (g : 0 ≤ ix ∧ ix < (ts.length : Int)) :
    St w0 Z (xrow A c E 1 ((hdl h ts).flatMap encH) :: xrow (h ix.toNat).1 (h ix.toNat).2 e sz ((gt ts ix).flatMap enc) :: xels (fun k => False ∨ k = ix.toNat) h e sz enc ts :: os) w :=
  ((hS.rrOpen.pick1).elsOut (gt_get g.1 g.2) (fun f => f)).perm (by
    refine (List.Perm.trans ?_ (List.Perm.swap _ _ _))
    exact List.Perm.cons _ (List.Perm.swap _ _ _))
theorem St.rrBack {ix : Int} (hS : St w0 Z (xrow A c E 1 ((setl (hdl h ts) ix (A', t'.length, c')).flatMap encH) :: xrow A' c' e sz (t'.flatMap enc) :: xels (fun k => False ∨ k = ix.toNat) h e sz enc ts :: os) w) (g : 0 ≤ ix ∧ ix < (ts.length : Int)) :
  St w0 Z (xrr A c E (upd h ix.toNat (A', c')) e sz enc (setl ts ix t') :: os) w := by
 have hn : ix.toNat < ts.length := by omega
 have h1 := (hS.pick1.pick1.perm (List.Perm.trans (List.Perm.swap _ _ _) (List.Perm.cons _ (List.Perm.swap _ _ _)))).elsIn hn
 unfold setl at h1 ⊢
 rw [← hdl_set hn (A', c') t'] at h1
 exact h1.pick1.rrShut
theorem upd_self (h : Nat → Option Addr × Nat) (i : Nat) : upd h i (h i) = h := by
 funext k; unfold upd; split
 ·rename_i e; rw [e]
 ·rfl
theorem setl_self [Inhabited α] {ts : List α} {ix : Int} (g : 0 ≤ ix ∧ ix < (ts.length : Int)) : setl ts ix (gt ts ix) = ts := by
 unfold setl
 have q := gt_get (xs := ts) (i := ix) g.1 g.2
 have hn : ix.toNat < ts.length := by omega
 rw [List.getElem?_eq_getElem hn] at q
 rw [← Option.some.inj q, List.set_getElem_self]
theorem St.rrBack0 {ix : Int} (hS : St w0 Z (xrow A c E 1 ((hdl h ts).flatMap encH) :: xrow (h ix.toNat).1 (h ix.toNat).2 e sz ((gt ts ix).flatMap enc) :: xels (fun k => False ∨ k = ix.toNat) h e sz enc ts :: os) w) (g : 0 ≤ ix ∧ ix < (ts.length : Int)) :
  St w0 Z (xrr A c E h e sz enc ts :: os) w := by
 have h0 : setl (hdl h ts) ix ((h ix.toNat).1, (gt ts ix).length, (h ix.toNat).2) = hdl h ts := by
  rw [← hdl_gt g]; exact setl_self (hdl_g g)
 have h1 : St w0 Z (xrow A c E 1 ((setl (hdl h ts) ix ((h ix.toNat).1, (gt ts ix).length, (h ix.toNat).2)).flatMap encH) :: xrow (h ix.toNat).1 (h ix.toNat).2 e sz ((gt ts ix).flatMap enc) :: xels (fun k => False ∨ k = ix.toNat) h e sz enc ts :: os) w := by
  rw [h0]; exact hS
 have h2 := h1.rrBack g
 rw [setl_self g, show ((h ix.toNat).1, (h ix.toNat).2) = h ix.toNat from rfl, upd_self] at h2
 exact h2
theorem St.rrBackL {ix : Int} (hS : St w0 Z (xrow A c E 1 ((hdl h ts).flatMap encH) :: xrow (h ix.toNat).1 (h ix.toNat).2 e sz (t'.flatMap enc) :: xels (fun k => False ∨ k = ix.toNat) h e sz enc ts :: os) w) (g : 0 ≤ ix ∧ ix < (ts.length : Int)) (hl : t'.length = (gt ts ix).length) :
  St w0 Z (xrr A c E h e sz enc (setl ts ix t') :: os) w := by
 have h0 : setl (hdl h ts) ix ((h ix.toNat).1, t'.length, (h ix.toNat).2) = hdl h ts := by
  rw [hl, ← hdl_gt g]; exact setl_self (hdl_g g)
 have h1 : St w0 Z (xrow A c E 1 ((setl (hdl h ts) ix ((h ix.toNat).1, t'.length, (h ix.toNat).2)).flatMap encH) :: xrow (h ix.toNat).1 (h ix.toNat).2 e sz (t'.flatMap enc) :: xels (fun k => False ∨ k = ix.toNat) h e sz enc ts :: os) w := by
  rw [h0]; exact hS
 have h2 := h1.rrBack g
 rw [show ((h ix.toNat).1, (h ix.toNat).2) = h ix.toNat from rfl, upd_self] at h2
 exact h2
theorem St.atH {ix : Int} (hS : St w0 Z (xrow A c E 1 ((hdl h ts).flatMap encH) :: os) w) (g : 0 ≤ ix ∧ ix < (ts.length : Int)) : ∃ b o, A = some ⟨b, o, none⟩ := by
 have hr : RowIn A c E 1 ((hdl h ts).flatMap encH) w := hS.hd
 obtain ⟨b, o, hA, -⟩ := hr.at_ len_encH (by omega) (hdl_g (h := h) g).1 (hdl_g (h := h) g).2
 exact ⟨b, o, hA⟩
theorem RowIn.at2H {Hs : List Hd3} {b o : Nat} {ix : Int} {x : Hd3} (hr : RowIn A c E 1 (Hs.flatMap encH) w) (hA : A = some ⟨b, o, none⟩) (g : 0 ≤ ix ∧ ix < (Hs.length : Int)) (he : gt Hs ix = x) : Cells w ⟨b, o + ix.toNat * 1, none⟩ (encH x) := by
 rw [← he]; exact hr.at2 hA len_encH (by omega) g.1 g.2
end
section
variable {P : Program} {f : Fx} {k : List Item} {l : List Value} {w w0 : World} {R : Ending → World → Prop} {c : Code} {i : Nat} {rest : List Nat} {d : Option Tmp} {ty : TypeId} {Z : Zm} {os : List XObj}
theorem src_hd {A Ai : Option Addr} {n cc ci : Nat} {e : TypeId} (h : RowIn A cc e 1 ([(Ai, n, ci)].flatMap encH) w) : Src P w 1 (.slice A 1 cc) 1 (encH (Ai, n, ci)) := src_row (xs := [(Ai, n, ci)]) h (by omega) len_encH
theorem r_appendRR {α : Type} {enc : α → List Value} {E e u t t2 : TypeId} {sz cp cl : Nat} {A Al : Option Addr} {h : Nat → Option Addr × Nat} {ts : List (List α)} {tl : List α} {s x : Operand} {xv : Value} {info : TypeInfo} {z : Value} {bytes : Nat}
  (hS : St w0 Z (xrr A cp E h e sz enc ts :: xrow Al cl e sz (tl.flatMap enc) :: os) w) (ho : opI c i = some (d, .call { callee := .builtin .append, args := #[s, x], argTypes := #[t, t2] }, ty)) (hw : wantI c l i = true) (hs : evL l s = .slice A ts.length cp) (hx : evL l x = xv)
  (ht : P.underlying t = some (.slice E)) (h2 : P.underlying t2 = some (.slice u) ∨ P.underlying t2 = some .string) (hi : P.info? E = some info) (hz : info.zero = some z) (hsize : info.size = 1) (hby : info.bytes = bytes) (hzs : z.cells.size = 1)
  (hc : Src P w 1 xv 1 (encH (Al, tl.length, cl))) (hbytes : (ts.length + 1) * bytes ≤ 140737488355328) (hb1 : 0 < bytes)
  (hk : ∀ A' c' w', St w0 Z (xrr A' c' E (upd h ts.length (Al, cl)) e sz enc (ts ++ [tl]) :: os) w' → Runs P f (.inRegion (opsOf c) rest :: k) (putL l d (.slice A' (ts ++ [tl]).length c')) w' R) : Runs P f (.inRegion (opsOf c) (i :: rest) :: k) l w R := by
 refine r_appendC (xcs := (hdl h ts).flatMap encH) (n := ts.length) (m := 1) hS.rrOpen ho hw hs hx ht h2 hi hz hsize hby hzs (by omega) (by rw [flat_len len_encH, hdl_len]) hc rfl hbytes hb1 (fun A' c' w' h' => ?_)
 have e1 : (ts ++ [tl]).length = ts.length + 1 := by simp
 rw [← e1]
 refine hk A' c' w' ?_
 have h3 := (h'.perm (List.Perm.trans (List.Perm.cons _ (List.Perm.swap _ _ _)) (List.Perm.trans (List.Perm.swap _ _ _) (List.Perm.cons _ (List.Perm.swap _ _ _))))).elsPush
 have e2 : (hdl h ts).flatMap encH ++ encH (Al, tl.length, cl) = (hdl (upd h ts.length (Al, cl)) (ts ++ [tl])).flatMap encH := by rw [hdl_push, List.flatMap_append]; rfl
 rw [e2] at h3
 exact h3.pick1.rrShut
theorem does_appendRR {or : Oper} {p : Prop} {Post : Value → World → Prop} {α : Type} {enc : α → List Value} {E e u t t2 : TypeId} {sz cp cl : Nat} {A Al : Option Addr} {h : Nat → Option Addr × Nat} {ts : List (List α)} {tl : List α} {s x : Operand} {xv : Value} {info : TypeInfo} {z : Value} {bytes : Nat}
  (hS : St w0 Z (xrr A cp E h e sz enc ts :: xrow Al cl e sz (tl.flatMap enc) :: os) w) (ho : or.op = .call { callee := .builtin .append, args := #[s, x], argTypes := #[t, t2] }) (hs : evL l s = .slice A ts.length cp) (hx : evL l x = xv)
  (ht : P.underlying t = some (.slice E)) (h2 : P.underlying t2 = some (.slice u) ∨ P.underlying t2 = some .string) (hi : P.info? E = some info) (hz : info.zero = some z) (hsize : info.size = 1) (hby : info.bytes = bytes) (hzs : z.cells.size = 1)
  (hc : Src P w 1 xv 1 (encH (Al, tl.length, cl))) (hbytes : (ts.length + 1) * bytes ≤ 140737488355328) (hb1 : 0 < bytes)
  (hk : ∀ A' c' w', St w0 Z (xrr A' c' E (upd h ts.length (Al, cl)) e sz enc (ts ++ [tl]) :: os) w' → Post (.slice A' (ts ++ [tl]).length c') w') : Does P (execOp (evL l) or) p w Post := by
 have hS1 := hS.rrOpen
 obtain ⟨A', c', w', hr, hO', hf, hrel, -⟩ := append_run (P := P) (ty := or.type) (n := ts.length) (m := 1) ht h2 hi hz hsize hby hzs (by omega) hS1.hd (by rw [flat_len len_encH, hdl_len]) hc (by rfl) hbytes hb1
 have e1 : (ts ++ [tl]).length = ts.length + 1 := by simp
 rw [← e1] at hr
 refine .inl ⟨_, w', x_append hs hx hr ho, hk A' c' w' ?_⟩
 have h' := hS1.turn (X' := xrow A' c' E 1 ((hdl h ts).flatMap encH ++ encH (Al, tl.length, cl))) hf hO' hrel (fun _ _ _ _ h => h.elim) (fun _ _ _ _ h => h.elim)
 have h3 := (h'.perm (List.Perm.trans (List.Perm.cons _ (List.Perm.swap _ _ _)) (List.Perm.trans (List.Perm.swap _ _ _) (List.Perm.cons _ (List.Perm.swap _ _ _))))).elsPush
 have e2 : (hdl h ts).flatMap encH ++ encH (Al, tl.length, cl) = (hdl (upd h ts.length (Al, cl)) (ts ++ [tl])).flatMap encH := by rw [hdl_push, List.flatMap_append]; rfl
 rw [e2] at h3
 exact h3.pick1.rrShut
end
end Go.Proofs.YtcjaknnihjcajaaGreat.K
