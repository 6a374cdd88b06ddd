/- The engine's memory: one word for all that is known of it (St), made of separate objects; cells that stay as they are (Zm). No program, no Go text. -/
import Derived.Test.YtcjaknnihjcajaaGreatN0
import Derived.Laws.OwnMore
import Derived.Laws.MakeOwn
set_option linter.unusedVariables false
set_option linter.unusedSimpArgs false
namespace Go.Proofs.YtcjaknnihjcajaaGreat.K
open Go Go.RowKit
/-! ### Code, by its place in a function -/
def sub : Code → List Nat → Code
 | c, [] => c
 | .seq a b, p :: ps => match p with | 0 => sub a ps | _ => sub b ps
 | .cond _ a b, p :: ps => match p with | 0 => sub a ps | _ => sub b ps
 | .block _ c, _ :: ps => sub c ps
 | .loop c, _ :: ps => sub c ps
 | .scope c, _ :: ps => sub c ps
 | .rangeFunc _ _ a b, p :: ps => match p with | 0 => sub a ps | _ => sub b ps
 | c, _ => c
def bodyOf (fn : Func) : Code := match fn.body with | some c => c | none => .skip
def opsOf : Code → Array Oper
 | .region _ o _ => o
 | _ => #[]
def opI (c : Code) (i : Nat) : Option (Option Tmp × Op × TypeId) := match (opsOf c)[i]? with | some o => some (o.dst, o.op, o.type) | none => none
def wantI (c : Code) (l : List Value) (i : Nat) : Bool := match (opsOf c)[i]? with | some o => wantedL (opsOf c) l o | none => false
theorem opI_spec {c : Code} {i : Nat} {d : Option Tmp} {op : Op} {ty : TypeId} (h : opI c i = some (d, op, ty)) : ∃ o : Oper, (opsOf c)[i]? = some o ∧ o.dst = d ∧ o.op = op ∧ o.type = ty := by
 unfold opI at h
 split at h
 ·rename_i o ho; simp only [Option.some.injEq, Prod.mk.injEq] at h; exact ⟨o, ho, h.1, h.2.1, h.2.2⟩
 ·cases h
theorem wantI_spec {c : Code} {l : List Value} {i : Nat} {o : Oper} {t : Bool} (ho : (opsOf c)[i]? = some o) (h : wantI c l i = t) : wantedL (opsOf c) l o = t := by
 unfold wantI at h; rw [ho] at h; exact h
structure FrP (S : Nat → Prop) (w w' : World) : Prop where
 os : w'.os = w.os
 tape : w'.tape = w.tape
 output : w'.output = w.output
 size : w.heap.size ≤ w'.heap.size
 block : ∀ k, k < w.heap.size → ¬ S k → w'.heap[k]? = w.heap[k]?
 drawn : w.drawn ≤ w'.drawn
abbrev Fr0 (w w' : World) : Prop := FrP (fun _ => False) w w'
structure FrB (S : Nat → Prop) (w w' : World) : Prop where
 os : w'.os = w.os
 tape : w'.tape = w.tape
 output : w'.output = w.output
 size : w.heap.size ≤ w'.heap.size
 block : ∀ k, k < w.heap.size → ¬ S k → w'.heap[k]? = w.heap[k]?
abbrev FrB0 (w w' : World) : Prop := FrB (fun _ => False) w w'
theorem FrP.b {S : Nat → Prop} {w w' : World} (h : FrP S w w') : FrB S w w' := ⟨h.os, h.tape, h.output, h.size, h.block⟩
theorem FrB.with {S : Nat → Prop} {w w' : World} (h : FrB S w w') (d : w.drawn ≤ w'.drawn) : FrP S w w' := ⟨h.os, h.tape, h.output, h.size, h.block, d⟩
theorem FrB.refl (S : Nat → Prop) (w : World) : FrB S w w := ⟨rfl, rfl, rfl, Nat.le_refl _, fun _ _ _ => rfl⟩
theorem FrB.step {S T : Nat → Prop} {w0 w w' : World} (h : FrB S w0 w) (k : FrB T w w') (ht : ∀ b, T b → S b ∨ w0.heap.size ≤ b) : FrB S w0 w' :=
 ⟨k.os.trans h.os, k.tape.trans h.tape, k.output.trans h.output, Nat.le_trans h.size k.size, fun i hi hS => by
  refine (k.block i (Nat.lt_of_lt_of_le hi h.size) (fun hT => ?_)).trans (h.block i hi hS)
  rcases ht i hT with h1 | h1
  ·exact hS h1
  ·omega⟩
theorem FrB.ext {w w' : World} (h : FrB0 w w') : Ext w w' := ⟨h.os, h.tape, h.output, h.size, fun k hk => h.block k hk (fun f => f)⟩
theorem FrP.refl (S : Nat → Prop) (w : World) : FrP S w w := ⟨rfl, rfl, rfl, Nat.le_refl _, fun _ _ _ => rfl, Nat.le_refl _⟩
theorem FrP.mono {S T : Nat → Prop} {w w' : World} (h : FrP S w w') (hs : ∀ b, b < w.heap.size → S b → T b) : FrP T w w' := ⟨h.os, h.tape, h.output, h.size, fun k hk ht => h.block k hk (fun s => ht (hs k hk s)), h.drawn⟩
theorem FrP.of_ext {w w' : World} (h : Ext w w') (hd : w.drawn ≤ w'.drawn) : Fr0 w w' := ⟨h.os, h.tape, h.output, h.size, fun k hk _ => h.block k hk, hd⟩
theorem FrP.ext {w w' : World} (h : Fr0 w w') : Ext w w' := ⟨h.os, h.tape, h.output, h.size, fun k hk => h.block k hk (fun f => f)⟩
theorem FrP.step {S T : Nat → Prop} {w0 w w' : World} (h : FrP S w0 w) (k : FrP T w w') (ht : ∀ b, T b → S b ∨ w0.heap.size ≤ b) : FrP S w0 w' :=
 ⟨k.os.trans h.os, k.tape.trans h.tape, k.output.trans h.output, Nat.le_trans h.size k.size, fun i hi hS => by
  refine (k.block i (Nat.lt_of_lt_of_le hi h.size) (fun hT => ?_)).trans (h.block i hi hS)
  rcases ht i hT with h1 | h1
  ·exact hS h1
  ·omega, Nat.le_trans h.drawn k.drawn⟩
theorem fr_drew (w : World) : Fr0 w w.drew := FrP.of_ext ((Below.refl _ _).drew) (Nat.le_succ _)
structure New (w w' : World) (b : Nat) (o : Obj) : Prop where
 fr : Fr0 w w'
 num : b = w.heap.size
 blk : w'.heap[b]? = some o
 size : w'.heap.size = b + 1
theorem new_alloc (w : World) (o : Obj) : New w { w with heap := w.heap.push o } w.heap.size o :=
 ⟨⟨rfl, rfl, rfl, by simp, fun k hk _ => by simp [Array.getElem?_push]; intro h; omega, Nat.le_refl _⟩, rfl, by simp, by simp⟩
def Blk (w : World) (b : Nat) (e : TypeId) (cs : List Value) : Prop := w.heap[b]? = some (.cells cs.toArray e (0, 0))
theorem Blk.lt {w : World} {b : Nat} {e : TypeId} {cs : List Value} (h : Blk w b e cs) : b < w.heap.size := (Array.getElem?_eq_some_iff.1 h).1
theorem Blk.eq {w : World} {b : Nat} {e : TypeId} {cs cs' : List Value} (h : Blk w b e cs) (he : cs = cs') : Blk w b e cs' := he ▸ h
def Cells (w : World) (a : Addr) (cs : List Value) : Prop := ∀ j v, cs[j]? = some v → w.cell? (a.add j) = some v
theorem add_add (a : Addr) (m n : Nat) : (a.add m).add n = a.add (m + n) := by
 unfold Addr.add
 by_cases hn : n = 0
 ·subst hn; simp
 ·by_cases hm : m = 0
  ·subst hm; simp [hn]
  ·have : m + n ≠ 0 := by omega
   simp [hn, hm, this]; omega
theorem add_lit (b o j : Nat) : (⟨b, o, none⟩ : Addr).add j = ⟨b, o + j, none⟩ := by
 unfold Addr.add; split <;> simp_all
theorem add_block (a : Addr) (j : Nat) : (a.add j).block = a.block := by unfold Addr.add; split <;> rfl
theorem Blk.cells {w : World} {b : Nat} {e : TypeId} {cs : List Value} (h : Blk w b e cs) : Cells w ⟨b, 0, none⟩ cs := by
 intro j v hv
 rw [add_lit]
 simp only [World.cell?, show w.heap[b]? = _ from h]
 simpa using hv
theorem Cells.sub {w : World} {a : Addr} {cs : List Value} (h : Cells w a cs) (off : Nat) (cs' : List Value) (he : ∀ j v, cs'[j]? = some v → cs[off + j]? = some v) : Cells w (a.add off) cs' :=
 fun j v hv => by rw [add_add]; exact h _ _ (he j v hv)
theorem Cells.mid' {w : World} {b o : Nat} {pre cs post all : List Value} {off : Nat} (h : Cells w ⟨b, o, none⟩ all) (hl : pre.length = off) (he : all = pre ++ (cs ++ post)) : Cells w ⟨b, o + off, none⟩ cs := by
 subst he; subst hl
 rw [← add_lit]
 refine h.sub _ _ fun j v hv => ?_
 rw [List.getElem?_append_right (by omega), Nat.add_sub_cancel_left, List.getElem?_append_left (List.getElem?_eq_some_iff.1 hv).1]; exact hv
theorem Cells.mid {w : World} {b o : Nat} {pre cs post all : List Value} {off : Nat} (h : Cells w ⟨b, o, none⟩ all) (he : all = pre ++ (cs ++ post)) (hl : pre.length = off := by rfl) : Cells w ⟨b, o + off, none⟩ cs := h.mid' hl he
theorem Cells.eq {w : World} {a a' : Addr} {cs : List Value} (h : Cells w a cs) (he : a = a') : Cells w a' cs := he ▸ h
/-! ### Loads -/
def LoadsTo (P : Program) (w : World) (t : TypeId) (p : Addr) (v : Value) : Prop := (loadVar t p).run P w = .ok v w
theorem loads1 {P : Program} {w : World} {t : TypeId} {p : Addr} {v : Value} (ha : pureSem P (isAgg t) = some false) (hc : w.cell? p = some v) : LoadsTo P w t p v := by
 unfold LoadsTo loadVar
 rw [Sem.run_bind, pureSem_run ha]
 simp [load, Sem.run, hc]
theorem loads_at {P : Program} {w : World} {t : TypeId} {b o : Nat} {cs : List Value} (j : Nat) {v : Value} (h : Cells w ⟨b, o, none⟩ cs) (ha : pureSem P (isAgg t) = some false) (hv : cs[j]? = some v) : LoadsTo P w t ⟨b, o + j, none⟩ v :=
 loads1 ha (by rw [← add_lit]; exact h j v hv)
theorem run_loadFrom {P : Program} {w : World} {a : Addr} (cs : List Value) : ∀ (i : Nat) (acc : Array Value), (∀ j v, cs[j]? = some v → w.cell? (a.add (i + j)) = some v) → (loadCellsFrom a i cs.length acc).run P w = .ok (acc ++ cs.toArray) w := by
  induction cs with
  | nil => intro i acc _; simp [loadCellsFrom, Sem.run_pure]
  | cons v cs ih =>
    intro i acc h
    have h0 := h 0 v rfl
    simp only [Nat.add_zero] at h0
    have h1 := ih (i + 1) (acc.push v) (fun j u hu => by have := h (j + 1) u (by simpa using hu); rwa [show i + 1 + j = i + (j + 1) from by omega])
    simp only [List.length_cons, loadCellsFrom, load, Sem.run_bind]
    simp only [Sem.run, h0, Result.andThen_ok, h1]
    simp
theorem run_loadCells {P : Program} {w : World} {a : Addr} {cs : List Value} {n : Nat} (h : Cells w a cs) (hn : n = cs.length) : (loadCells a n).run P w = .ok cs.toArray w := by
 subst hn
 unfold loadCells
 rw [run_loadFrom cs 0 #[] (fun j v hv => by rw [Nat.zero_add]; exact h j v hv)]
 simp
theorem loads_agg {P : Program} {w : World} {t : TypeId} {a : Addr} {cs : List Value} (h : Cells w a cs) (ha : pureSem P (isAgg t) = some true) (hs : pureSem P (sizeOf t) = some cs.length) : LoadsTo P w t a (.agg cs.toArray) := by
 unfold LoadsTo loadVar
 rw [Sem.run_bind, pureSem_run ha]
 simp only [Result.andThen_ok, if_true, Sem.run_bind, pureSem_run hs, run_loadCells h rfl, Sem.run_pure]
def over (cs : List Value) : Nat → List Value → List Value
 | _, [] => cs
 | i, v :: vs => over (cs.set i v) (i + 1) vs
theorem over_len (vs : List Value) : ∀ (cs : List Value) (i : Nat), (over cs i vs).length = cs.length := by
 induction vs with
 | nil => intro cs i; rfl
 | cons v vs ih => intro cs i; simp [over, ih]
theorem over_eq (vs : List Value) : ∀ (cs : List Value) (o : Nat), o + vs.length ≤ cs.length → over cs o vs = cs.take o ++ (vs ++ cs.drop (o + vs.length)) := by
  induction vs with
  | nil => intro cs o h; simp [over]
  | cons v vs ih =>
    intro cs o h
    simp only [List.length_cons] at h
    simp only [over]
    rw [ih (cs.set o v) (o + 1) (by simp; omega)]
    have h1 : (cs.set o v).take (o + 1) = cs.take o ++ [v] := by
      rw [List.take_add_one, List.take_set_of_le (Nat.le_refl o), List.getElem?_set_self (by omega)]; rfl
    have h2 : (cs.set o v).drop (o + 1 + vs.length) = cs.drop (o + (vs.length + 1)) := by
      rw [List.drop_set_of_lt (by omega)]; congr 1; omega
    rw [h1, h2]
    simp
theorem over_mid {pre old vs post : List Value} (h : old.length = vs.length) : over (pre ++ (old ++ post)) pre.length vs = pre ++ (vs ++ post) := by
 rw [over_eq _ _ _ (by simp; omega)]
 simp [List.take_append, List.drop_append, ← h]
theorem over_mid' {pre old vs post all : List Value} {o : Nat} (he : all = pre ++ (old ++ post)) (ho : pre.length = o) (h : old.length = vs.length) : over all o vs = pre ++ (vs ++ post) := by subst he; subst ho; exact over_mid h
theorem over_all {cs vs : List Value} (h : cs.length = vs.length) : over cs 0 vs = vs := by
 have := over_mid (pre := []) (old := cs) (vs := vs) (post := []) h
 simpa using this
theorem Blk.store1 {w : World} {b : Nat} {e : TypeId} {cs : List Value} (h : Blk w b e cs) (j : Nat) (v : Value) : Blk (w.setCell ⟨b, j, none⟩ v) b e (cs.set j v) := by
 unfold Blk at *
 simp only [World.setCell]
 rw [Array.getElem?_modify, if_pos rfl, h]
 simp
theorem fr_setCell (w : World) (b j : Nat) (v : Value) : FrP (· = b) w (w.setCell ⟨b, j, none⟩ v) :=
 ⟨rfl, rfl, rfl, by simp [World.setCell], fun k hk hb => by rw [Below.heap_setCell _ _ _ _ (by simpa using hb)], Nat.le_refl _⟩
theorem run_storeCells {P : Program} {b : Nat} {e : TypeId} (vs : List Value) : ∀ {w : World} {cs : List Value} {o : Nat} (i : Nat), Blk w b e cs → o + i + vs.length ≤ cs.length → (∀ v ∈ vs, v.oneCell' = true) →
    ∃ w', (storeCells ⟨b, o, none⟩ vs i).run P w = .ok () w' ∧ Blk w' b e (over cs (o + i) vs) ∧ FrP (· = b) w w' := by
  induction vs with
  | nil => intro w cs o i h _ _; exact ⟨w, by simp [storeCells, Sem.run_pure], h, FrP.refl _ _⟩
  | cons v vs ih =>
    intro w cs o i h hl h1
    have hv : v.oneCell' = true := h1 v (by simp)
    have hc : (w.cell? ⟨b, o + i, none⟩).isSome := by
      simp only [World.cell?, show w.heap[b]? = _ from h]
      have : o + i < cs.length := by simp at hl; omega
      simp [List.getElem?_eq_getElem this]
    obtain ⟨u, hu⟩ := Option.isSome_iff_exists.1 hc
    have hfz : w.frozen? ⟨b, o + i, none⟩ = false := by simp [World.frozen?, show w.heap[b]? = _ from h]
    obtain ⟨w', hr, hb, hf⟩ := ih (o := o) (i + 1) (h.store1 (o + i) v) (by simp at hl ⊢; omega) (fun x hx => h1 x (by simp [hx]))
    refine ⟨w', ?_, ?_, ?_⟩
    · simp only [storeCells, store, Sem.run_bind, add_lit]
      have : (Sem.store .plain ⟨b, o + i, none⟩ v (.pure ())).run P w = .ok () (w.setCell ⟨b, o + i, none⟩ v) := by
        cases v <;> simp_all [Sem.run, Value.oneCell']
      rw [this]
      exact hr
    · simpa [over, Nat.add_assoc] using hb
    · exact ((FrP.refl (· = b) w).step (fr_setCell w b (o + i) v) (fun _ h => .inl h)).step hf (fun _ h => .inl h)
def StoresTo (P : Program) (w : World) (t : TypeId) (p : Addr) (v : Value) (w' : World) : Prop := (storeVar t p v).run P w = .ok () w'
theorem stores {P : Program} {w : World} {t : TypeId} {b o : Nat} {e : TypeId} {cs : List Value} {v : Value} {vs : List Value} (h : Blk w b e cs) (hv : v.cells = vs.toArray) (hs : pureSem P (sizeOf t) = some vs.length)
  (h1 : vs.all Value.oneCell' = true) (hl : o + vs.length ≤ cs.length) : ∃ w', StoresTo P w t ⟨b, o, none⟩ v w' ∧ Blk w' b e (over cs o vs) ∧ FrP (· = b) w w' := by
 obtain ⟨w', hr, hb, hf⟩ := run_storeCells (P := P) (o := o) vs 0 h (by omega) (by simpa using h1)
 refine ⟨w', ?_, hb, hf⟩
 unfold StoresTo storeVar
 rw [Sem.run_bind, pureSem_run hs]
 simp only [Result.andThen_ok, hv, List.size_toArray, ne_eq, not_true, if_false]
 simpa using hr
structure Zm where
 cell : Nat → Nat → Value → Prop
 blk : Nat → Obj → Prop
 mono : Prop
structure Zm.Le (Z Z' : Zm) : Prop where
 cell : ∀ b o v, Z.cell b o v → Z'.cell b o v
 blk : ∀ b x, Z.blk b x → Z'.blk b x
 mono : Z'.mono ↔ Z.mono
theorem Zm.Le.refl (Z : Zm) : Zm.Le Z Z := ⟨fun _ _ _ h => h, fun _ _ h => h, Iff.rfl⟩
theorem Zm.Le.trans {X Y Z : Zm} (h : Zm.Le X Y) (k : Zm.Le Y Z) : Zm.Le X Z := ⟨fun _ _ _ a => k.cell _ _ _ (h.cell _ _ _ a), fun _ _ a => k.blk _ _ (h.blk _ _ a), k.mono.trans h.mono⟩
structure XObj where
 own : Nat → Prop
 keeps : Nat → Nat → Prop
 holds : World → Prop
 stable : ∀ {w w' : World}, (∀ b, own b → w'.heap[b]? = w.heap[b]?) → holds w → holds w'
 there : ∀ {w : World} {b : Nat}, holds w → own b → b < w.heap.size
structure St (w0 : World) (Z : Zm) (xs : List XObj) (w : World) : Prop where
 fr : FrB0 w0 w
 dr : Z.mono → w0.drawn ≤ w.drawn
 zc : ∀ b o v, Z.cell b o v → w.cell? ⟨b, o, none⟩ = some v
 zb : ∀ b x, Z.blk b x → w.heap[b]? = some x
 ob : ∀ X ∈ xs, X.holds w
 new : ∀ X ∈ xs, ∀ b, X.own b → w0.heap.size ≤ b
 ap : xs.Pairwise fun X Y => ∀ b, X.own b → ¬ Y.own b
 zx : ∀ X ∈ xs, ∀ b o v, Z.cell b o v → X.own b → X.keeps b o
 zy : ∀ X ∈ xs, ∀ b x, Z.blk b x → ¬ X.own b
section
variable {w0 w w' : World} {Z Z' : Zm} {X X' Y : XObj} {xs ys : List XObj}
theorem World.cell_of_blk {w w' : World} {b o : Nat} (h : w'.heap[b]? = w.heap[b]?) : w'.cell? ⟨b, o, none⟩ = w.cell? ⟨b, o, none⟩ := by
 unfold World.cell?; rw [h]
theorem cell_lt {w : World} {b o : Nat} {v : Value} (h : w.cell? ⟨b, o, none⟩ = some v) : b < w.heap.size := World.block_lt_of_cell? w _ h
theorem heap_lt {w : World} {b : Nat} {x : Obj} (h : w.heap[b]? = some x) : b < w.heap.size := (Array.getElem?_eq_some_iff.1 h).1
theorem St.perm (h : St w0 Z xs w) (hp : xs.Perm ys) : St w0 Z ys w :=
 ⟨h.fr, h.dr, h.zc, h.zb, fun X hX => h.ob X (hp.mem_iff.2 hX), fun X hX => h.new X (hp.mem_iff.2 hX),
  (hp.pairwise_iff (fun {X Y} h b hb => fun hc => h b hc hb)).1 h.ap, fun X hX => h.zx X (hp.mem_iff.2 hX), fun X hX => h.zy X (hp.mem_iff.2 hX)⟩
theorem St.pick1 {a b : XObj} (h : St w0 Z (a :: b :: xs) w) : St w0 Z (b :: a :: xs) w := h.perm (.swap _ _ _)
theorem St.pick2 {a b c : XObj} (h : St w0 Z (a :: b :: c :: xs) w) : St w0 Z (c :: a :: b :: xs) w := h.perm ((List.Perm.cons a (.swap _ _ _)).trans (.swap _ _ _))
theorem St.pick3 {a b c d : XObj} (h : St w0 Z (a :: b :: c :: d :: xs) w) : St w0 Z (d :: a :: b :: c :: xs) w := (h.perm (List.Perm.cons a (List.Perm.cons b (.swap _ _ _)))).pick2
theorem St.pick4 {a b c d e : XObj} (h : St w0 Z (a :: b :: c :: d :: e :: xs) w) : St w0 Z (e :: a :: b :: c :: d :: xs) w := (h.perm (List.Perm.cons a (List.Perm.cons b (List.Perm.cons c (.swap _ _ _))))).pick3
theorem St.pick5 {a b c d e f : XObj} (h : St w0 Z (a :: b :: c :: d :: e :: f :: xs) w) : St w0 Z (f :: a :: b :: c :: d :: e :: xs) w := (h.perm (List.Perm.cons a (List.Perm.cons b (List.Perm.cons c (List.Perm.cons d (.swap _ _ _)))))).pick4
theorem St.pick6 {a b c d e f g : XObj} (h : St w0 Z (a :: b :: c :: d :: e :: f :: g :: xs) w) : St w0 Z (g :: a :: b :: c :: d :: e :: f :: xs) w :=
 (h.perm (List.Perm.cons a (List.Perm.cons b (List.Perm.cons c (List.Perm.cons d (List.Perm.cons e (.swap _ _ _))))))).pick5
theorem St.pick7 {a b c d e f g i : XObj} (h : St w0 Z (a :: b :: c :: d :: e :: f :: g :: i :: xs) w) : St w0 Z (i :: a :: b :: c :: d :: e :: f :: g :: xs) w :=
 (h.perm (List.Perm.cons a (List.Perm.cons b (List.Perm.cons c (List.Perm.cons d (List.Perm.cons e (List.Perm.cons f (.swap _ _ _)))))))).pick6
theorem St.pick8 {a b c d e f g i j : XObj} (h : St w0 Z (a :: b :: c :: d :: e :: f :: g :: i :: j :: xs) w) : St w0 Z (j :: a :: b :: c :: d :: e :: f :: g :: i :: xs) w :=
 (h.perm (List.Perm.cons a (List.Perm.cons b (List.Perm.cons c (List.Perm.cons d (List.Perm.cons e (List.Perm.cons f (List.Perm.cons g (.swap _ _ _))))))))).pick7
theorem St.pick9 {a b c d e f g i j k : XObj} (h : St w0 Z (a :: b :: c :: d :: e :: f :: g :: i :: j :: k :: xs) w) : St w0 Z (k :: a :: b :: c :: d :: e :: f :: g :: i :: j :: xs) w :=
 (h.perm (List.Perm.cons a (List.Perm.cons b (List.Perm.cons c (List.Perm.cons d (List.Perm.cons e (List.Perm.cons f (List.Perm.cons g (List.Perm.cons i (.swap _ _ _)))))))))).pick8
theorem St.pick10 {x0 x1 x2 x3 x4 x5 x6 x7 x8 x9 x10 : XObj} (h : St w0 Z (x0 :: x1 :: x2 :: x3 :: x4 :: x5 :: x6 :: x7 :: x8 :: x9 :: x10 :: xs) w) : St w0 Z (x10 :: x0 :: x1 :: x2 :: x3 :: x4 :: x5 :: x6 :: x7 :: x8 :: x9 :: xs) w :=
 (h.perm (List.Perm.cons x0 (List.Perm.cons x1 (List.Perm.cons x2 (List.Perm.cons x3 (List.Perm.cons x4 (List.Perm.cons x5 (List.Perm.cons x6 (List.Perm.cons x7 (List.Perm.cons x8 (.swap _ _ _))))))))))).pick9
theorem St.pick11 {x0 x1 x2 x3 x4 x5 x6 x7 x8 x9 x10 x11 : XObj} (h : St w0 Z (x0 :: x1 :: x2 :: x3 :: x4 :: x5 :: x6 :: x7 :: x8 :: x9 :: x10 :: x11 :: xs) w) : St w0 Z (x11 :: x0 :: x1 :: x2 :: x3 :: x4 :: x5 :: x6 :: x7 :: x8 :: x9 :: x10 :: xs) w :=
 (h.perm (List.Perm.cons x0 (List.Perm.cons x1 (List.Perm.cons x2 (List.Perm.cons x3 (List.Perm.cons x4 (List.Perm.cons x5 (List.Perm.cons x6 (List.Perm.cons x7 (List.Perm.cons x8 (List.Perm.cons x9 (.swap _ _ _)))))))))))).pick10
theorem St.pick12 {x0 x1 x2 x3 x4 x5 x6 x7 x8 x9 x10 x11 x12 : XObj} (h : St w0 Z (x0 :: x1 :: x2 :: x3 :: x4 :: x5 :: x6 :: x7 :: x8 :: x9 :: x10 :: x11 :: x12 :: xs) w) : St w0 Z (x12 :: x0 :: x1 :: x2 :: x3 :: x4 :: x5 :: x6 :: x7 :: x8 :: x9 :: x10 :: x11 :: xs) w :=
 (h.perm (List.Perm.cons x0 (List.Perm.cons x1 (List.Perm.cons x2 (List.Perm.cons x3 (List.Perm.cons x4 (List.Perm.cons x5 (List.Perm.cons x6 (List.Perm.cons x7 (List.Perm.cons x8 (List.Perm.cons x9 (List.Perm.cons x10 (.swap _ _ _))))))))))))).pick11
theorem St.pick13 {x0 x1 x2 x3 x4 x5 x6 x7 x8 x9 x10 x11 x12 x13 : XObj} (h : St w0 Z (x0 :: x1 :: x2 :: x3 :: x4 :: x5 :: x6 :: x7 :: x8 :: x9 :: x10 :: x11 :: x12 :: x13 :: xs) w) : St w0 Z (x13 :: x0 :: x1 :: x2 :: x3 :: x4 :: x5 :: x6 :: x7 :: x8 :: x9 :: x10 :: x11 :: x12 :: xs) w :=
 (h.perm (List.Perm.cons x0 (List.Perm.cons x1 (List.Perm.cons x2 (List.Perm.cons x3 (List.Perm.cons x4 (List.Perm.cons x5 (List.Perm.cons x6 (List.Perm.cons x7 (List.Perm.cons x8 (List.Perm.cons x9 (List.Perm.cons x10 (List.Perm.cons x11 (.swap _ _ _)))))))))))))).pick12
theorem St.pick14 {x0 x1 x2 x3 x4 x5 x6 x7 x8 x9 x10 x11 x12 x13 x14 : XObj} (h : St w0 Z (x0 :: x1 :: x2 :: x3 :: x4 :: x5 :: x6 :: x7 :: x8 :: x9 :: x10 :: x11 :: x12 :: x13 :: x14 :: xs) w) : St w0 Z (x14 :: x0 :: x1 :: x2 :: x3 :: x4 :: x5 :: x6 :: x7 :: x8 :: x9 :: x10 :: x11 :: x12 :: x13 :: xs) w :=
 (h.perm (List.Perm.cons x0 (List.Perm.cons x1 (List.Perm.cons x2 (List.Perm.cons x3 (List.Perm.cons x4 (List.Perm.cons x5 (List.Perm.cons x6 (List.Perm.cons x7 (List.Perm.cons x8 (List.Perm.cons x9 (List.Perm.cons x10 (List.Perm.cons x11 (List.Perm.cons x12 (.swap _ _ _))))))))))))))).pick13
theorem St.drop (h : St w0 Z (X :: xs) w) : St w0 Z xs w :=
 ⟨h.fr, h.dr, h.zc, h.zb, fun Y hY => h.ob Y (by simp [hY]), fun Y hY => h.new Y (by simp [hY]), (List.pairwise_cons.1 h.ap).2, fun Y hY => h.zx Y (by simp [hY]), fun Y hY => h.zy Y (by simp [hY])⟩
theorem St.hd (h : St w0 Z (X :: xs) w) : X.holds w := h.ob X (by simp)
def nth : List XObj → Nat → Option XObj
 | [], _ => none
 | X :: _, 0 => some X
 | _ :: xs, n + 1 => nth xs n
theorem nth_mem : ∀ {xs : List XObj} {k : Nat}, nth xs k = some X → X ∈ xs
 | [], _, h => by simp [nth] at h
 | Y :: ys, 0, h => by simp only [nth, Option.some.injEq] at h; subst h; simp
 | Y :: ys, k + 1, h => by simp only [nth] at h; exact List.mem_cons_of_mem _ (nth_mem h)
theorem St.at (k : Nat) (h : St w0 Z xs w) (hk : nth xs k = some X) : X.holds w := h.ob X (nth_mem hk)
theorem St.extD (h : St w0 Z xs w) (hf : FrB0 w w') (hd : Z.mono → w.drawn ≤ w'.drawn) : St w0 Z xs w' := by
 have hb : ∀ b, b < w.heap.size → w'.heap[b]? = w.heap[b]? := fun b hb => hf.block b hb (fun f => f)
 refine ⟨h.fr.step hf (fun _ f => f.elim), fun m => Nat.le_trans (h.dr m) (hd m), fun b o v hz => ?_, fun b x hz => ?_, fun X hX => ?_, h.new, h.ap, h.zx, h.zy⟩
 ·have := h.zc b o v hz
  rw [World.cell_of_blk (hb b (cell_lt this))]; exact this
 ·have := h.zb b x hz
  rw [hb b (heap_lt this)]; exact this
 ·exact X.stable (fun b hw => hb b (X.there (h.ob X hX) hw)) (h.ob X hX)
theorem St.ext (h : St w0 Z xs w) (hf : Fr0 w w') : St w0 Z xs w' := h.extD hf.b (fun _ => hf.drawn)
theorem St.drew (h : St w0 Z xs w) : St w0 Z xs w.drew := h.ext (fr_drew w)
theorem St.turnD (h : St w0 Z (X :: xs) w) (hf : FrB X.own w w') (hd : Z.mono → w.drawn ≤ w'.drawn) (hX : X'.holds w') (ho : ∀ b, X'.own b → X.own b ∨ w.heap.size ≤ b) (hz : ∀ b o v, X.own b → X.keeps b o → w.cell? ⟨b, o, none⟩ = some v → w'.cell? ⟨b, o, none⟩ = some v)
  (hk : ∀ b o, X.own b → X'.own b → X.keeps b o → X'.keeps b o) : St w0 Z (X' :: xs) w' := by
 have hap := (List.pairwise_cons.1 h.ap)
 have hold : ∀ Y ∈ xs, ∀ b, Y.own b → w'.heap[b]? = w.heap[b]? := fun Y hY b hb => hf.block b (Y.there (h.ob Y (by simp [hY])) hb) (fun hx => hap.1 Y hY b hx hb)
 have hnew : ∀ b, X.own b → w0.heap.size ≤ b := h.new X (by simp)
 refine ⟨h.fr.step hf (fun b hb => .inr (hnew b hb)), fun m => Nat.le_trans (h.dr m) (hd m), fun b o v hzc => ?_, fun b x hzb => ?_, ?_, ?_, ?_, ?_, ?_⟩
 ·have hc := h.zc b o v hzc
  by_cases hb : X.own b
  ·exact hz b o v hb (h.zx X (by simp) b o v hzc hb) hc
  ·rw [World.cell_of_blk (hf.block b (cell_lt hc) hb)]; exact hc
 ·have hc := h.zb b x hzb
  rw [hf.block b (heap_lt hc) (h.zy X (by simp) b x hzb)]; exact hc
 ·intro Y hY
  rcases List.mem_cons.1 hY with rfl | hY
  ·exact hX
  ·exact Y.stable (hold Y hY) (h.ob Y (by simp [hY]))
 ·intro Y hY b hb
  rcases List.mem_cons.1 hY with rfl | hY
  ·rcases ho b hb with h1 | h1
   ·exact hnew b h1
   ·exact Nat.le_trans h.fr.size h1
  ·exact h.new Y (by simp [hY]) b hb
 ·refine List.pairwise_cons.2 ⟨fun Y hY b hb hY' => ?_, hap.2⟩
  rcases ho b hb with h1 | h1
  ·exact hap.1 Y hY b h1 hY'
  ·have := Y.there (h.ob Y (by simp [hY])) hY'; omega
 ·intro Y hY b o v hzc hb
  rcases List.mem_cons.1 hY with rfl | hY
  ·rcases ho b hb with h1 | h1
   ·exact hk b o h1 hb (h.zx X (by simp) b o v hzc h1)
   ·have := cell_lt (h.zc b o v hzc); omega
  ·exact h.zx Y (by simp [hY]) b o v hzc hb
 ·intro Y hY b x hzb hb
  rcases List.mem_cons.1 hY with rfl | hY
  ·rcases ho b hb with h1 | h1
   ·exact h.zy X (by simp) b x hzb h1
   ·have := heap_lt (h.zb b x hzb); omega
  ·exact h.zy Y (by simp [hY]) b x hzb hb
theorem St.turn (h : St w0 Z (X :: xs) w) (hf : FrP X.own w w') (hX : X'.holds w') (ho : ∀ b, X'.own b → X.own b ∨ w.heap.size ≤ b) (hz : ∀ b o v, X.own b → X.keeps b o → w.cell? ⟨b, o, none⟩ = some v → w'.cell? ⟨b, o, none⟩ = some v)
  (hk : ∀ b o, X.own b → X'.own b → X.keeps b o → X'.keeps b o) : St w0 Z (X' :: xs) w' := h.turnD hf.b (fun _ => hf.drawn) hX ho hz hk
theorem St.add (h : St w0 Z xs w) (hf : Fr0 w w') (hX : X.holds w') (ho : ∀ b, X.own b → w.heap.size ≤ b) : St w0 Z (X :: xs) w' := by
 have h' := h.ext hf
 refine ⟨h'.fr, h'.dr, h'.zc, h'.zb, ?_, ?_, ?_, ?_, ?_⟩
 ·intro Y hY
  rcases List.mem_cons.1 hY with rfl | hY
  ·exact hX
  ·exact h'.ob Y hY
 ·intro Y hY b hb
  rcases List.mem_cons.1 hY with rfl | hY
  ·exact Nat.le_trans h.fr.size (ho b hb)
  ·exact h.new Y hY b hb
 ·refine List.pairwise_cons.2 ⟨fun Y hY b hb hY' => ?_, h.ap⟩
  have := Y.there (h.ob Y hY) hY'; have := ho b hb; omega
 ·intro Y hY b o v hzc hb
  rcases List.mem_cons.1 hY with rfl | hY
  ·have := cell_lt (h.zc b o v hzc); have := ho b hb; omega
  ·exact h.zx Y hY b o v hzc hb
 ·intro Y hY b x hzb hb
  rcases List.mem_cons.1 hY with rfl | hY
  ·have := heap_lt (h.zb b x hzb); have := ho b hb; omega
  ·exact h.zy Y hY b x hzb hb
/-! ### Objects that stay as they are, for a while or for good -/
def Zm.with (Z : Zm) (X : XObj) (w : World) : Zm := ⟨fun b o v => Z.cell b o v ∨ X.own b ∧ w.cell? ⟨b, o, none⟩ = some v, fun b x => Z.blk b x ∨ X.own b ∧ w.heap[b]? = some x, Z.mono⟩
theorem Zm.le_with (Z : Zm) (X : XObj) (w : World) : Zm.Le Z (Z.with X w) := ⟨fun _ _ _ h => .inl h, fun _ _ h => .inl h, Iff.rfl⟩
theorem St.lend (h : St w0 Z (X :: xs) w) : St w0 (Z.with X w) xs w := by
 have hd := h.drop
 have hap := (List.pairwise_cons.1 h.ap)
 refine ⟨hd.fr, hd.dr, ?_, ?_, hd.ob, hd.new, hd.ap, ?_, ?_⟩
 ·rintro b o v (hz | ⟨_, hz⟩)
  ·exact h.zc b o v hz
  ·exact hz
 ·rintro b x (hz | ⟨_, hz⟩)
  ·exact h.zb b x hz
  ·exact hz
 ·rintro Y hY b o v (hz | ⟨hb, _⟩) hy
  ·exact hd.zx Y hY b o v hz hy
  ·exact absurd hy (hap.1 Y hY b hb)
 ·rintro Y hY b x (hz | ⟨hb, _⟩) hy
  ·exact hd.zy Y hY b x hz hy
  ·exact hap.1 Y hY b hb hy
theorem St.back (h : St w0 Z (X :: xs) w) (k : St w0 (Z.with X w) ys w') : St w0 Z (X :: ys) w' := by
 have hX := h.hd
 have hb : ∀ b, X.own b → w'.heap[b]? = w.heap[b]? := by
  intro b hb
  have hl := X.there hX hb
  have hg : w.heap[b]? = some w.heap[b] := Array.getElem?_eq_getElem hl
  rw [hg]; exact k.zb b _ (.inr ⟨hb, hg⟩)
 refine ⟨k.fr, k.dr, fun b o v hz => k.zc b o v (.inl hz), fun b x hz => k.zb b x (.inl hz), ?_, ?_, ?_, ?_, ?_⟩
 ·intro Y hY
  rcases List.mem_cons.1 hY with rfl | hY
  ·exact Y.stable hb hX
  ·exact k.ob Y hY
 ·intro Y hY
  rcases List.mem_cons.1 hY with rfl | hY
  ·exact h.new Y (by simp)
  ·exact k.new Y hY
 ·refine List.pairwise_cons.2 ⟨fun Y hY b hb hY' => ?_, k.ap⟩
  have hl := X.there hX hb
  exact k.zy Y hY b _ (.inr ⟨hb, Array.getElem?_eq_getElem hl⟩) hY'
 ·intro Y hY b o v hz hc
  rcases List.mem_cons.1 hY with rfl | hY
  ·exact h.zx Y (by simp) b o v hz hc
  ·exact k.zx Y hY b o v (.inl hz) hc
 ·intro Y hY b x hz hc
  rcases List.mem_cons.1 hY with rfl | hY
  ·exact h.zy Y (by simp) b x hz hc
  ·exact k.zy Y hY b x (.inl hz) hc
def ZC (Z : Zm) (b o : Nat) (cs : List Value) : Prop := ∀ j v, cs[j]? = some v → Z.cell b (o + j) v
theorem ZC.mono {b o : Nat} {cs : List Value} (h : ZC Z b o cs) (hz : Zm.Le Z Z') : ZC Z' b o cs := fun j v hv => hz.cell _ _ _ (h j v hv)
theorem ZC.cells {b o : Nat} {cs : List Value} (h : ZC Z b o cs) (hS : St w0 Z xs w) : Cells w ⟨b, o, none⟩ cs := fun j v hv => by rw [add_lit]; exact hS.zc _ _ _ (h j v hv)
theorem ZC.mid' {b o off : Nat} {pre cs post all : List Value} (h : ZC Z b o all) (hl : pre.length = off) (he : all = pre ++ (cs ++ post)) : ZC Z b (o + off) cs := by
 subst he; subst hl
 intro j v hv
 rw [Nat.add_assoc]
 refine h _ _ ?_
 rw [List.getElem?_append_right (by omega), Nat.add_sub_cancel_left, List.getElem?_append_left (List.getElem?_eq_some_iff.1 hv).1]; exact hv
theorem ZC.eq {b o o' : Nat} {cs : List Value} (h : ZC Z b o cs) (he : o = o') : ZC Z b o' cs := he ▸ h
/-! ### A block -/
def xblk (b : Nat) (e : TypeId) (cs : List Value) : XObj where
 own := (· = b)
 keeps := fun _ _ => False
 holds := fun w => Blk w b e cs
 stable := fun hb h => (hb b rfl).trans h
 there := fun h hb => by subst hb; exact Blk.lt h
theorem St.blk {b : Nat} {e : TypeId} {cs : List Value} (k : Nat) (h : St w0 Z xs w) (hk : nth xs k = some (xblk b e cs)) : Cells w ⟨b, 0, none⟩ cs := Blk.cells (h.at k hk)
theorem St.newblk {b : Nat} {e : TypeId} {cs : List Value} (h : St w0 Z xs w) (hn : New w w' b (.cells cs.toArray e (0, 0))) : St w0 Z (xblk b e cs :: xs) w' :=
 h.add hn.fr hn.blk (fun k hk => by have := hn.num; rw [show k = b from hk]; omega)
theorem St.setblk {b : Nat} {e : TypeId} {cs cs' : List Value} (h : St w0 Z (xblk b e cs :: xs) w) (hf : FrP (· = b) w w') (hb : Blk w' b e cs') : St w0 Z (xblk b e cs' :: xs) w' :=
 h.turn (X' := xblk b e cs') hf hb (fun _ h => .inl h) (fun _ _ _ _ h => h.elim) (fun _ _ _ _ h => h.elim)
theorem St.eqblk {b : Nat} {e : TypeId} {cs cs' : List Value} (h : St w0 Z (xblk b e cs :: xs) w) (he : cs = cs') : St w0 Z (xblk b e cs' :: xs) w := he ▸ h
theorem zc_blk {b : Nat} {e : TypeId} {cs : List Value} (h : St w0 Z (xblk b e cs :: xs) w) : ZC (Z.with (xblk b e cs) w) b 0 cs := by
 intro j v hv
 have := Blk.cells (show Blk w b e cs from h.hd) j v hv
 rw [add_lit] at this
 exact .inr ⟨rfl, this⟩
end
end Go.Proofs.YtcjaknnihjcajaaGreat.K
