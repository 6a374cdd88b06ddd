/- The engine's memory: what is known of blocks, rows and slices, and one rule for each kind of operation. No program, no Go text. -/
import Derived.Test.YteppciglfdiljaaK0
import Derived.Laws.OwnMore
import Derived.Laws.MakeOwn
set_option linter.unusedVariables false
set_option linter.unusedSimpArgs false
namespace Go.Proofs.Yteppciglfdiljaa.K
open Go Go.RowKit

/-! ### Code, by its place in a function -/
def sub : Code → List Nat → Code
  | c, [] => c
  | .seq a b, p :: ps => match p with | 0 => sub a ps | _ => sub b ps
  | .cond _ a b, p :: ps => match p with | 0 => sub a ps | _ => sub b ps
  | .block _ c, _ :: ps => sub c ps
  | .loop c, _ :: ps => sub c ps
  | .scope c, _ :: ps => sub c ps
  | .rangeFunc _ _ a b, p :: ps => match p with | 0 => sub a ps | _ => sub b ps
  | c, _ => c
def bodyOf (fn : Func) : Code := match fn.body with | some c => c | none => .skip
def opsOf : Code → Array Oper
  | .region _ o _ => o
  | _ => #[]
def opI (c : Code) (i : Nat) : Option (Option Tmp × Op × TypeId) := match (opsOf c)[i]? with | some o => some (o.dst, o.op, o.type) | none => none
def wantI (c : Code) (l : List Value) (i : Nat) : Bool := match (opsOf c)[i]? with | some o => wantedL (opsOf c) l o | none => false
theorem opI_spec {c : Code} {i : Nat} {d : Option Tmp} {op : Op} {ty : TypeId} (h : opI c i = some (d, op, ty)) : ∃ o : Oper, (opsOf c)[i]? = some o ∧ o.dst = d ∧ o.op = op ∧ o.type = ty := by
  unfold opI at h
  split at h
  · rename_i o ho; simp only [Option.some.injEq, Prod.mk.injEq] at h; exact ⟨o, ho, h.1, h.2.1, h.2.2⟩
  · cases h
theorem wantI_spec {c : Code} {l : List Value} {i : Nat} {o : Oper} {t : Bool} (ho : (opsOf c)[i]? = some o) (h : wantI c l i = t) : wantedL (opsOf c) l o = t := by
  unfold wantI at h; rw [ho] at h; exact h

/-! ### Worlds -/
/-- Of what was there nothing has turned but in the blocks S. -/
structure Fr (S : List Nat) (w w' : World) : Prop where
  os : w'.os = w.os
  tape : w'.tape = w.tape
  output : w'.output = w.output
  size : w.heap.size ≤ w'.heap.size
  block : ∀ k, k < w.heap.size → k ∉ S → w'.heap[k]? = w.heap[k]?
theorem Fr.refl (S : List Nat) (w : World) : Fr S w w := ⟨rfl, rfl, rfl, Nat.le_refl _, fun _ _ _ => rfl⟩
theorem Fr.of_ext {w w' : World} (h : Ext w w') : Fr [] w w' := ⟨h.os, h.tape, h.output, h.size, fun k hk _ => h.block k hk⟩
theorem Fr.ext {w w' : World} (h : Fr [] w w') : Ext w w' := ⟨h.os, h.tape, h.output, h.size, fun k hk => h.block k hk (by simp)⟩
theorem Fr.step {S T : List Nat} {w0 w w' : World} (h : Fr S w0 w) (k : Fr T w w') (ht : ∀ b, b ∈ T → b ∈ S ∨ w0.heap.size ≤ b) : Fr S w0 w' :=
  ⟨k.os.trans h.os, k.tape.trans h.tape, k.output.trans h.output, Nat.le_trans h.size k.size, fun i hi hS => by
    refine (k.block i (Nat.lt_of_lt_of_le hi h.size) (fun hT => ?_)).trans (h.block i hi hS)
    rcases ht i hT with h1 | h1
    · exact hS h1
    · omega⟩
theorem Fr.step0 {S : List Nat} {w0 w w' : World} (h : Fr S w0 w) (k : Fr [] w w') : Fr S w0 w' := h.step k (by simp)
theorem Fr.step1 {S : List Nat} {w0 w w' : World} {g : Nat} (h : Fr S w0 w) (k : Fr [g] w w') (ht : g ∈ S ∨ w0.heap.size ≤ g) : Fr S w0 w' := h.step k (by intro b hb; rw [List.mem_singleton] at hb; exact hb ▸ ht)
theorem Fr.grown {w w' : World} {row : Option Nat} (h : w.grownBy w' row) : Fr row.toList w w' := ⟨h.os, h.tape, h.output, h.size, fun k hk hS => h.block k hk (fun e => hS (by rw [← e]; simp))⟩

/-- A new block. -/
structure New (w w' : World) (b : Nat) (o : Obj) : Prop where
  fr : Fr [] w w'
  num : b = w.heap.size
  blk : w'.heap[b]? = some o
  size : w'.heap.size = b + 1
theorem new_alloc (w : World) (o : Obj) : New w { w with heap := w.heap.push o } w.heap.size o :=
  ⟨⟨rfl, rfl, rfl, by simp, fun k hk _ => by simp [Array.getElem?_push]; intro h; omega⟩, rfl, by simp, by simp⟩

/-- A block of cells that may be written. -/
def Blk (w : World) (b : Nat) (e : TypeId) (cs : List Value) : Prop := w.heap[b]? = some (.cells cs.toArray e (0, 0))
theorem Blk.lt {w : World} {b : Nat} {e : TypeId} {cs : List Value} (h : Blk w b e cs) : b < w.heap.size := (Array.getElem?_eq_some_iff.1 h).1
theorem Blk.fr {w w' : World} {b : Nat} {e : TypeId} {cs : List Value} {S : List Nat} (h : Blk w b e cs) (hf : Fr S w w') (hb : b ∉ S) : Blk w' b e cs := (hf.block b h.lt hb).trans h
theorem Blk.fr0 {w w' : World} {b : Nat} {e : TypeId} {cs : List Value} (h : Blk w b e cs) (hf : Fr [] w w') : Blk w' b e cs := h.fr hf (by simp)
theorem Blk.fr1 {w w' : World} {b g : Nat} {e : TypeId} {cs : List Value} (h : Blk w b e cs) (hf : Fr [g] w w') (hb : b ≠ g) : Blk w' b e cs := h.fr hf (by simpa using hb)

/-- From this place on these cells stand. -/
def Cells (w : World) (a : Addr) (cs : List Value) : Prop := ∀ j v, cs[j]? = some v → w.cell? (a.add j) = some v
theorem add_add (a : Addr) (m n : Nat) : (a.add m).add n = a.add (m + n) := by
  unfold Addr.add
  by_cases hn : n = 0
  · subst hn; simp
  · by_cases hm : m = 0
    · subst hm; simp [hn]
    · have : m + n ≠ 0 := by omega
      simp [hn, hm, this]; omega
theorem add_lit (b o j : Nat) : (⟨b, o, none⟩ : Addr).add j = ⟨b, o + j, none⟩ := by
  unfold Addr.add; split <;> simp_all
theorem add_block (a : Addr) (j : Nat) : (a.add j).block = a.block := by unfold Addr.add; split <;> rfl
theorem Blk.cells {w : World} {b : Nat} {e : TypeId} {cs : List Value} (h : Blk w b e cs) : Cells w ⟨b, 0, none⟩ cs := by
  intro j v hv
  rw [add_lit]
  simp only [World.cell?, show w.heap[b]? = _ from h]
  simpa using hv
theorem Cells.sub {w : World} {a : Addr} {cs : List Value} (h : Cells w a cs) (off : Nat) (cs' : List Value) (he : ∀ j v, cs'[j]? = some v → cs[off + j]? = some v) : Cells w (a.add off) cs' :=
  fun j v hv => by rw [add_add]; exact h _ _ (he j v hv)
theorem Cells.mid' {w : World} {a : Addr} {pre cs post all : List Value} {off : Nat} (h : Cells w a all) (hl : pre.length = off) (he : all = pre ++ (cs ++ post)) : Cells w (a.add off) cs := by
  subst he; subst hl
  refine h.sub _ _ fun j v hv => ?_
  rw [List.getElem?_append_right (by omega), Nat.add_sub_cancel_left, List.getElem?_append_left (List.getElem?_eq_some_iff.1 hv).1]; exact hv
theorem Cells.mid {w : World} {a : Addr} {pre cs post all : List Value} {off : Nat} (h : Cells w a all) (he : all = pre ++ (cs ++ post)) (hl : pre.length = off := by rfl) : Cells w (a.add off) cs := h.mid' hl he
theorem Cells.head {w : World} {a : Addr} {v : Value} {cs : List Value} (h : Cells w a (v :: cs)) : w.cell? a = some v := by have := h 0 v rfl; simpa [Addr.add] using this
theorem Cells.fr {w w' : World} {a : Addr} {cs : List Value} {S : List Nat} (h : Cells w a cs) (hf : Fr S w w') (hb : a.block ∉ S) : Cells w' a cs := by
  intro j v hv
  have h1 := h j v hv
  have hl := World.block_lt_of_cell? w _ h1
  rw [add_block] at hl
  have := hf.block a.block hl hb
  exact (World.cell?_of_block (w := w) (w' := w') (a := a.add j) (by rw [add_block]; exact this)).trans h1

theorem Cells.fr0 {w w' : World} {a : Addr} {cs : List Value} (h : Cells w a cs) (hf : Fr [] w w') : Cells w' a cs := h.fr hf (by simp)

/-! ### Slices -/
/-- The element's place in a slice. -/
def gt {α : Type} [Inhabited α] (xs : List α) (i : Int) : α := xs.getD i.toNat default

/-- Read as this list, from address A on. -/
structure SlR {α : Type} (enc : α → List Value) (sz : Nat) (w : World) (A : Option Addr) (xs : List α) : Prop where
  small : xs.length ≤ 9223372036854775807
  cells : ∀ i x, xs[i]? = some x → ∃ a, A = some a ∧ Cells w (a.add (i * sz)) (enc x)

section
variable {α : Type} {enc : α → List Value} {sz : Nat} {w w' : World} {A : Option Addr} {xs : List α}
theorem SlR.nil (enc : α → List Value) (sz : Nat) (w : World) (A : Option Addr) : SlR enc sz w A [] := ⟨by simp, by simp⟩
theorem gt_get [Inhabited α] {i : Int} (h0 : 0 ≤ i) (h1 : i < xs.length) : xs[i.toNat]? = some (gt xs i) := by
  unfold gt; rw [List.getD_eq_getElem?_getD, List.getElem?_eq_getElem (by omega)]; rfl
theorem SlR.at_ [Inhabited α] (h : SlR enc sz w A xs) {i : Int} (h0 : 0 ≤ i) (h1 : i < xs.length) : ∃ a, A = some a ∧ Cells w (a.add (i.toNat * sz)) (enc (gt xs i)) :=
  h.cells i.toNat _ (gt_get h0 h1)
theorem SlR.fr {S : List Nat} (h : SlR enc sz w A xs) (hf : Fr S w w') (hb : ∀ a, A = some a → a.block ∉ S) : SlR enc sz w' A xs :=
  ⟨h.small, fun i x hx => by obtain ⟨a, ha, hc⟩ := h.cells i x hx; exact ⟨a, ha, hc.fr hf (by rw [add_block]; exact hb a ha)⟩⟩
theorem SlR.fr0 (h : SlR enc sz w A xs) (hf : Fr [] w w') : SlR enc sz w' A xs := h.fr hf (by simp)
theorem SlR.ext (h : SlR enc sz w A xs) (hf : Ext w w') : SlR enc sz w' A xs := h.fr0 (.of_ext hf)
end

/-- A slice of the call's own: nil, or a row that begins its block, from block B on. -/
structure SlO {α : Type} (enc : α → List Value) (e : TypeId) (sz B : Nat) (w : World) (A : Option Addr) (c : Nat) (xs : List α) : Prop where
  own : w.ownsRow B e sz (.slice A xs.length c) xs.length (xs.flatMap enc)
  ul : ∀ x ∈ xs, (enc x).length = sz

section
variable {α : Type} {enc : α → List Value} {e : TypeId} {sz B : Nat} {w w' : World} {A : Option Addr} {c : Nat} {xs : List α}
theorem SlO.none (enc : α → List Value) (e : TypeId) (sz B : Nat) (w : World) : SlO enc e sz B w none 0 [] := ⟨World.ownsRow_nil w B e sz, by simp⟩
theorem flat_get (hl : ∀ x ∈ xs, (enc x).length = sz) {i j : Nat} {x : α} {v : Value} (hx : xs[i]? = some x) (hv : (enc x)[j]? = some v) : (xs.flatMap enc)[i * sz + j]? = some v := by
  induction xs generalizing i with
  | nil => simp at hx
  | cons y ys ih =>
    have hy : (enc y).length = sz := hl y (by simp)
    have hj : j < (enc x).length := (List.getElem?_eq_some_iff.1 hv).1
    rw [List.flatMap_cons]
    cases i with
    | zero =>
      simp only [List.getElem?_cons_zero, Option.some.injEq] at hx
      subst hx
      rw [Nat.zero_mul, Nat.zero_add, List.getElem?_append_left hj]; exact hv
    | succ i =>
      simp only [List.getElem?_cons_succ] at hx
      rw [List.getElem?_append_right (by rw [hy, Nat.add_mul]; omega), hy]
      have := ih (fun x hx => hl x (by simp [hx])) hx
      rw [← this]
      congr 1
      rw [Nat.add_mul]; omega
theorem SlO.read (h : SlO enc e sz B w A c xs) : SlR enc sz w A xs := by
  refine ⟨?_, fun i x hx => ?_⟩
  · rcases h.own.2 with ⟨he, h1⟩ | ⟨g, cap, cur, he, _, _, h1, h2, _⟩
    · omega
    · simp only [maxLen] at h2; omega
  · rcases h.own.2 with ⟨he, h1⟩ | ⟨g, cap, cur, he, hg, hh, h1, h2, hs, ht⟩
    · simp only [List.length_eq_zero_iff] at h1; subst h1; simp at hx
    · simp only [Value.slice.injEq] at he
      refine ⟨⟨g, 0, Option.none⟩, he.1, fun j v hv => ?_⟩
      rw [add_add, add_lit]
      have h3 := flat_get h.ul hx hv
      have := h.own.cells (g := g) (by rw [show A = some ⟨g, 0, Option.none⟩ from he.1]; rfl) _ _ h3
      rwa [add_lit] at this
theorem SlO.blk (h : SlO enc e sz B w A c xs) : ∀ a, A = some a → B ≤ a.block ∧ a.block < w.heap.size := by
  intro a ha
  subst ha
  exact h.own.lt _ rfl
theorem SlO.fr {S : List Nat} (h : SlO enc e sz B w A c xs) (hf : Fr S w w') (hb : ∀ a, A = some a → a.block ∉ S) : SlO enc e sz B w' A c xs := by
  refine ⟨⟨h.own.1, ?_⟩, h.ul⟩
  rcases h.own.2 with h1 | ⟨g, cap, cur, he, hg, hh, h1, h2, hs, ht⟩
  · exact .inl h1
  · refine .inr ⟨g, cap, cur, he, hg, ?_, h1, h2, hs, ht⟩
    simp only [Value.slice.injEq] at he
    rw [hf.block g (Array.getElem?_eq_some_iff.1 hh).1 (by have := hb _ he.1; simpa using this)]
    exact hh
theorem SlO.fr0 (h : SlO enc e sz B w A c xs) (hf : Fr [] w w') : SlO enc e sz B w' A c xs := h.fr hf (by simp)
theorem SlO.lower {B' : Nat} (h : SlO enc e sz B w A c xs) (hB : B' ≤ B) : SlO enc e sz B' w A c xs := by
  refine ⟨⟨h.own.1, ?_⟩, h.ul⟩
  rcases h.own.2 with h1 | ⟨g, cap, cur, he, hg, r⟩
  · exact .inl h1
  · exact .inr ⟨g, cap, cur, he, Nat.le_trans hB hg, r⟩
end

/-! ### Loads and stores -/
def LoadsTo (P : Program) (w : World) (t : TypeId) (p : Addr) (v : Value) : Prop := (loadVar t p).run P w = .ok v w
theorem loads1 {P : Program} {w : World} {t : TypeId} {p : Addr} {v : Value} (ha : pureSem P (isAgg t) = some false) (hc : w.cell? p = some v) : LoadsTo P w t p v := by
  unfold LoadsTo loadVar
  rw [Sem.run_bind, pureSem_run ha]
  simp [load, Sem.run, hc]
theorem loads_at {P : Program} {w : World} {t : TypeId} {a : Addr} {cs : List Value} {j : Nat} {v : Value} (h : Cells w a cs) (ha : pureSem P (isAgg t) = some false) (hv : cs[j]? = some v) : LoadsTo P w t (a.add j) v := loads1 ha (h j v hv)
theorem loads_head {P : Program} {w : World} {t : TypeId} {a : Addr} {cs : List Value} {v : Value} (h : Cells w a cs) (ha : pureSem P (isAgg t) = some false) (hv : cs[0]? = some v) : LoadsTo P w t a v := by
  refine loads1 ha ?_
  have := h 0 v hv
  simpa [Addr.add] using this
theorem run_loadFrom {P : Program} {w : World} {a : Addr} (cs : List Value) : ∀ (i : Nat) (acc : Array Value), (∀ j v, cs[j]? = some v → w.cell? (a.add (i + j)) = some v) → (loadCellsFrom a i cs.length acc).run P w = .ok (acc ++ cs.toArray) w := by
  induction cs with
  | nil => intro i acc _; simp [loadCellsFrom, Sem.run_pure]
  | cons v cs ih =>
    intro i acc h
    have h0 := h 0 v rfl
    simp only [Nat.add_zero] at h0
    have h1 := ih (i + 1) (acc.push v) (fun j u hu => by have := h (j + 1) u (by simpa using hu); rwa [show i + 1 + j = i + (j + 1) from by omega])
    simp only [List.length_cons, loadCellsFrom, load, Sem.run_bind]
    simp only [Sem.run, h0, Result.andThen_ok, h1]
    simp
theorem loads_agg {P : Program} {w : World} {t : TypeId} {a : Addr} {cs : List Value} (h : Cells w a cs) (ha : pureSem P (isAgg t) = some true) (hs : pureSem P (sizeOf t) = some cs.length) : LoadsTo P w t a (.agg cs.toArray) := by
  unfold LoadsTo loadVar
  rw [Sem.run_bind, pureSem_run ha]
  simp only [Result.andThen_ok, if_true, Sem.run_bind, pureSem_run hs]
  unfold loadCells
  rw [run_loadFrom cs 0 #[] (fun j v hv => by rw [Nat.zero_add]; exact h j v hv)]
  simp

/-- The cells vs laid from place i on. -/
def over (cs : List Value) : Nat → List Value → List Value
  | _, [] => cs
  | i, v :: vs => over (cs.set i v) (i + 1) vs
theorem over_len (vs : List Value) : ∀ (cs : List Value) (i : Nat), (over cs i vs).length = cs.length := by
  induction vs with
  | nil => intro cs i; rfl
  | cons v vs ih => intro cs i; simp [over, ih]

theorem Blk.store1 {w : World} {b : Nat} {e : TypeId} {cs : List Value} (h : Blk w b e cs) (j : Nat) (v : Value) : Blk (w.setCell ⟨b, j, none⟩ v) b e (cs.set j v) := by
  unfold Blk at *
  simp only [World.setCell]
  rw [Array.getElem?_modify, if_pos rfl, h]
  simp
theorem fr_setCell (w : World) (b j : Nat) (v : Value) : Fr [b] w (w.setCell ⟨b, j, none⟩ v) :=
  ⟨rfl, rfl, rfl, by simp [World.setCell], fun k hk hb => by rw [Below.heap_setCell _ _ _ _ (by simpa using hb)]⟩
theorem run_storeCells {P : Program} {b : Nat} {e : TypeId} (vs : List Value) : ∀ {w : World} {cs : List Value} {o : Nat} (i : Nat), Blk w b e cs → o + i + vs.length ≤ cs.length → (∀ v ∈ vs, v.oneCell' = true) →
    ∃ w', (storeCells ⟨b, o, none⟩ vs i).run P w = .ok () w' ∧ Blk w' b e (over cs (o + i) vs) ∧ Fr [b] w w' := by
  induction vs with
  | nil => intro w cs o i h _ _; exact ⟨w, by simp [storeCells, Sem.run_pure], h, Fr.refl _ _⟩
  | cons v vs ih =>
    intro w cs o i h hl h1
    have hv : v.oneCell' = true := h1 v (by simp)
    have hc : (w.cell? ⟨b, o + i, none⟩).isSome := by
      simp only [World.cell?, show w.heap[b]? = _ from h]
      have : o + i < cs.length := by simp at hl; omega
      simp [List.getElem?_eq_getElem this]
    obtain ⟨u, hu⟩ := Option.isSome_iff_exists.1 hc
    have hfz : w.frozen? ⟨b, o + i, none⟩ = false := by simp [World.frozen?, show w.heap[b]? = _ from h]
    obtain ⟨w', hr, hb, hf⟩ := ih (o := o) (i + 1) (h.store1 (o + i) v) (by simp at hl ⊢; omega) (fun x hx => h1 x (by simp [hx]))
    refine ⟨w', ?_, ?_, ?_⟩
    · simp only [storeCells, store, Sem.run_bind, add_lit]
      have : (Sem.store .plain ⟨b, o + i, none⟩ v (.pure ())).run P w = .ok () (w.setCell ⟨b, o + i, none⟩ v) := by
        cases v <;> simp_all [Sem.run, Value.oneCell']
      rw [this]
      exact hr
    · simpa [over, Nat.add_assoc] using hb
    · exact (Fr.refl [b] w).step (fr_setCell w b (o + i) v) (by simp) |>.step hf (by simp)
def StoresTo (P : Program) (w : World) (t : TypeId) (p : Addr) (v : Value) (w' : World) : Prop := (storeVar t p v).run P w = .ok () w'
theorem stores {P : Program} {w : World} {t : TypeId} {b o : Nat} {e : TypeId} {cs : List Value} {v : Value} {vs : List Value} (h : Blk w b e cs) (hv : v.cells = vs.toArray) (hs : pureSem P (sizeOf t) = some vs.length)
    (h1 : vs.all Value.oneCell' = true) (hl : o + vs.length ≤ cs.length) : ∃ w', StoresTo P w t ⟨b, o, none⟩ v w' ∧ Blk w' b e (over cs o vs) ∧ Fr [b] w w' := by
  obtain ⟨w', hr, hb, hf⟩ := run_storeCells (P := P) (o := o) vs 0 h (by omega) (by simpa using h1)
  refine ⟨w', ?_, hb, hf⟩
  unfold StoresTo storeVar
  rw [Sem.run_bind, pureSem_run hs]
  simp only [Result.andThen_ok, hv, List.size_toArray, ne_eq, not_true, if_false]
  simpa using hr

/-! ### Rules: an operation with a value -/
section
variable {P : Program} {f : FuncId} {k : List Item} {l : List Value} {w w' : World} {R : Ending → World → Prop} {c : Code} {i : Nat} {rest : List Nat} {d : Option Tmp} {ty : TypeId}
  {C : World → Prop} {F : List Value → Prop}

/-- Any operation whose run is known. -/
theorem r_val {op : Op} {v : Value} (ho : opI c i = some (d, op, ty)) (hw : wantI c l i = true)
    (hr : ∀ o : Oper, o.op = op → o.type = ty → (execOp (evL l) o).run P w = .ok (.value v) w')
    (h : Runs P f (.inRegion (opsOf c) rest :: k) (putL l d v) w' R) : Runs P f (.inRegion (opsOf c) (i :: rest) :: k) l w R := by
  obtain ⟨o, hq, rfl, h2, h3⟩ := opI_spec ho
  exact runs_op_value hq (wantI_spec hq hw) (hr o h2 h3) h
theorem r_done {op : Op} (ho : opI c i = some (d, op, ty)) (hw : wantI c l i = true)
    (hr : ∀ o : Oper, o.op = op → o.type = ty → (execOp (evL l) o).run P w = .ok .skip w')
    (h : Runs P f (.inRegion (opsOf c) rest :: k) (putL l d undef) w' R) : Runs P f (.inRegion (opsOf c) (i :: rest) :: k) l w R := by
  obtain ⟨o, hq, rfl, h2, h3⟩ := opI_spec ho
  exact runs_op_done hq (wantI_spec hq hw) (hr o h2 h3) h
theorem r_call {op : Op} {g : FuncId} {args : Array Value} {S : Ending → World → Prop} (ho : opI c i = some (d, op, ty)) (hw : wantI c l i = true)
    (hr : ∀ o : Oper, o.op = op → pureSem P (execOp (evL l) o) = some (.enter g args)) (hc : Calls P g args w S)
    (h : ∀ e w1, S e w1 → ∃ v, e = .returned v ∧ Runs P f (.inRegion (opsOf c) rest :: k) (putL l d v) w1 R) : Runs P f (.inRegion (opsOf c) (i :: rest) :: k) l w R := by
  obtain ⟨o, hq, rfl, h2, h3⟩ := opI_spec ho
  exact runs_op_call hq (wantI_spec hq hw) (pureSem_run (hr o h2)) hc h
theorem q_val {op : Op} {v : Value} (ho : opI c i = some (d, op, ty)) (hw : wantI c l i = true)
    (hr : ∀ w, C w → ∀ o : Oper, o.op = op → o.type = ty → (execOp (evL l) o).run P w = .ok (.value v) w)
    (h : Qs P (opsOf c) C rest (putL l d v) F) : Qs P (opsOf c) C (i :: rest) l F := by
  obtain ⟨o, hq, rfl, h2, h3⟩ := opI_spec ho
  exact .val hq (wantI_spec hq hw) (fun w hC => hr w hC o h2 h3) h
theorem q_call {op : Op} {v : Value} {g : FuncId} {args : Array Value} (ho : opI c i = some (d, op, ty)) (hw : wantI c l i = true)
    (hr : ∀ o : Oper, o.op = op → pureSem P (execOp (evL l) o) = some (.enter g args)) (hc : ∀ w, C w → Calls P g args w fun e w' => e = .returned v ∧ C w')
    (h : Qs P (opsOf c) C rest (putL l d v) F) : Qs P (opsOf c) C (i :: rest) l F := by
  obtain ⟨o, hq, rfl, h2, h3⟩ := opI_spec ho
  exact .call hq (wantI_spec hq hw) (fun w _ => pureSem_run (hr o h2)) hc h

/-- A test's two ways, split where it was reckoned. -/
theorem r_split {todo : List Item} {l0 : List Value} {d : Option Tmp} (t : Bool) (ht : t = true → Runs P f todo (putL l0 d (.bool true)) w R) (hf : t = false → Runs P f todo (putL l0 d (.bool false)) w R) :
    Runs P f todo (putL l0 d (.bool t)) w R := by cases t; exact hf rfl; exact ht rfl
theorem q_split {ops : Array Oper} {is : List Nat} {l0 : List Value} {d : Option Tmp} (t : Bool) (ht : t = true → Qs P ops C is (putL l0 d (.bool true)) F) (hf : t = false → Qs P ops C is (putL l0 d (.bool false)) F) :
    Qs P ops C is (putL l0 d (.bool t)) F := by cases t; exact hf rfl; exact ht rfl

/-! ### What an operation does -/
theorem x_load {o : Oper} {t : TypeId} {x : Operand} {p : Addr} {v : Value} (hx : evL l x = .pointer (some p)) (h : LoadsTo P w t p v) (ho : o.op = .load t x) : (execOp (evL l) o).run P w = .ok (.value v) w := by
  unfold execOp
  simp only [ho, hx, Instr.loadAt, Instr.sureAddr, Sem.run_bind, Sem.run_pure, Result.andThen_ok, show (loadVar t p).run P w = _ from h]
theorem x_store {o : Oper} {t : TypeId} {x y : Operand} {p : Addr} {v : Value} (hx : evL l x = .pointer (some p)) (hy : evL l y = v) (h : StoresTo P w t p v w') (ho : o.op = .store t x y) : (execOp (evL l) o).run P w = .ok .skip w' := by
  unfold execOp
  simp only [ho, hx, hy, Instr.storeAt, Instr.sureAddr, Sem.run_bind, Sem.run_pure, Result.andThen_ok, show (storeVar t p v).run P w = _ from h]
theorem x_box {o : Oper} {t : TypeId} {x : Operand} {v : Value} (hx : evL l x = v) (ho : o.op = .box t x) :
    (execOp (evL l) o).run P w = .ok (.value (.pointer (some ⟨w.heap.size, 0, none⟩))) { w with heap := w.heap.push (.cells v.cells t) } := by
  unfold execOp
  simp [ho, hx, Instr.box, newVar, newRow, newObj, Sem.run]
theorem x_alloc {o : Oper} {t : TypeId} {z : Value} (hz : pureSem P (zeroValue t) = some z) (ho : o.op = .alloc t) :
    (execOp (evL l) o).run P w = .ok (.value (.pointer (some ⟨w.heap.size, 0, none⟩))) { w with heap := w.heap.push (.cells z.cells t) } := by
  unfold execOp
  simp only [ho, Instr.alloc, Sem.run_bind, pureSem_run hz, Result.andThen_ok]
  simp [newVar, newRow, newObj, Sem.run]
theorem x_indexAddr {o : Oper} {t e : TypeId} {x y : Operand} {a : Addr} {n cp sz : Nat} {kk : IntKind} {j : Int} (hx : evL l x = .slice (some a) n cp) (hy : evL l y = .int kk j) (hu : P.underlying t = some (.slice e)) (hs : pureSem P (sizeOf e) = some sz)
    (h0 : 0 ≤ j) (h1 : j < n) (ho : o.op = .indexAddr t x y) : (execOp (evL l) o).run P w = .ok (.value (.pointer (some (a.add (j.toNat * sz))))) w := by
  unfold execOp
  simp [ho, hx, hy, Instr.indexAt, asIntOf, run_underlying hu, pureSem_run hs, h0, h1]
theorem x_indexArr {o : Oper} {t e : TypeId} {x y : Operand} {a : Addr} {n sz : Nat} {kk : IntKind} {j : Int} (hx : evL l x = .pointer (some a)) (hy : evL l y = .int kk j) (hu : P.underlying t = some (.array n e)) (hs : pureSem P (sizeOf e) = some sz)
    (h0 : 0 ≤ j) (h1 : j < n) (ho : o.op = .indexAddr t x y) : (execOp (evL l) o).run P w = .ok (.value (.pointer (some (a.add (j.toNat * sz))))) w := by
  unfold execOp
  simp [ho, hx, hy, Instr.indexAt, asIntOf, run_underlying hu, pureSem_run hs, h0, h1, Instr.sureAddr]

/-- A new variable. -/
theorem r_box {t : TypeId} {x : Operand} {v : Value} {cs : List Value} (ho : opI c i = some (d, .box t x, ty)) (hw : wantI c l i = true) (hx : evL l x = v) (hv : v.cells = cs.toArray)
    (h : ∀ b w', New w w' b (.cells cs.toArray t (0, 0)) → Runs P f (.inRegion (opsOf c) rest :: k) (putL l d (.pointer (some ⟨b, 0, none⟩))) w' R) : Runs P f (.inRegion (opsOf c) (i :: rest) :: k) l w R :=
  r_val ho hw (fun o ho _ => x_box hx ho) (h _ _ (by rw [hv]; exact new_alloc w _))
theorem r_alloc {t : TypeId} {z : Value} {cs : List Value} (ho : opI c i = some (d, .alloc t, ty)) (hw : wantI c l i = true) (hz : pureSem P (zeroValue t) = some z) (hv : z.cells = cs.toArray)
    (h : ∀ b w', New w w' b (.cells cs.toArray t (0, 0)) → Runs P f (.inRegion (opsOf c) rest :: k) (putL l d (.pointer (some ⟨b, 0, none⟩))) w' R) : Runs P f (.inRegion (opsOf c) (i :: rest) :: k) l w R :=
  r_val ho hw (fun o ho _ => x_alloc hz ho) (h _ _ (by rw [hv]; exact new_alloc w _))
theorem r_load {t : TypeId} {x : Operand} {p : Addr} {v : Value} (ho : opI c i = some (d, .load t x, ty)) (hw : wantI c l i = true) (hx : evL l x = .pointer (some p)) (hl : LoadsTo P w t p v)
    (h : Runs P f (.inRegion (opsOf c) rest :: k) (putL l d v) w R) : Runs P f (.inRegion (opsOf c) (i :: rest) :: k) l w R :=
  r_val ho hw (fun o ho _ => x_load hx hl ho) h
theorem q_load {t : TypeId} {x : Operand} {p : Addr} {v : Value} (ho : opI c i = some (d, .load t x, ty)) (hw : wantI c l i = true) (hx : evL l x = .pointer (some p)) (hl : ∀ w, C w → LoadsTo P w t p v)
    (h : Qs P (opsOf c) C rest (putL l d v) F) : Qs P (opsOf c) C (i :: rest) l F :=
  q_val ho hw (fun w hC o ho _ => x_load hx (hl w hC) ho) h
theorem r_indexAddr {t e : TypeId} {x y : Operand} {a : Addr} {n cp sz : Nat} {kk : IntKind} {j : Int} (ho : opI c i = some (d, .indexAddr t x y, ty)) (hw : wantI c l i = true) (hx : evL l x = .slice (some a) n cp) (hy : evL l y = .int kk j)
    (hu : P.underlying t = some (.slice e)) (hs : pureSem P (sizeOf e) = some sz) (h0 : 0 ≤ j) (h1 : j < n)
    (h : Runs P f (.inRegion (opsOf c) rest :: k) (putL l d (.pointer (some (a.add (j.toNat * sz))))) w R) : Runs P f (.inRegion (opsOf c) (i :: rest) :: k) l w R :=
  r_val ho hw (fun o ho _ => x_indexAddr hx hy hu hs h0 h1 ho) h
theorem q_indexAddr {t e : TypeId} {x y : Operand} {a : Addr} {n cp sz : Nat} {kk : IntKind} {j : Int} (ho : opI c i = some (d, .indexAddr t x y, ty)) (hw : wantI c l i = true) (hx : evL l x = .slice (some a) n cp) (hy : evL l y = .int kk j)
    (hu : P.underlying t = some (.slice e)) (hs : pureSem P (sizeOf e) = some sz) (h0 : 0 ≤ j) (h1 : j < n)
    (h : Qs P (opsOf c) C rest (putL l d (.pointer (some (a.add (j.toNat * sz))))) F) : Qs P (opsOf c) C (i :: rest) l F :=
  q_val ho hw (fun w _ o ho _ => x_indexAddr hx hy hu hs h0 h1 ho) h
theorem r_indexArr {t e : TypeId} {x y : Operand} {a : Addr} {n sz : Nat} {kk : IntKind} {j : Int} (ho : opI c i = some (d, .indexAddr t x y, ty)) (hw : wantI c l i = true) (hx : evL l x = .pointer (some a)) (hy : evL l y = .int kk j)
    (hu : P.underlying t = some (.array n e)) (hs : pureSem P (sizeOf e) = some sz) (h0 : 0 ≤ j) (h1 : j < n)
    (h : Runs P f (.inRegion (opsOf c) rest :: k) (putL l d (.pointer (some (a.add (j.toNat * sz))))) w R) : Runs P f (.inRegion (opsOf c) (i :: rest) :: k) l w R :=
  r_val ho hw (fun o ho _ => x_indexArr hx hy hu hs h0 h1 ho) h
theorem q_indexArr {t e : TypeId} {x y : Operand} {a : Addr} {n sz : Nat} {kk : IntKind} {j : Int} (ho : opI c i = some (d, .indexAddr t x y, ty)) (hw : wantI c l i = true) (hx : evL l x = .pointer (some a)) (hy : evL l y = .int kk j)
    (hu : P.underlying t = some (.array n e)) (hs : pureSem P (sizeOf e) = some sz) (h0 : 0 ≤ j) (h1 : j < n)
    (h : Qs P (opsOf c) C rest (putL l d (.pointer (some (a.add (j.toNat * sz))))) F) : Qs P (opsOf c) C (i :: rest) l F :=
  q_val ho hw (fun w _ o ho _ => x_indexArr hx hy hu hs h0 h1 ho) h
/-- A store into a variable of the call's own. -/
theorem r_store {t : TypeId} {x y : Operand} {b o : Nat} {e : TypeId} {cs : List Value} {v : Value} {vs : List Value} (ho : opI c i = some (d, .store t x y, ty)) (hw : wantI c l i = true) (hx : evL l x = .pointer (some ⟨b, o, none⟩)) (hy : evL l y = v)
    (hb : Blk w b e cs) (hv : v.cells = vs.toArray) (hs : pureSem P (sizeOf t) = some vs.length) (h1 : vs.all Value.oneCell' = true) (hl : o + vs.length ≤ cs.length)
    (h : ∀ w', Blk w' b e (over cs o vs) → Fr [b] w w' → Runs P f (.inRegion (opsOf c) rest :: k) (putL l d undef) w' R) : Runs P f (.inRegion (opsOf c) (i :: rest) :: k) l w R := by
  obtain ⟨w', hst, hb', hf⟩ := stores (P := P) (t := t) (o := o) hb hv hs h1 hl
  exact r_done ho hw (fun o ho _ => x_store hx hy hst ho) (h w' hb' hf)
end

/-! ### Small words for a pure function's tests -/
theorem ite_some {α : Type} {p : Prop} [Decidable p] {x : Option α} {r : α} (h : (if p then x else none) = some r) : p ∧ x = some r := by
  split at h
  · exact ⟨by assumption, h⟩
  · cases h
theorem ite_t {α : Type} {t : Bool} {x y : α} {r : α} (h : (if t = true then x else y) = r) (ht : t = true) : x = r := by rw [if_pos ht] at h; exact h
theorem ite_f {α : Type} {t : Bool} {x y : α} {r : α} (h : (if t = true then x else y) = r) (ht : t = false) : y = r := by rw [if_neg (by simp [ht])] at h; exact h
theorem bind_some' {α β : Type} {x : Option α} {g : α → Option β} {r : β} (h : x.bind g = some r) : ∃ t, x = some t ∧ g t = some r := Option.bind_eq_some_iff.1 h
end Go.Proofs.Yteppciglfdiljaa.K
