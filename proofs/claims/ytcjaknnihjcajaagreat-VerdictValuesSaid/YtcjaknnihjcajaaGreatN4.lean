/- The engine's cuts, literals, make, copy, string(bytes). -/
import Derived.Test.YtcjaknnihjcajaaGreatN3
import Derived.Laws.BytesArg
set_option linter.unusedVariables false
set_option linter.unusedSimpArgs false
namespace Go.Proofs.YtcjaknnihjcajaaGreat.K
open Go Go.RowKit
def infoOf (P : Program) (t : TypeId) : TypeInfo := match P.info? t with | some i => i | none => default
def zeroOf (P : Program) (t : TypeId) : Value := match P.info? t with | some i => (match i.zero with | some z => z | none => undef) | none => undef
/-! ### Cuts of slices -/
section
variable {P : Program} {l : List Value} {w : World} {o : Oper} {t e : TypeId} {x lo hi : Operand} {A : Option Addr} {n c sz : Nat} {i j : Int} {k k' : IntKind} {v : Value}
theorem x_cutSl_sn (hx : evL l x = .slice A n c) (hl : evL l lo = .int k i) (hu : P.underlying t = some (.slice e)) (hs : pureSem P (sizeOf e) = some sz) (hg : 0 ≤ i ∧ i ≤ (n : Int)) (hr : Value.slice (if c = i.toNat then A else A.map (·.add (i.toNat * sz))) (n - i.toNat) (c - i.toNat) = v) (ho : o.op = .slice t x (some lo) none none) :
  (execOp (evL l) o).run P w = .ok (.value v) w := by
 subst hr
 unfold execOp
 simp [ho, hx, hl, Instr.sliceAt, run_underlying hu, Instr.slice, sb_sn _ _ _ hg.1 hg.2, pureSem_run hs]
theorem x_cutSl_ns (hx : evL l x = .slice A n c) (hl : evL l hi = .int k i) (hu : P.underlying t = some (.slice e)) (hs : pureSem P (sizeOf e) = some sz) (hg : 0 ≤ i ∧ i ≤ (n : Int)) (hc : n ≤ c) (hr : Value.slice (if c = 0 then A else A.map (·.add (0 * sz))) (i.toNat - 0) (c - 0) = v) (ho : o.op = .slice t x none (some hi) none) :
  (execOp (evL l) o).run P w = .ok (.value v) w := by
 subst hr
 unfold execOp
 simp [ho, hx, hl, Instr.sliceAt, run_underlying hu, Instr.slice, sb_ns true n c hg.1 (show i ≤ (c : Int) by omega), pureSem_run hs]
end
theorem St.cutrow {α : Type} {enc : α → List Value} {e : TypeId} {sz : Nat} {w0 w : World} {Z : Zm} {os : List XObj} {A : Option Addr} {c : Nat} {xs : List α} (hS : St w0 Z (xrow A c e sz (xs.flatMap enc) :: os) w) (hl : ∀ x, (enc x).length = sz) (hsz : 0 < sz) (L H : Nat) (h1 : L ≤ H) (h2 : H ≤ xs.length) :
    ∃ A' c', Value.slice (if c = L then A else A.map (·.add (L * sz))) (H - L) (c - L) = .slice A' ((xs.take H).drop L).length c' ∧ St w0 Z (xrow A' c' e sz (((xs.take H).drop L).flatMap enc) :: os) w := by
  have hr : RowIn A c e sz (xs.flatMap enc) w := hS.hd
  have hc := hr.cap hl hsz
  refine ⟨if c = L then A else A.map (·.add (L * sz)), c - L, by congr 1; simp only [List.length_drop, List.length_take]; omega, ?_⟩
  have hsub : ∀ b, (xrow (if c = L then A else A.map (·.add (L * sz))) (c - L) e sz (((xs.take H).drop L).flatMap enc)).own b → (xrow A c e sz (xs.flatMap enc)).own b := by
    rintro b ⟨h3, a, ha, hb⟩
    rw [if_neg (by omega)] at ha
    cases A with
    | none => cases ha
    | some a0 =>
      simp only [Option.map_some, Option.some.injEq] at ha
      subst ha
      rw [add_block] at hb
      exact ⟨by omega, a0, rfl, hb⟩
  refine hS.turn (X' := xrow _ _ e sz _) (FrP.refl _ _) ?_ (fun b hb => .inl (hsub b hb)) (fun _ _ _ _ h => h.elim) (fun _ _ _ _ h => h.elim)
  by_cases hcl : c = L
  · have : (xs.take H).drop L = [] := List.eq_nil_of_length_eq_zero (by simp only [List.length_drop, List.length_take]; omega)
    rw [this]
    exact .inl ⟨by omega, rfl⟩
  · rcases hr with ⟨h3, h4⟩ | ⟨b, pre, tail, rfl, hB, h3, h4, h5⟩
    · omega
    · rw [if_neg hcl]
      have e1 : xs.flatMap enc = (xs.take L).flatMap enc ++ (((xs.take H).drop L).flatMap enc ++ (xs.drop H).flatMap enc) := by
        rw [← List.flatMap_append, ← List.flatMap_append]
        congr 1
        have : xs.take L = (xs.take H).take L := by rw [List.take_take, Nat.min_eq_left h1]
        rw [this, ← List.append_assoc, List.take_append_drop, List.take_append_drop]
      have l1 : ((xs.take L).flatMap enc).length = L * sz := by rw [flat_len hl, List.length_take, Nat.min_eq_left (by omega)]
      refine .inr ⟨b, pre ++ (xs.take L).flatMap enc, (xs.drop H).flatMap enc ++ tail, ?_, hB.eq ?_, ?_, by omega, by omega⟩
      · rw [Option.map_some, add_lit, List.length_append, l1]
      · rw [e1]; simp [List.append_assoc]
      · have l2 := flat_len hl ((xs.take H).drop L)
        have l3 := flat_len hl (xs.drop H)
        have l4 := flat_len hl xs
        rw [List.length_append, l2, l3]
        rw [l4] at h3
        rw [Nat.sub_mul, List.length_drop, List.length_drop, List.length_take, Nat.min_eq_left h2]
        have : xs.length * sz = L * sz + (H - L) * sz + (xs.length - H) * sz := by rw [← Nat.add_mul, ← Nat.add_mul]; congr 1; omega
        omega
/-! ### Literals, make -/
section
variable {P : Program} {f : Fx} {k : List Item} {l : List Value} {w w0 : World} {Z : Zm} {os : List XObj} {R : Ending → World → Prop} {c : Code} {i : Nat} {rest : List Nat} {d : Option Tmp} {ty : TypeId}
theorem x_buildSlice {o : Oper} {t e : TypeId} {n sz : Nat} {parts : Array (Nat × Operand)} {zs : Array Value} {vs : List (Nat × Value)} {cs : Array Value} (hu : P.underlying t = some (.slice e)) (hs : pureSem P (sizeOf e) = some sz) (hn : n * sz ≤ 2 ^ 24) (hn0 : n * sz ≠ 0)
  (hz : pureSem P (zeroValue e) = some zs[0]!) (hv : (parts.map fun p => (p.1, evL l p.2)) = vs.toArray)
  (hf : Instr.fill (fun i => some (i * sz, sz)) ((Array.range (n * sz)).map (zs[0]!.cells[· % zs[0]!.cells.size]!)) vs = some cs) (ho : o.op = .buildSlice t n parts) :
  (execOp (evL l) o).run P w = .ok (.value (.slice (some ⟨w.heap.size, 0, none⟩) n n)) { w with heap := w.heap.push (.cells cs e) } := by
 have hn' : ¬ (n * sz > 2 ^ 24) := by omega
 unfold execOp
 simp only [ho, Instr.buildSlice, Sem.run_bind, run_underlying hu, Result.andThen_ok, pureSem_run hs, hn', if_false, hn0, pureSem_run hz, Sem.run_pure]
 rw [show (Array.map (fun x => (x.fst, evL l x.snd)) parts).toList = vs from by rw [hv]]
 rw [hf]
 simp [newRow, newObj, Sem.run]
inductive Parts (sz : Nat) : Nat → List (Nat × Value) → List Value → Prop where
 | nil {s : Nat} : Parts sz s [] []
 | cons {s : Nat} {v : Value} {c : List Value} {vs : List (Nat × Value)} {cs : List Value} (hv : v.cells = c.toArray) (hl : c.length = sz) (r : Parts sz (s + 1) vs cs) : Parts sz s ((s, v) :: vs) (c ++ cs)
theorem Parts.len {sz s : Nat} {vs : List (Nat × Value)} {cs : List Value} (h : Parts sz s vs cs) : cs.length = vs.length * sz := by
 induction h with
 | nil => simp
 | cons hv hl r ih => rw [List.length_append, hl, ih, List.length_cons, Nat.add_mul]; omega
theorem fill_fold2 {us old post : List Value} {off : Nat} {pre : List Value} (hp : pre.length = off) (ho : old.length = us.length) :
      (us.zipIdx).foldl (fun (cs : Array Value) (x : Value × Nat) => cs.setIfInBounds (off + x.2) x.1) (pre ++ (old ++ post)).toArray = (pre ++ (us ++ post)).toArray := by
  have key : ∀ (us : List Value) (k : Nat) (pre old : List Value), old.length = us.length → pre.length = off + k →
      (us.zipIdx k).foldl (fun (cs : Array Value) (x : Value × Nat) => cs.setIfInBounds (off + x.2) x.1) (pre ++ (old ++ post)).toArray = (pre ++ (us ++ post)).toArray := by
    intro us
    induction us with
    | nil => intro k pre old h _; have : old = [] := List.eq_nil_of_length_eq_zero (by simpa using h); subst this; rfl
    | cons u us ih =>
      intro k pre old h hk
      cases old with
      | nil => simp at h
      | cons p old =>
        simp only [List.zipIdx_cons, List.foldl_cons]
        have : (pre ++ (p :: old ++ post)).toArray.setIfInBounds (off + k) u = ((pre ++ [u]) ++ (old ++ post)).toArray := by
          rw [← hk]; simp
        rw [this, ih (k + 1) (pre ++ [u]) old (by simpa using h) (by simp; omega)]
        simp
  exact key us 0 pre old ho (by omega)
theorem fill_parts {sz : Nat} {s : Nat} {vs : List (Nat × Value)} {cs : List Value} (h : Parts sz s vs cs) : ∀ (pre old : List Value), pre.length = s * sz → old.length = vs.length * sz →
    Instr.fill (fun i => some (i * sz, sz)) (pre ++ old).toArray vs = some (pre ++ cs).toArray := by
  induction h with
  | nil => intro pre old hp ho; have : old = [] := List.eq_nil_of_length_eq_zero (by simpa using ho); subst this; rfl
  | @cons s v c vs cs hv hl r ih =>
    intro pre old hp ho
    simp only [Instr.fill, hv, List.size_toArray]
    rw [List.length_cons, Nat.add_mul, Nat.one_mul] at ho
    have h1 : ¬ ((decide (c.length ≠ sz) || decide (s * sz + c.length > (pre ++ old).length)) = true) := by simp; omega
    rw [if_neg h1]
    have hold : old = old.take sz ++ old.drop sz := (List.take_append_drop _ _).symm
    have h2 := fill_fold2 (us := c) (old := old.take sz) (post := old.drop sz) (off := s * sz) (pre := pre) hp (by rw [List.length_take]; omega)
    rw [← hold] at h2
    have h3 : (c.toArray.zipIdx.foldl (fun (cs : Array Value) (x : Value × Nat) => cs.setIfInBounds (s * sz + x.2) x.1) (pre ++ old).toArray) = (pre ++ (c ++ old.drop sz)).toArray := by
      rw [← h2, ← Array.foldl_toList]; simp
    refine Eq.trans (congrArg (fun a => Instr.fill _ a vs) h3) ?_
    have h4 := ih (pre ++ c) (old.drop sz) (by rw [List.length_append, hp, hl, Nat.add_mul, Nat.one_mul]) (by rw [List.length_drop]; omega)
    rw [List.append_assoc] at h4
    rw [h4, List.append_assoc]
theorem r_lit {t e : TypeId} {sz n : Nat} {parts : Array (Nat × Operand)} {vs : List (Nat × Value)} {z : Value} {cs cs' : List Value} (hS : St w0 Z os w) (ho : opI c i = some (d, .buildSlice t n parts, ty)) (hw : wantI c l i = true) (hp : (parts.map fun p => (p.1, evL l p.2)) = vs.toArray) (hu : P.underlying t = some (.slice e)) (hs : pureSem P (sizeOf e) = some sz) (hsz : 0 < sz ∧ n * sz ≤ 2 ^ 24) (hn : 0 < n)
  (hz : pureSem P (zeroValue e) = some z) (hvs : vs.length = n) (hc : Parts sz 0 vs cs) (he : cs = cs')
  (h : ∀ b w', St w0 Z (xrow (some ⟨b, 0, none⟩) n e sz cs' :: os) w' → Runs P f (.inRegion (opsOf c) rest :: k) (putL l d (.slice (some ⟨b, 0, none⟩) n n)) w' R) : Runs P f (.inRegion (opsOf c) (i :: rest) :: k) l w R := by
 subst he
 have hpos : 0 < n * sz := Nat.mul_pos hn hsz.1
 have hm : n ≤ n * sz := Nat.le_mul_of_pos_right _ hsz.1
 have hlen : cs.length = n * sz := by rw [hc.len, hvs]
 refine r_val ho hw (fun o ho _ => x_buildSlice (zs := #[z]) (vs := vs) (cs := cs.toArray) hu hs hsz.2 (by omega) (by simpa using hz) hp ?_ ho) (h _ _ ((hS.newblk (new_alloc w _)).rowOfBlk hlen hn (by omega)))
 have := fill_parts hc [] ((Array.range (n * sz)).map (fun j => (#[z] : Array Value)[0]!.cells[j % (#[z] : Array Value)[0]!.cells.size]!)).toList (by simp) (by simp [hvs])
 rw [List.nil_append, List.nil_append, Array.toArray_toList] at this
 exact this
theorem x_lit0 {o : Oper} {t e : TypeId} {sz : Nat} (hu : P.underlying t = some (.slice e)) (hs : pureSem P (sizeOf e) = some sz) (ho : o.op = .buildSlice t 0 #[]) :
  (execOp (evL l) o).run P w = .ok (.value (.slice (some ⟨w.heap.size, 0, none⟩) 0 0)) { w with heap := w.heap.push (.cells #[] e) } := by
 unfold execOp
 simp only [ho, Instr.buildSlice, Sem.run_bind, run_underlying hu, Result.andThen_ok, pureSem_run hs, Sem.run_pure]
 have h0 : Array.range 0 = #[] := Array.eq_empty_of_size_eq_zero (by simp)
 simp [newRow, newObj, Sem.run, Instr.fill, h0]
theorem r_lit0 {t e : TypeId} {sz : Nat} (hS : St w0 Z os w) (ho : opI c i = some (d, .buildSlice t 0 #[], ty)) (hw : wantI c l i = true) (hu : P.underlying t = some (.slice e)) (hs : pureSem P (sizeOf e) = some sz)
  (h : ∀ b w', St w0 Z (xrow (some ⟨b, 0, none⟩) 0 e sz [] :: os) w' → Runs P f (.inRegion (opsOf c) rest :: k) (putL l d (.slice (some ⟨b, 0, none⟩) 0 0)) w' R) : Runs P f (.inRegion (opsOf c) (i :: rest) :: k) l w R :=
 r_val ho hw (fun o ho _ => x_lit0 hu hs ho) (h _ _ ((hS.ext (new_alloc w _).fr).nilrow _ _ _))
theorem range_cells (zs : List Value) (n : Nat) (h : 0 < zs.length) : ((Array.range (n * zs.length)).map (fun j => zs.toArray[j % zs.toArray.size]!)).toList = (List.replicate n zs).flatten := by
  refine List.ext_getElem? fun j => ?_
  have hl : ((List.replicate n zs).flatten).length = n * zs.length := by simp
  by_cases hj : j < n * zs.length
  · have hlt : j % zs.length < zs.length := Nat.mod_lt _ h
    have h1 : ∀ (n j : Nat), j < n * zs.length → ((List.replicate n zs).flatten)[j]? = zs[j % zs.length]? := by
      intro n
      induction n with
      | zero => intro j hj; omega
      | succ n ih =>
        intro j hj
        rw [List.replicate_succ, List.flatten_cons]
        rw [Nat.succ_mul] at hj
        by_cases hlt : j < zs.length
        · rw [List.getElem?_append_left hlt, Nat.mod_eq_of_lt hlt]
        · rw [List.getElem?_append_right (by omega), ih _ (by omega), Nat.mod_eq_sub_mod (a := j) (by omega)]
    rw [h1 n j hj]
    simp [hj, hlt]
  · rw [List.getElem?_eq_none (by simp; omega), List.getElem?_eq_none (by omega)]
theorem make_run {α : Type} {enc : α → List Value} {t e : TypeId} {sz bytes : Nat} {info : TypeInfo} {x y : Operand} {n : Int} {kk kc : IntKind} {z : Value} {x0 : α} (hS : St w0 Z os w) {o : Oper} (ho : o.op = .makeSlice t x y) (hx : evL l x = .int kk n) (hy : evL l y = .int kc n) (hu : P.underlying t = some (.slice e)) (hi : P.info? e = some info) (hsize : info.size = sz) (hby : info.bytes = bytes)
  (hz : info.zero = some z) (hzc : z.cells = (enc x0).toArray) (hl : ∀ x, (enc x).length = sz) (hsz : 0 < sz) (hg : 0 ≤ n ∧ n * bytes ≤ 140737488355328) (hb : 0 < bytes) :
  ∃ A w', (execOp (evL l) o).run P w = .ok (.value (.slice A n.toNat n.toNat)) w' ∧ St w0 Z (xrow A n.toNat e sz ((List.replicate n.toNat x0).flatMap enc) :: os) w' := by
 have hmul : n ≤ n * bytes := by
  have : n * 1 ≤ n * (bytes : Int) := Int.mul_le_mul_of_nonneg_left (by omega) hg.1
  omega
 have hwr : IntKind.i64.wrap n = n := by
  simp only [IntKind.wrap, IntKind.bits, IntKind.signed]
  simp
  omega
 have hlz : (enc x0).length = sz := hl x0
 have hcs : ((Array.range (n.toNat * sz)).map (fun j => (enc x0).toArray[j % (enc x0).toArray.size]!)) = ((List.replicate n.toNat x0).flatMap enc).toArray := by
  have := range_cells (enc x0) n.toNat (by omega)
  rw [hlz] at this
  apply Array.ext'
  rw [this]
  simp [List.flatMap_replicate]
 have hrun : (execOp (evL l) o).run P w = .ok (.value (.slice (some ⟨w.heap.size, 0, none⟩) n.toNat n.toNat)) { w with heap := w.heap.push (.cells ((List.replicate n.toNat x0).flatMap enc).toArray e) } := by
  have h1 : ¬ n < 0 := by omega
  have h2 : ¬ 281474976710656 < (bytes : Int) * n := by rw [Int.mul_comm]; omega
  have h3 : ¬ n > n := by omega
  unfold execOp
  by_cases hn0 : n.toNat = 0
  ·have hzn : n = 0 := by omega
   subst hzn
   have h0 : Array.range 0 = #[] := Array.eq_empty_of_size_eq_zero (by simp)
   simp [ho, hx, hy, Instr.makeSlice, run_underlying hu, asInt, asIntOf, typeInfo, hi, hwr, hby, sizeOf, hsize, newRow, newObj, Sem.run, h0]
  ·have hne : n.toNat * sz ≠ 0 := by have := Nat.mul_pos (Nat.pos_of_ne_zero hn0) hsz; omega
   have hne' : ¬ (n.toNat = 0 ∨ sz = 0) := by omega
   have hne2 : ¬ (n ≤ 0) := by omega
   have hsz0 : ¬ sz = 0 := by omega
   have hcs' := hcs
   simp only [List.size_toArray] at hcs'
   simp [ho, hx, hy, Instr.makeSlice, run_underlying hu, asInt, asIntOf, typeInfo, hi, hwr, hby, sizeOf, hsize, zeroValue, hz, hzc, newRow, newObj, Sem.run, h1, h2, h3, hne, hne', hsz0, hne2]
   simp at hcs'
   rw [hcs']
 refine ⟨_, _, hrun, ?_⟩
 by_cases hn0 : n.toNat = 0
 ·rw [hn0]
  exact (hS.ext (new_alloc w _).fr).nilrow _ _ _
 ·refine (hS.newblk (new_alloc w _)).rowOfBlk ?_ (by omega) (by omega)
  rw [flat_len hl, List.length_replicate]
theorem r_make {α : Type} {enc : α → List Value} {t e : TypeId} {sz bytes : Nat} {info : TypeInfo} {x y : Operand} {n : Int} {kk kc : IntKind} {z : Value} {x0 : α} (hS : St w0 Z os w) (ho : opI c i = some (d, .makeSlice t x y, ty)) (hw : wantI c l i = true) (hx : evL l x = .int kk n) (hy : evL l y = .int kc n) (hu : P.underlying t = some (.slice e)) (hi : P.info? e = some info) (hsize : info.size = sz) (hby : info.bytes = bytes)
  (hz : info.zero = some z) (hzc : z.cells = (enc x0).toArray) (hl : ∀ x, (enc x).length = sz) (hsz : 0 < sz) (hg : 0 ≤ n ∧ n * bytes ≤ 140737488355328) (hb : 0 < bytes)
  (h : ∀ A w', St w0 Z (xrow A n.toNat e sz ((List.replicate n.toNat x0).flatMap enc) :: os) w' → Runs P f (.inRegion (opsOf c) rest :: k) (putL l d (.slice A n.toNat n.toNat)) w' R) : Runs P f (.inRegion (opsOf c) (i :: rest) :: k) l w R := by
 obtain ⟨o, hq, rfl, h2, h3⟩ := opI_spec ho
 obtain ⟨A, w', hr, hs⟩ := make_run (enc := enc) (x0 := x0) hS h2 hx hy hu hi hsize hby hz hzc hl hsz hg hb
 exact runs_op_value hq (wantI_spec hq hw) hr (h A w' hs)
end
/-! ### Lending, leaving for good -/
section
variable {α : Type} {enc : α → List Value} {e : TypeId} {sz : Nat} {w0 w : World} {Z : Zm} {os : List XObj} {A : Option Addr} {c b : Nat} {xs : List α} {cs : List Value}
theorem St.lendrow (h : St w0 Z (xrow A c e sz (xs.flatMap enc) :: os) w) (hl : ∀ x, (enc x).length = sz) (hsz : 0 < sz) :
  ∃ Z', Zm.Le Z Z' ∧ St w0 Z' os w ∧ SlZ (flat enc) sz Z' A c xs ∧ ∀ ys w', St w0 Z' ys w' → St w0 Z (xrow A c e sz (xs.flatMap enc) :: ys) w' :=
 ⟨_, Zm.le_with _ _ _, h.lend, slz_row h hl hsz, fun _ _ k => h.back k⟩
theorem St.lendblk (h : St w0 Z (xblk b e cs :: os) w) : ∃ Z', Zm.Le Z Z' ∧ St w0 Z' os w ∧ ZC Z' b 0 cs ∧ ∀ ys w', St w0 Z' ys w' → St w0 Z (xblk b e cs :: ys) w' :=
 ⟨_, Zm.le_with _ _ _, h.lend, zc_blk h, fun _ _ k => h.back k⟩
theorem RowIn.at2 [Inhabited α] {o : Nat} {i : Int} (h : RowIn A c e sz (xs.flatMap enc) w) (hA : A = some ⟨b, o, none⟩) (hl : ∀ x, (enc x).length = sz) (hsz : 0 < sz) (h0 : 0 ≤ i) (h1 : i < xs.length) : Cells w ⟨b, o + i.toNat * sz, none⟩ (enc (gt xs i)) := by
 obtain ⟨b', o', hA', hc⟩ := h.at_ hl hsz h0 h1
 rw [hA] at hA'
 simp only [Option.some.injEq, Addr.mk.injEq, and_true] at hA'
 obtain ⟨rfl, rfl⟩ := hA'
 exact hc
end
end Go.Proofs.YtcjaknnihjcajaaGreat.K
