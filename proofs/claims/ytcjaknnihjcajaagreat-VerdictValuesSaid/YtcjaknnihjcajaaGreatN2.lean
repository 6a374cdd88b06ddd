/- The engine's words for single operations and whole stretches: a run of steps with what it writes, a test, a region that draws, a call, a return; loads and stores; numbers, bytes, strings. -/
import Derived.Test.YtcjaknnihjcajaaGreatN1
import Derived.Laws.Append
set_option linter.unusedVariables false
set_option linter.unusedSimpArgs false
namespace Go.Proofs.YtcjaknnihjcajaaGreat.K
open Go Go.RowKit
/-! ### Rules: an operation with a value -/
section
variable {P : Program} {f : Fx} {k : List Item} {l : List Value} {w w' : World} {R : Ending → World → Prop} {c : Code} {i : Nat} {rest : List Nat} {d : Option Tmp} {ty : TypeId}
 {C : World → Prop} {F : List Value → Prop} {w0 : World} {Z : Zm} {xs : List XObj}
theorem r_val {op : Op} {v : Value} (ho : opI c i = some (d, op, ty)) (hw : wantI c l i = true)
  (hr : ∀ o : Oper, o.op = op → o.type = ty → (execOp (evL l) o).run P w = .ok (.value v) w')
  (h : Runs P f (.inRegion (opsOf c) rest :: k) (putL l d v) w' R) : Runs P f (.inRegion (opsOf c) (i :: rest) :: k) l w R := by
 obtain ⟨o, hq, rfl, h2, h3⟩ := opI_spec ho
 exact runs_op_value hq (wantI_spec hq hw) (hr o h2 h3) h
theorem r_done {op : Op} (ho : opI c i = some (d, op, ty)) (hw : wantI c l i = true)
  (hr : ∀ o : Oper, o.op = op → o.type = ty → (execOp (evL l) o).run P w = .ok .skip w')
  (h : Runs P f (.inRegion (opsOf c) rest :: k) (putL l d undef) w' R) : Runs P f (.inRegion (opsOf c) (i :: rest) :: k) l w R := by
 obtain ⟨o, hq, rfl, h2, h3⟩ := opI_spec ho
 exact runs_op_done hq (wantI_spec hq hw) (hr o h2 h3) h
theorem q_val {op : Op} {v : Value} (ho : opI c i = some (d, op, ty)) (hw : wantI c l i = true)
  (hr : ∀ w, C w → ∀ o : Oper, o.op = op → o.type = ty → (execOp (evL l) o).run P w = .ok (.value v) w)
  (h : Qs P (opsOf c) C rest (putL l d v) F) : Qs P (opsOf c) C (i :: rest) l F := by
 obtain ⟨o, hq, rfl, h2, h3⟩ := opI_spec ho
 exact .val hq (wantI_spec hq hw) (fun w hC => hr w hC o h2 h3) h
theorem r_split {todo : List Item} {l0 : List Value} {d : Option Tmp} (t : Bool) (ht : t = true → Runs P f todo (putL l0 d (.bool true)) w R) (hf : t = false → Runs P f todo (putL l0 d (.bool false)) w R) :
  Runs P f todo (putL l0 d (.bool t)) w R := by cases t; exact hf rfl; exact ht rfl
theorem q_split {ops : Array Oper} {is : List Nat} {l0 : List Value} {d : Option Tmp} (t : Bool) (ht : t = true → Qs P ops C is (putL l0 d (.bool true)) F) (hf : t = false → Qs P ops C is (putL l0 d (.bool false)) F) :
  Qs P ops C is (putL l0 d (.bool t)) F := by cases t; exact hf rfl; exact ht rfl
/-! ### What an operation does -/
theorem x_load {o : Oper} {t : TypeId} {x : Operand} {p : Addr} {v : Value} (hx : evL l x = .pointer (some p)) (h : LoadsTo P w t p v) (ho : o.op = .load t x) : (execOp (evL l) o).run P w = .ok (.value v) w := by
 unfold execOp
 simp only [ho, hx, Instr.loadAt, Instr.sureAddr, Sem.run_bind, Sem.run_pure, Result.andThen_ok, show (loadVar t p).run P w = _ from h]
theorem x_store {o : Oper} {t : TypeId} {x y : Operand} {p : Addr} {v : Value} (hx : evL l x = .pointer (some p)) (hy : evL l y = v) (h : StoresTo P w t p v w') (ho : o.op = .store t x y) : (execOp (evL l) o).run P w = .ok .skip w' := by
 unfold execOp
 simp only [ho, hx, hy, Instr.storeAt, Instr.sureAddr, Sem.run_bind, Sem.run_pure, Result.andThen_ok, show (storeVar t p v).run P w = _ from h]
theorem x_box {o : Oper} {t : TypeId} {x : Operand} {v : Value} (hx : evL l x = v) (ho : o.op = .box t x) :
  (execOp (evL l) o).run P w = .ok (.value (.pointer (some ⟨w.heap.size, 0, none⟩))) { w with heap := w.heap.push (.cells v.cells t) } := by
 unfold execOp
 simp [ho, hx, Instr.box, newVar, newRow, newObj, Sem.run]
theorem x_alloc {o : Oper} {t : TypeId} {z : Value} (hz : pureSem P (zeroValue t) = some z) (ho : o.op = .alloc t) :
  (execOp (evL l) o).run P w = .ok (.value (.pointer (some ⟨w.heap.size, 0, none⟩))) { w with heap := w.heap.push (.cells z.cells t) } := by
 unfold execOp
 simp only [ho, Instr.alloc, Sem.run_bind, pureSem_run hz, Result.andThen_ok]
 simp [newVar, newRow, newObj, Sem.run]
theorem x_indexAddr {o : Oper} {t e : TypeId} {x y : Operand} {b o' n cp sz : Nat} {kk : IntKind} {j : Int} (hx : evL l x = .slice (some ⟨b, o', none⟩) n cp) (hy : evL l y = .int kk j) (hu : P.underlying t = some (.slice e)) (hs : pureSem P (sizeOf e) = some sz)
  (h0 : 0 ≤ j) (h1 : j < n) (ho : o.op = .indexAddr t x y) : (execOp (evL l) o).run P w = .ok (.value (.pointer (some ⟨b, o' + j.toNat * sz, none⟩))) w := by
 unfold execOp
 simp [ho, hx, hy, Instr.indexAt, asIntOf, run_underlying hu, pureSem_run hs, h0, h1, add_lit]
theorem x_indexArr {o : Oper} {t e : TypeId} {x y : Operand} {b o' n sz : Nat} {kk : IntKind} {j : Int} (hx : evL l x = .pointer (some ⟨b, o', none⟩)) (hy : evL l y = .int kk j) (hu : P.underlying t = some (.array n e)) (hs : pureSem P (sizeOf e) = some sz)
  (h0 : 0 ≤ j) (h1 : j < n) (ho : o.op = .indexAddr t x y) : (execOp (evL l) o).run P w = .ok (.value (.pointer (some ⟨b, o' + j.toNat * sz, none⟩))) w := by
 unfold execOp
 simp [ho, hx, hy, Instr.indexAt, asIntOf, run_underlying hu, pureSem_run hs, h0, h1, Instr.sureAddr, add_lit]
theorem r_box {t : TypeId} {x : Operand} {v : Value} {cs : List Value} (hS : St w0 Z xs w) (ho : opI c i = some (d, .box t x, ty)) (hw : wantI c l i = true) (hx : evL l x = v) (hv : v.cells = cs.toArray)
  (h : ∀ b w', St w0 Z (xblk b t cs :: xs) w' → Runs P f (.inRegion (opsOf c) rest :: k) (putL l d (.pointer (some ⟨b, 0, none⟩))) w' R) : Runs P f (.inRegion (opsOf c) (i :: rest) :: k) l w R :=
 r_val ho hw (fun o ho _ => x_box hx ho) (h _ _ (hS.newblk (by rw [hv]; exact new_alloc w _)))
theorem r_alloc {t : TypeId} {z : Value} {cs : List Value} (hS : St w0 Z xs w) (ho : opI c i = some (d, .alloc t, ty)) (hw : wantI c l i = true) (hz : pureSem P (zeroValue t) = some z) (hv : z.cells = cs.toArray)
  (h : ∀ b w', St w0 Z (xblk b t cs :: xs) w' → Runs P f (.inRegion (opsOf c) rest :: k) (putL l d (.pointer (some ⟨b, 0, none⟩))) w' R) : Runs P f (.inRegion (opsOf c) (i :: rest) :: k) l w R :=
 r_val ho hw (fun o ho _ => x_alloc hz ho) (h _ _ (hS.newblk (by rw [hv]; exact new_alloc w _)))
theorem r_load {t : TypeId} {x : Operand} {p : Addr} {v : Value} (ho : opI c i = some (d, .load t x, ty)) (hw : wantI c l i = true) (hx : evL l x = .pointer (some p)) (hl : LoadsTo P w t p v)
  (h : Runs P f (.inRegion (opsOf c) rest :: k) (putL l d v) w R) : Runs P f (.inRegion (opsOf c) (i :: rest) :: k) l w R :=
 r_val ho hw (fun o ho _ => x_load hx hl ho) h
theorem q_load {t : TypeId} {x : Operand} {p : Addr} {v : Value} (ho : opI c i = some (d, .load t x, ty)) (hw : wantI c l i = true) (hx : evL l x = .pointer (some p)) (hl : ∀ w, C w → LoadsTo P w t p v)
  (h : Qs P (opsOf c) C rest (putL l d v) F) : Qs P (opsOf c) C (i :: rest) l F :=
 q_val ho hw (fun w hC o ho _ => x_load hx (hl w hC) ho) h
theorem r_indexAddr {t e : TypeId} {x y : Operand} {b o' n cp sz : Nat} {kk : IntKind} {j : Int} (ho : opI c i = some (d, .indexAddr t x y, ty)) (hw : wantI c l i = true) (hx : evL l x = .slice (some ⟨b, o', none⟩) n cp) (hy : evL l y = .int kk j)
  (hu : P.underlying t = some (.slice e)) (hs : pureSem P (sizeOf e) = some sz) (h0 : 0 ≤ j) (h1 : j < n)
  (h : Runs P f (.inRegion (opsOf c) rest :: k) (putL l d (.pointer (some ⟨b, o' + j.toNat * sz, none⟩))) w R) : Runs P f (.inRegion (opsOf c) (i :: rest) :: k) l w R :=
 r_val ho hw (fun o ho _ => x_indexAddr hx hy hu hs h0 h1 ho) h
theorem q_indexAddr {t e : TypeId} {x y : Operand} {b o' n cp sz : Nat} {kk : IntKind} {j : Int} (ho : opI c i = some (d, .indexAddr t x y, ty)) (hw : wantI c l i = true) (hx : evL l x = .slice (some ⟨b, o', none⟩) n cp) (hy : evL l y = .int kk j)
  (hu : P.underlying t = some (.slice e)) (hs : pureSem P (sizeOf e) = some sz) (h0 : 0 ≤ j) (h1 : j < n)
  (h : Qs P (opsOf c) C rest (putL l d (.pointer (some ⟨b, o' + j.toNat * sz, none⟩))) F) : Qs P (opsOf c) C (i :: rest) l F :=
 q_val ho hw (fun w _ o ho _ => x_indexAddr hx hy hu hs h0 h1 ho) h
theorem r_indexArr {t e : TypeId} {x y : Operand} {b o' n sz : Nat} {kk : IntKind} {j : Int} (ho : opI c i = some (d, .indexAddr t x y, ty)) (hw : wantI c l i = true) (hx : evL l x = .pointer (some ⟨b, o', none⟩)) (hy : evL l y = .int kk j)
  (hu : P.underlying t = some (.array n e)) (hs : pureSem P (sizeOf e) = some sz) (h0 : 0 ≤ j) (h1 : j < n)
  (h : Runs P f (.inRegion (opsOf c) rest :: k) (putL l d (.pointer (some ⟨b, o' + j.toNat * sz, none⟩))) w R) : Runs P f (.inRegion (opsOf c) (i :: rest) :: k) l w R :=
 r_val ho hw (fun o ho _ => x_indexArr hx hy hu hs h0 h1 ho) h
theorem q_indexArr {t e : TypeId} {x y : Operand} {b o' n sz : Nat} {kk : IntKind} {j : Int} (ho : opI c i = some (d, .indexAddr t x y, ty)) (hw : wantI c l i = true) (hx : evL l x = .pointer (some ⟨b, o', none⟩)) (hy : evL l y = .int kk j)
  (hu : P.underlying t = some (.array n e)) (hs : pureSem P (sizeOf e) = some sz) (h0 : 0 ≤ j) (h1 : j < n)
  (h : Qs P (opsOf c) C rest (putL l d (.pointer (some ⟨b, o' + j.toNat * sz, none⟩))) F) : Qs P (opsOf c) C (i :: rest) l F :=
 q_val ho hw (fun w _ o ho _ => x_indexArr hx hy hu hs h0 h1 ho) h
theorem r_store {t : TypeId} {x y : Operand} {b o : Nat} {e : TypeId} {cs : List Value} {v : Value} {vs cs' : List Value} (hS : St w0 Z (xblk b e cs :: xs) w) (ho : opI c i = some (d, .store t x y, ty)) (hw : wantI c l i = true) (hx : evL l x = .pointer (some ⟨b, o, none⟩)) (hy : evL l y = v)
  (hv : v.cells = vs.toArray) (hs : pureSem P (sizeOf t) = some vs.length) (h1 : vs.all Value.oneCell' = true) (hl : o + vs.length ≤ cs.length) (he : over cs o vs = cs')
  (h : ∀ w', St w0 Z (xblk b e cs' :: xs) w' → Runs P f (.inRegion (opsOf c) rest :: k) (putL l d undef) w' R) : Runs P f (.inRegion (opsOf c) (i :: rest) :: k) l w R := by
 obtain ⟨w', hst, hb', hf⟩ := stores (P := P) (t := t) (o := o) (show Blk w b e cs from hS.hd) hv hs h1 hl
 exact r_done ho hw (fun o ho _ => x_store hx hy hst ho) (h w' (hS.setblk hf (he ▸ hb')))
end
/-! ### Small words for a pure function's tests -/
theorem ite_some {α : Type} {p : Prop} [Decidable p] {x : Option α} {r : α} (h : (if p then x else none) = some r) : p ∧ x = some r := by
 split at h
 ·exact ⟨by assumption, h⟩
 ·cases h
theorem ite_t {α : Type} {t : Bool} {x y : α} {r : α} (h : (if t = true then x else y) = r) (ht : t = true) : x = r := by rw [if_pos ht] at h; exact h
theorem ite_f {α : Type} {t : Bool} {x y : α} {r : α} (h : (if t = true then x else y) = r) (ht : t = false) : y = r := by rw [if_neg (by simp [ht])] at h; exact h
theorem bind_some' {α β : Type} {x : Option α} {g : α → Option β} {r : β} (h : x.bind g = some r) : ∃ t, x = some t ∧ g t = some r := Option.bind_eq_some_iff.1 h
def fill : List (Option Value) → List Value → List Value
 | [], _ => []
 | some v :: m, l => v :: fill m l.tail
 | none :: m, l => l.headD undef :: fill m l.tail
def mk (n : Nat) (us : List (Nat × Value)) : List (Option Value) := (List.range n).map fun i => us.lookup i
section
variable {P : Program} {f : Fx} {todo todo' k : List Item} {l l' : List Value} {w w' : World} {R : Ending → World → Prop} {C : World → Prop} {F : List Value → Prop}
theorem Runs.fill (m : List (Option Value)) (he : l = fill m l) (h : Runs P f todo (K.fill m l) w R) : Runs P f todo l w R := by rw [he]; exact h
theorem r_quiet {c : Code} {id : Nat} {w0 : World} {Z : Zm} {xs : List XObj} (hS : St w0 Z xs w) (hc : c = .region id (opsOf c) true) (hm : P.follows .mixedOrders = true) (hB : Region.lexB .any (opsOf c) = true) {is : List Nat} (hi : List.range (opsOf c).size = is)
  (h : Qs P (opsOf c) (St w0 Z xs) is l (fun l' => ∀ w', St w0 Z xs w' → Runs P f k l' w' R)) (hro : (bs f).roundOf = none ∨ noDef (opsOf c) = true := by first | exact .inl rfl | exact .inr (by kernel_rfl)) : Runs P f (.code c :: k) l w R := by
 rw [hc]
 subst hi
 exact runs_quiet hm hB hS.drew h hro
/-! ### Calls -/
def opO (c : Code) (i : Nat) : Oper := match (opsOf c)[i]? with | some o => o | none => ⟨none, .ready 0, 0, "", #[], none⟩
def hasO (c : Code) (i : Nat) : Bool := match (opsOf c)[i]? with | some _ => true | none => false
theorem opO_spec {c : Code} {i : Nat} (h : hasO c i = true) : (opsOf c)[i]? = some (opO c i) := by
 unfold hasO at h
 unfold opO
 split at h
 ·rename_i o ho; rw [ho]
 ·cases h
theorem r_call1 {c : Code} {i : Nat} {rest : List Nat} {d : Option Tmp} {g : FuncId} {args : Array Value} {S : Ending → World → Prop} (ho : hasO c i = true) (hd : (opO c i).dst = d) (hw : wantI c l i = true)
  (hr : pureSem P (execOp (evL l) (opO c i)) = some (.enter g args)) (hc : Calls P g args w S)
  (h : ∀ e w1, S e w1 → ∃ v, e = .returned v ∧ Runs P f (.inRegion (opsOf c) rest :: k) (putL l d v) w1 R) : Runs P f (.inRegion (opsOf c) (i :: rest) :: k) l w R := by
 subst hd
 exact runs_op_call (opO_spec ho) (wantI_spec (opO_spec ho) hw) (pureSem_run hr) hc h
theorem q_call1 {c : Code} {i : Nat} {rest : List Nat} {d : Option Tmp} {v : Value} {g : FuncId} {args : Array Value} (ho : hasO c i = true) (hd : (opO c i).dst = d) (hw : wantI c l i = true)
  (hr : pureSem P (execOp (evL l) (opO c i)) = some (.enter g args)) (hc : ∀ w, C w → Calls P g args w fun e w' => e = .returned v ∧ C w')
  (h : Qs P (opsOf c) C rest (putL l d v) F) : Qs P (opsOf c) C (i :: rest) l F := by
 subst hd
 exact .call (opO_spec ho) (wantI_spec (opO_spec ho) hw) (fun w _ => pureSem_run hr) hc h
theorem calls_abs {g : FuncId} {args : Array Value} {Q : Ending → World → Prop} (h : ∀ R : Ending → World → Prop, (∀ e w', Q e w' → R e w') → Calls P g args w R) : Calls P g args w Q := h Q fun _ _ h => h
end
/-! ### Results, some of them in memory -/
inductive ResL (P : Program) (l : List Value) (w : World) : List ResultVar → List Value → Prop where
 | nil : ResL P l w [] []
 | tmp {t : Tmp} {v : Value} {rs : List ResultVar} {vs : List Value} (h : l.getD t undef = v) (r : ResL P l w rs vs) : ResL P l w (.tmp t :: rs) (v :: vs)
 | cell {t : Tmp} {ty : TypeId} {p : Addr} {v : Value} {rs : List ResultVar} {vs : List Value} (h : l.getD t undef = .pointer (some p)) (hl : LoadsTo P w ty p v) (r : ResL P l w rs vs) : ResL P l w (.cell t ty :: rs) (v :: vs)
def resV : List Value → Value
 | [v] => v
 | vs => .tuple vs.toArray
theorem mapM_list {α β : Type} (f : α → Sem β) (l : List α) : l.toArray.mapM f = (fun l => l.toArray) <$> l.mapM f := by simp
noncomputable def resF (l : List Value) : ResultVar → Sem Value
 | .tmp t => pure (l.toArray.getD t undef)
 | .cell a t => do loadVar t (← asAddr (l.toArray.getD a undef))
theorem resl_key {P : Program} {l : List Value} {w : World} {rs : List ResultVar} {vs : List Value} (h : ResL P l w rs vs) : (rs.mapM (resF l)).run P w = .ok vs w := by
  induction h with
  | nil => rfl
  | @tmp t v rs vs h r ih =>
    have e : (resF l (.tmp t)).run P w = .ok v w := by
      simp only [resF]
      rw [show l.toArray.getD t undef = v from by simpa using h, Sem.run_pure]
    simp only [List.mapM_cons, Sem.run_bind, e, Result.andThen_ok, ih, Sem.run_pure]
  | @cell t ty p v rs vs h hl r ih =>
    have e : (resF l (.cell t ty)).run P w = .ok v w := by
      simp only [resF]
      rw [show l.toArray.getD t undef = .pointer (some p) from by simpa using h]
      simp only [asAddr, Sem.run_bind, Sem.run_pure, Result.andThen_ok, show (loadVar ty p).run P w = .ok v w from hl]
    simp only [List.mapM_cons, Sem.run_bind, e, Result.andThen_ok, ih, Sem.run_pure]
theorem resl_run {P : Program} {fn : Func} {l : List Value} {w : World} {rs : List ResultVar} {vs : List Value} (hr : fn.results = rs.toArray) (h : ResL P l w rs vs) : (results fn l.toArray).run P w = .ok (resV vs) w := by
 have e : results fn l.toArray = (do
   let vs ← fn.results.mapM (resF l)
   pure (if h : vs.size = 1 then vs[0] else .tuple vs)) := by
  unfold results
  congr 1
 rw [e, hr, mapM_list]
 simp only [Sem.run_bind, Sem.run_map, resl_key h, Result.andThen_ok, Sem.run_pure]
 match vs with
 | [] => rfl
 | [v] => rfl
 | v :: u :: vs => simp [resV]
def shrI (k : IntKind) (x y : Int) : Int := x.fdiv (2 ^ (min y.toNat k.bits))
def bmax (x y : Int) : Int := if y > x then y else x
def seq (x y : ByteArray) : Bool := x.toList == y.toList
def byt (s : ByteArray) (i : Int) : Int := ((s.data.toList.getD i.toNat 0).toNat : Int)
def vget {α : Type} [Inhabited α] {n : Nat} (v : Vector α n) (i : Int) : α := v.toList.getD i.toNat default
def vset {α : Type} {n : Nat} (v : Vector α n) (i : Int) (x : α) : Vector α n := v.setIfInBounds i.toNat x
def encV {α : Type} {n : Nat} (enc : α → List Value) (v : Vector α n) : List Value := v.toList.flatMap enc
def encI (k : IntKind) (x : Int) : List Value := [.int k x]
def encB (x : Bool) : List Value := [.bool x]
def encS (x : ByteArray) : List Value := [.string x]
section
variable {P : Program} {l : List Value} {w : World}
theorem x_indexStr {o : Oper} {t : TypeId} {x y : Operand} {s : ByteArray} {kk : IntKind} {j : Int} (hx : evL l x = .string s) (hy : evL l y = .int kk j) (hu : P.underlying t = some .string)
  (h0 : 0 ≤ j) (h1 : j < s.size) (ho : o.op = .index t x y) : (execOp (evL l) o).run P w = .ok (.value (.int .u8 (byt s j))) w := by
 have hs : s[j.toNat]? = some (s.data.toList.getD j.toNat 0) := by
  have hj : j.toNat < s.size := by omega
  rw [List.getD_eq_getElem?_getD]
  have : s.data.toList[j.toNat]? = some (s.data.toList[j.toNat]'(by simpa using hj)) := List.getElem?_eq_getElem _
  rw [this]
  simp only [Option.getD_some]
  rw [getElem?_pos s j.toNat hj]
  rfl
 unfold execOp
 simp [ho, hx, hy, Instr.index, asIntOf, run_underlying hu, h0, hs, byt]
end
/-! ### Cuts -/
section
variable {P : Program} {l : List Value} {w : World}
theorem run_sliceBound {kk : IntKind} {j : Int} {y : Nat} {code : BoundsCode} (h0 : 0 ≤ j) (h1 : j ≤ (y : Int)) : (Instr.sliceBound (.int kk j) y code).run P w = .ok j.toNat w := by
 simp [Instr.sliceBound, asIntOf, h0, h1]
theorem sb_nn (b : Bool) (n c : Nat) : (Instr.sliceBounds b n c none none none).run P w = .ok (0, n, c) w := by simp [Instr.sliceBounds]
theorem sb_sn (b : Bool) (n c : Nat) {k : IntKind} {i : Int} (h0 : 0 ≤ i) (h1 : i ≤ (n : Int)) : (Instr.sliceBounds b n c (some (.int k i)) none none).run P w = .ok (i.toNat, n, c) w := by
 simp [Instr.sliceBounds, run_sliceBound h0 h1]
theorem sb_ns (b : Bool) (n c : Nat) {k : IntKind} {i : Int} (h0 : 0 ≤ i) (h1 : i ≤ (c : Int)) : (Instr.sliceBounds b n c none (some (.int k i)) none).run P w = .ok (0, i.toNat, c) w := by
 simp [Instr.sliceBounds, run_sliceBound h0 h1]
variable {o : Oper} {t e : TypeId} {x lo hi : Operand} {s : ByteArray} {a : Addr} {n : Nat} {i j : Int} {k k' : IntKind} {v : Value}
theorem x_cutStr_sn (hx : evL l x = .string s) (hl : evL l lo = .int k i) (hu : P.underlying t = some .string) (hg : 0 ≤ i ∧ i ≤ (s.size : Int)) (ho : o.op = .slice t x (some lo) none none) : (execOp (evL l) o).run P w = .ok (.value (.string (s.extract i.toNat s.size))) w := by
 unfold execOp
 simp [ho, hx, hl, Instr.sliceAt, run_underlying hu, Instr.slice, sb_sn _ _ _ hg.1 hg.2]
end
end Go.Proofs.YtcjaknnihjcajaaGreat.K
