/- Short forms of the engine's rules: what can be reckoned is not written: the list behind a stretch of steps, an operation's own numbers. -/
import Derived.Test.YtfiamlhhhkiiaaaNX
import Derived.Test.YtfiamlhhhkiiaaaNG
set_option linter.unusedVariables false
set_option linter.unusedSimpArgs false
namespace Go.Proofs.Ytfiamlhhhkiiaaa.K
open Go Go.RowKit

def sxT (P : Program) (n : Nat) (k : List Item) (l : List Value) : Option (List Item) := match sx P n k l with
  | some (k', _) => some k'
  | none => none
def sxL (P : Program) (n : Nat) (k : List Item) (l : List Value) : List Value := match sx P n k l with
  | some (_, l') => l'
  | none => l
def sqT (P : Program) (ops : Array Oper) (n : Nat) (is : List Nat) (l : List Value) : Option (List Nat) := match sxOps P ops n is l with
  | some (is', _) => some is'
  | none => none
def sqL (P : Program) (ops : Array Oper) (n : Nat) (is : List Nat) (l : List Value) : List Value := match sxOps P ops n is l with
  | some (_, l') => l'
  | none => l
/-- n numbers from a on. -/
def rg : Nat → Nat → List Nat
  | _, 0 => []
  | a, n + 1 => a :: rg (a + 1) n
abbrev iR (c : Code) (a n : Nat) : Item := .inRegion (opsOf c) (rg a n)
def dI (c : Code) (i : Nat) : Option Tmp := match (opsOf c)[i]? with | some o => o.dst | none => none
def opD (c : Code) (i : Nat) : Option Op := match (opsOf c)[i]? with | some o => some o.op | none => none
def tyD (c : Code) (i : Nat) : TypeId := match (opsOf c)[i]? with | some o => o.type | none => 0
theorem opD_spec {c : Code} {i : Nat} {op : Op} (h : opD c i = some op) : opI c i = some (dI c i, op, tyD c i) := by
  unfold opD at h
  unfold opI dI tyD
  split at h
  · rename_i o ho; rw [ho]; simp only [Option.some.injEq] at h; subst h; rfl
  · cases h
theorem set_same {l : List Value} {d : Nat} {v : Value} (h : l[d]? = some v) : l.set d v = l := by
  apply List.ext_getElem?
  intro j
  rw [List.getElem?_set]
  split
  · rename_i hj; subst hj
    have hlt := (List.getElem?_eq_some_iff.1 h).1
    rw [if_pos hlt, h]
  · rfl
section
variable {P : Program} {f : Fx} {todo todo' k : List Item} {l l' : List Value} {w w' : World} {R : Ending → World → Prop} {C : World → Prop} {F : List Value → Prop}
  {c : Code} {i : Nat} {rest : List Nat} {w0 : World} {Z : Zm} {xs : List XObj}
theorem sxT_spec {n : Nat} (h : sxT P n todo l = some todo') : sx P n todo l = some (todo', sxL P n todo l) := by
  unfold sxT at h
  unfold sxL
  split at h
  · rename_i k' l' e; rw [e]; simp only [Option.some.injEq] at h; subst h; rfl
  · cases h
theorem sqT_spec {ops : Array Oper} {n : Nat} {is is' : List Nat} (h : sqT P ops n is l = some is') : sxOps P ops n is l = some (is', sqL P ops n is l) := by
  unfold sqT at h
  unfold sqL
  split at h
  · rename_i k' l' e; rw [e]; simp only [Option.some.injEq] at h; subst h; rfl
  · cases h
theorem sR (n : Nat) (todo' : List Item) (h : Runs P f todo' (sxL P n todo l) w R) (hs : sxT P n todo l = some todo' := by kernel_rfl) : Runs P f todo l w R := sx_sound n (sxT_spec hs) h
theorem sS (n : Nat) (todo' : List Item) (d : Nat) (t : Bool) (ht : t = true → Runs P f todo' ((sxL P n todo l).set d (.bool true)) w R) (hf : t = false → Runs P f todo' ((sxL P n todo l).set d (.bool false)) w R)
    (hs : sxT P n todo l = some todo' := by kernel_rfl) (hd : (sxL P n todo l)[d]? = some (.bool t) := by kernel_rfl) : Runs P f todo l w R := by
  refine sx_sound n (sxT_spec hs) ?_
  rw [← set_same hd]
  cases t
  · exact hf rfl
  · exact ht rfl
theorem qR (n : Nat) {ops : Array Oper} {is : List Nat} (is' : List Nat) (h : Qs P ops C is' (sqL P ops n is l) F) (hs : sqT P ops n is l = some is' := by kernel_rfl) : Qs P ops C is l F := Qs.pure n (sqT_spec hs) h
theorem qS (n : Nat) {ops : Array Oper} {is : List Nat} (is' : List Nat) (d : Nat) (t : Bool) (ht : t = true → Qs P ops C is' ((sqL P ops n is l).set d (.bool true)) F) (hf : t = false → Qs P ops C is' ((sqL P ops n is l).set d (.bool false)) F)
    (hs : sqT P ops n is l = some is' := by kernel_rfl) (hd : (sqL P ops n is l)[d]? = some (.bool t) := by kernel_rfl) : Qs P ops C is l F := by
  refine Qs.pure n (sqT_spec hs) ?_
  rw [← set_same hd]
  cases t
  · exact hf rfl
  · exact ht rfl
theorem rF (m : List (Option Value)) (h : Runs P f todo (K.fill m l) w R) (he : l = K.fill m l := by kernel_rfl) : Runs P f todo l w R := Runs.fill m he h
theorem sI {α : Type} {x y r : α} (n : Nat) (todo' : List Item) (d : Nat) {t : Bool} (hp : (if t = true then x else y) = r) (ht : x = r → Runs P f todo' ((sxL P n todo l).set d (.bool true)) w R) (hf : y = r → Runs P f todo' ((sxL P n todo l).set d (.bool false)) w R)
    (hs : sxT P n todo l = some todo' := by kernel_rfl) (hd : (sxL P n todo l)[d]? = some (.bool t) := by kernel_rfl) : Runs P f todo l w R := sS n todo' d t (fun h => ht (ite_t hp h)) (fun h => hf (ite_f hp h)) hs hd
theorem qI {α : Type} {x y r : α} (n : Nat) {ops : Array Oper} {is : List Nat} (is' : List Nat) (d : Nat) {t : Bool} (hp : (if t = true then x else y) = r) (ht : x = r → Qs P ops C is' ((sqL P ops n is l).set d (.bool true)) F) (hf : y = r → Qs P ops C is' ((sqL P ops n is l).set d (.bool false)) F)
    (hs : sqT P ops n is l = some is' := by kernel_rfl) (hd : (sqL P ops n is l)[d]? = some (.bool t) := by kernel_rfl) : Qs P ops C is l F := qS n is' d t (fun h => ht (ite_t hp h)) (fun h => hf (ite_f hp h)) hs hd
/-! ### Loads -/
theorem rL {p : Addr} {v : Value} (t : TypeId) (x : Operand) (hl : LoadsTo P w t p v) (h : Runs P f (.inRegion (opsOf c) rest :: k) (putL l (dI c i) v) w R) (ho : opD c i = some (.load t x) := by kernel_rfl) (hw : wantI c l i = true := by kernel_rfl) (hx : evL l x = .pointer (some p) := by kernel_rfl) :
    Runs P f (.inRegion (opsOf c) (i :: rest) :: k) l w R := r_load (opD_spec ho) hw hx hl h
theorem rLa {a : Addr} {cs : List Value} (t : TypeId) (x : Operand) (hl : Cells w a cs) (h : Runs P f (.inRegion (opsOf c) rest :: k) (putL l (dI c i) (.agg cs.toArray)) w R) (ho : opD c i = some (.load t x) := by kernel_rfl) (hw : wantI c l i = true := by kernel_rfl) (hx : evL l x = .pointer (some a) := by kernel_rfl)
    (ha : pureSem P (isAgg t) = some true := by kernel_rfl) (hs : pureSem P (sizeOf t) = some cs.length := by kernel_rfl) : Runs P f (.inRegion (opsOf c) (i :: rest) :: k) l w R := r_load (opD_spec ho) hw hx (loads_agg hl ha hs) h
theorem rL1 {b o : Nat} {cs : List Value} (t : TypeId) (x : Operand) (j : Nat) (hl : Cells w ⟨b, o, none⟩ cs) (h : Runs P f (.inRegion (opsOf c) rest :: k) (putL l (dI c i) (cs.getD j undef)) w R) (ho : opD c i = some (.load t x) := by kernel_rfl) (hw : wantI c l i = true := by kernel_rfl) (hx : evL l x = .pointer (some ⟨b, o + j, none⟩) := by kernel_rfl)
    (ha : pureSem P (isAgg t) = some false := by kernel_rfl) (hv : cs[j]? = some (cs.getD j undef) := by kernel_rfl) : Runs P f (.inRegion (opsOf c) (i :: rest) :: k) l w R := r_load (opD_spec ho) hw hx (loads_at j hl ha hv) h
theorem qL {p : Addr} {v : Value} (t : TypeId) (x : Operand) (hl : ∀ w, C w → LoadsTo P w t p v) (h : Qs P (opsOf c) C rest (putL l (dI c i) v) F) (ho : opD c i = some (.load t x) := by kernel_rfl) (hw : wantI c l i = true := by kernel_rfl) (hx : evL l x = .pointer (some p) := by kernel_rfl) :
    Qs P (opsOf c) C (i :: rest) l F := q_load (opD_spec ho) hw hx hl h
theorem qLa {a : Addr} {cs : List Value} (t : TypeId) (x : Operand) (hl : ∀ w, C w → Cells w a cs) (h : Qs P (opsOf c) C rest (putL l (dI c i) (.agg cs.toArray)) F) (ho : opD c i = some (.load t x) := by kernel_rfl) (hw : wantI c l i = true := by kernel_rfl) (hx : evL l x = .pointer (some a) := by kernel_rfl)
    (ha : pureSem P (isAgg t) = some true := by kernel_rfl) (hs : pureSem P (sizeOf t) = some cs.length := by kernel_rfl) : Qs P (opsOf c) C (i :: rest) l F := q_load (opD_spec ho) hw hx (fun w hC => loads_agg (hl w hC) ha hs) h
theorem qL1 {b o : Nat} {cs : List Value} (t : TypeId) (x : Operand) (j : Nat) (hl : ∀ w, C w → Cells w ⟨b, o, none⟩ cs) (h : Qs P (opsOf c) C rest (putL l (dI c i) (cs.getD j undef)) F) (ho : opD c i = some (.load t x) := by kernel_rfl) (hw : wantI c l i = true := by kernel_rfl) (hx : evL l x = .pointer (some ⟨b, o + j, none⟩) := by kernel_rfl)
    (ha : pureSem P (isAgg t) = some false := by kernel_rfl) (hv : cs[j]? = some (cs.getD j undef) := by kernel_rfl) : Qs P (opsOf c) C (i :: rest) l F := q_load (opD_spec ho) hw hx (fun w hC => loads_at j (hl w hC) ha hv) h
/-! ### Values, variables, stores, calls -/
theorem rV (op : Op) (v : Value) (hr : ∀ o : Oper, o.op = op → o.type = tyD c i → (execOp (evL l) o).run P w = .ok (.value v) w') (h : Runs P f (.inRegion (opsOf c) rest :: k) (putL l (dI c i) v) w' R)
    (ho : opD c i = some op := by kernel_rfl) (hw : wantI c l i = true := by kernel_rfl) : Runs P f (.inRegion (opsOf c) (i :: rest) :: k) l w R := r_val (opD_spec ho) hw hr h
theorem qV (op : Op) (v : Value) (hr : ∀ w, C w → ∀ o : Oper, o.op = op → o.type = tyD c i → (execOp (evL l) o).run P w = .ok (.value v) w) (h : Qs P (opsOf c) C rest (putL l (dI c i) v) F)
    (ho : opD c i = some op := by kernel_rfl) (hw : wantI c l i = true := by kernel_rfl) : Qs P (opsOf c) C (i :: rest) l F := q_val (opD_spec ho) hw hr h
theorem rA (t : TypeId) (z : Value) (cs : List Value) (hS : St w0 Z xs w) (h : ∀ b w', St w0 Z (xblk b t cs :: xs) w' → Runs P f (.inRegion (opsOf c) rest :: k) (putL l (dI c i) (.pointer (some ⟨b, 0, none⟩))) w' R)
    (ho : opD c i = some (.alloc t) := by kernel_rfl) (hw : wantI c l i = true := by kernel_rfl) (hz : pureSem P (zeroValue t) = some z := by kernel_rfl) (hv : z.cells = cs.toArray := by kernel_rfl) : Runs P f (.inRegion (opsOf c) (i :: rest) :: k) l w R := r_alloc hS (opD_spec ho) hw hz hv h
theorem rS {b : Nat} {e : TypeId} {cs : List Value} (t : TypeId) (x y : Operand) (o : Nat) (v : Value) (vs cs' : List Value) (hS : St w0 Z (xblk b e cs :: xs) w)
    (h : ∀ w', St w0 Z (xblk b e cs' :: xs) w' → Runs P f (.inRegion (opsOf c) rest :: k) (putL l (dI c i) undef) w' R) (ho : opD c i = some (.store t x y) := by kernel_rfl) (hw : wantI c l i = true := by kernel_rfl) (hx : evL l x = .pointer (some ⟨b, o, none⟩) := by kernel_rfl)
    (hy : evL l y = v := by kernel_rfl) (hv : v.cells = vs.toArray := by kernel_rfl) (hs : pureSem P (sizeOf t) = some vs.length := by kernel_rfl) (h1 : vs.all Value.oneCell' = true := by kernel_rfl) (hl : Nat.ble (o + vs.length) cs.length = true := by kernel_rfl) (he : over cs o vs = cs' := by kernel_rfl) :
    Runs P f (.inRegion (opsOf c) (i :: rest) :: k) l w R := r_store hS (opD_spec ho) hw hx hy hv hs h1 (Nat.le_of_ble_eq_true hl) he h
theorem rC {g : FuncId} {args : Array Value} {S : Ending → World → Prop} (hc : Calls P g args w S) (h : ∀ e w1, S e w1 → ∃ v, e = .returned v ∧ Runs P f (.inRegion (opsOf c) rest :: k) (putL l (dI c i) v) w1 R)
    (ho : hasO c i = true := by kernel_rfl) (hd : (opO c i).dst = dI c i := by kernel_rfl) (hw : wantI c l i = true := by kernel_rfl) (hr : pureSem P (execOp (evL l) (opO c i)) = some (.enter g args) := by kernel_rfl) : Runs P f (.inRegion (opsOf c) (i :: rest) :: k) l w R := r_call1 ho hd hw hr hc h
theorem rCX {g : FuncId} {args : Array Value} {S : Ending → World → Prop} (hc : Calls P g args w S) (h : ∀ e w1, S e w1 → ∃ chain, e = .panicked chain ∧ Raised P f l chain w1 R)
    (ho : hasO c i = true := by kernel_rfl) (hd : (opO c i).dst = dI c i := by kernel_rfl) (hw : wantI c l i = true := by kernel_rfl) (hr : pureSem P (execOp (evL l) (opO c i)) = some (.enter g args) := by kernel_rfl) : Runs P f (.inRegion (opsOf c) (i :: rest) :: k) l w R := r_callX ho hd hw hr hc h
theorem rCB {g : FuncId} {args : Array Value} {S : Ending → World → Prop} (hc : Calls P g args w S) (h : ∀ e w1, S e w1 → (∃ v, e = .returned v ∧ Runs P f (.inRegion (opsOf c) rest :: k) (putL l (dI c i) v) w1 R) ∨ ∃ chain, e = .panicked chain ∧ Raised P f l chain w1 R)
    (ho : hasO c i = true := by kernel_rfl) (hd : (opO c i).dst = dI c i := by kernel_rfl) (hw : wantI c l i = true := by kernel_rfl) (hr : pureSem P (execOp (evL l) (opO c i)) = some (.enter g args) := by kernel_rfl) : Runs P f (.inRegion (opsOf c) (i :: rest) :: k) l w R := r_callB ho hd hw hr hc h
theorem rSA {b : Nat} {e : TypeId} {cs : List Value} (t : TypeId) (x y : Operand) (vs : List Value) (hS : St w0 Z (xblk b e cs :: xs) w) (h1 : vs.all Value.oneCell' = true)
    (h : ∀ w', St w0 Z (xblk b e vs :: xs) w' → Runs P f (.inRegion (opsOf c) rest :: k) (putL l (dI c i) undef) w' R) (ho : opD c i = some (.store t x y) := by kernel_rfl) (hw : wantI c l i = true := by kernel_rfl) (hx : evL l x = .pointer (some ⟨b, 0, none⟩) := by kernel_rfl)
    (hy : evL l y = .agg vs.toArray := by kernel_rfl) (hv : (Value.agg vs.toArray).cells = vs.toArray := by kernel_rfl) (hs : pureSem P (sizeOf t) = some vs.length := by kernel_rfl) (hl : Nat.ble (0 + vs.length) cs.length = true := by kernel_rfl) (he : over cs 0 vs = vs := by kernel_rfl) :
    Runs P f (.inRegion (opsOf c) (i :: rest) :: k) l w R := r_store hS (opD_spec ho) hw hx hy hv hs h1 (Nat.le_of_ble_eq_true hl) he h
theorem rSG {b : Nat} {e : TypeId} {cs : List Value} (t : TypeId) (x y : Operand) (o : Nat) (v : Value) (vs cs' : List Value) (hS : St w0 Z (xblk b e cs :: xs) w) (h1 : vs.all Value.oneCell' = true)
    (h : ∀ w', St w0 Z (xblk b e cs' :: xs) w' → Runs P f (.inRegion (opsOf c) rest :: k) (putL l (dI c i) undef) w' R) (ho : opD c i = some (.store t x y) := by kernel_rfl) (hw : wantI c l i = true := by kernel_rfl) (hx : evL l x = .pointer (some ⟨b, o, none⟩) := by kernel_rfl)
    (hy : evL l y = v := by kernel_rfl) (hv : v.cells = vs.toArray := by kernel_rfl) (hs : pureSem P (sizeOf t) = some vs.length := by kernel_rfl) (hl : Nat.ble (o + vs.length) cs.length = true := by kernel_rfl) (he : over cs o vs = cs' := by kernel_rfl) :
    Runs P f (.inRegion (opsOf c) (i :: rest) :: k) l w R := r_store hS (opD_spec ho) hw hx hy hv hs h1 (Nat.le_of_ble_eq_true hl) he h
theorem dP {sem : Sem Next} {v' : Value} {p : Prop} {Q : World → Prop} (v : Value) (hC : Q w) (h : pureSem P sem = some (.value v) := by kernel_rfl) (hv : v = v' := by exact rfl) : Does P sem p w fun u w' => u = v' ∧ Q w' := does_pure h hv hC
theorem dG {sem : Sem Next} {v' : Value} {p A : Prop} {Q : World → Prop} {g : Bool} (v : Value) (hC : Q w) (h : pureSem P sem = some (.value v) := by kernel_rfl) (hv : v = v' := by exact rfl) (hn : ¬ g = false := by decide) :
    (g = true → Does P sem p w fun u w' => u = v' ∧ Q w') ∧ (g = false → A) := ⟨fun _ => does_pure h hv hC, fun h => absurd h hn⟩
theorem dS {b : Nat} {e : TypeId} {cs : List Value} {p : Prop} {or : Oper} {Post : Value → World → Prop} (t : TypeId) (x y : Operand) (o : Nat) (v : Value) (vs cs' : List Value) (hS : St w0 Z (xblk b e cs :: xs) w) (h : ∀ w', St w0 Z (xblk b e cs' :: xs) w' → Post undef w')
    (ho : or.op = .store t x y := by kernel_rfl) (hd : p := by kernel_rfl) (hx : evL l x = .pointer (some ⟨b, o, none⟩) := by kernel_rfl) (hy : evL l y = v := by kernel_rfl) (hv : v.cells = vs.toArray := by kernel_rfl) (hs : pureSem P (sizeOf t) = some vs.length := by kernel_rfl)
    (h1 : vs.all Value.oneCell' = true := by kernel_rfl) (hl : Nat.ble (o + vs.length) cs.length = true := by kernel_rfl) (he : over cs o vs = cs' := by kernel_rfl) : Does P (execOp (evL l) or) p w Post := does_storeG hS ho hd hx hy hv hs h1 (Nat.le_of_ble_eq_true hl) he h
theorem dSG {b : Nat} {e : TypeId} {cs : List Value} {p : Prop} {or : Oper} {Post : Value → World → Prop} (t : TypeId) (x y : Operand) (o : Nat) (v : Value) (vs cs' : List Value) (hS : St w0 Z (xblk b e cs :: xs) w) (h1 : vs.all Value.oneCell' = true) (h : ∀ w', St w0 Z (xblk b e cs' :: xs) w' → Post undef w')
    (ho : or.op = .store t x y := by kernel_rfl) (hd : p := by kernel_rfl) (hx : evL l x = .pointer (some ⟨b, o, none⟩) := by kernel_rfl) (hy : evL l y = v := by kernel_rfl) (hv : v.cells = vs.toArray := by kernel_rfl) (hs : pureSem P (sizeOf t) = some vs.length := by kernel_rfl)
    (hl : Nat.ble (o + vs.length) cs.length = true := by kernel_rfl) (he : over cs o vs = cs' := by kernel_rfl) : Does P (execOp (evL l) or) p w Post := does_storeG hS ho hd hx hy hv hs h1 (Nat.le_of_ble_eq_true hl) he h
theorem rRc {g : FuncId} {fn : Func} {rs : List ResultVar} {vs : List Value} (v : Value) (h : ResL P l w rs vs) (hf : P.funcs[g]? = some fn) (hR : R (.returned v) w) (hr : fn.results = rs.toArray := by kernel_rfl) (hv : resV vs = v := by exact rfl) :
    Runs P (fx g) (.code .ret :: k) l w R := by
  subst hv
  exact runs_ret hf (resl_run hr h) hR
theorem ResL.ca {a : Addr} {cs : List Value} {rs : List ResultVar} {vs : List Value} (t : Tmp) (ty : TypeId) (hl : Cells w a cs) (r : ResL P l w rs vs) (h : l.getD t undef = .pointer (some a) := by kernel_rfl) (ha : pureSem P (isAgg ty) = some true := by kernel_rfl) (hs : pureSem P (sizeOf ty) = some cs.length := by kernel_rfl) :
    ResL P l w (.cell t ty :: rs) (.agg cs.toArray :: vs) := .cell h (loads_agg hl ha hs) r
theorem ResL.tm {v : Value} {rs : List ResultVar} {vs : List Value} (t : Tmp) (r : ResL P l w rs vs) (h : l.getD t undef = v := by kernel_rfl) : ResL P l w (.tmp t :: rs) (v :: vs) := .tmp h r
theorem rR {g : FuncId} {fn : Func} (v : Value) (hf : P.funcs[g]? = some fn) (hR : R (.returned v) w) (hr : (results fn l.toArray).run P w = .ok v w := by kernel_rfl) : Runs P (fx g) (.code .ret :: k) l w R := runs_ret hf hr hR
end
/-! ### A region that draws whose effects are stores into one variable, one behind the other; nothing else in it looks at memory -/
def allR : List Nat → (Nat → Prop) → Prop
  | [], _ => True
  | a :: l, p => p a ∧ allR l p
theorem allR_mem {p : Nat → Prop} : ∀ {l : List Nat}, allR l p → ∀ i ∈ l, p i
  | [], _, i, hi => absurd hi (by simp)
  | a :: l, h, i, hi => by
    rcases List.mem_cons.1 hi with rfl | hi
    · exact h.1
    · exact allR_mem h.2 i hi
def locL (c : Code) (v l0 : List Value) (eff lv sk : List Nat) (n r : Nat) : List Value := finX (opsOf c) (fun i => v.getD i undef) l0 (sk ++ lateL (opsOf c) eff lv r) n
def StoreL (P : Program) (l : List Value) (o : Oper) (b : Nat) (cs cs' : List Value) : Prop :=
  o.dst = none ∧ ∃ t x y off v vs, o.op = .store t x y ∧ evL l x = .pointer (some ⟨b, off, none⟩) ∧ evL l y = v ∧ v.cells = vs.toArray ∧ pureSem P (sizeOf t) = some vs.length ∧ vs.all Value.oneCell' = true ∧ off + vs.length ≤ cs.length ∧ over cs off vs = cs'
theorem sT {P : Program} {l : List Value} {o : Oper} {b : Nat} {cs cs' : List Value} (t : TypeId) (x y : Operand) (off : Nat) (v : Value) (vs : List Value) (hd : o.dst = none := by kernel_rfl) (ho : o.op = .store t x y := by kernel_rfl) (hx : evL l x = .pointer (some ⟨b, off, none⟩) := by kernel_rfl)
    (hy : evL l y = v := by kernel_rfl) (hv : v.cells = vs.toArray := by kernel_rfl) (hs : pureSem P (sizeOf t) = some vs.length := by kernel_rfl) (h1 : vs.all Value.oneCell' = true := by kernel_rfl) (hl : Nat.ble (off + vs.length) cs.length = true := by kernel_rfl) (he : over cs off vs = cs' := by kernel_rfl) : StoreL P l o b cs cs' :=
  ⟨hd, t, x, y, off, v, vs, ho, hx, hy, hv, hs, h1, Nat.le_of_ble_eq_true hl, he⟩
theorem sTG {P : Program} {l : List Value} {o : Oper} {b : Nat} {cs cs' : List Value} (t : TypeId) (x y : Operand) (off : Nat) (v : Value) (vs : List Value) (h1 : vs.all Value.oneCell' = true) (hd : o.dst = none := by kernel_rfl) (ho : o.op = .store t x y := by kernel_rfl) (hx : evL l x = .pointer (some ⟨b, off, none⟩) := by kernel_rfl)
    (hy : evL l y = v := by kernel_rfl) (hv : v.cells = vs.toArray := by kernel_rfl) (hs : pureSem P (sizeOf t) = some vs.length := by kernel_rfl) (hl : Nat.ble (off + vs.length) cs.length = true := by kernel_rfl) (he : over cs off vs = cs' := by kernel_rfl) : StoreL P l o b cs cs' :=
  ⟨hd, t, x, y, off, v, vs, ho, hx, hy, hv, hs, h1, Nat.le_of_ble_eq_true hl, he⟩
theorem rT {P : Program} {f : Fx} {k : List Item} {w w0 : World} {Z : Zm} {R : Ending → World → Prop} {c : Code} {l0 : List Value} {b : Nat} {e : TypeId} {os : List XObj} (id : Nat) (css : List (List Value)) (v : List Value) (s n : Nat) (eff lv ub sk pu ot : List Nat)
    (hS : St w0 Z (xblk b e (css.getD 0 []) :: os) w)
    (hx : allR ot fun i => ∀ w, (execOp (evL (locL c v l0 eff lv sk n (lv.getD i 0))) (opO c i)).run P w = .ok (.value (v.getD i undef)) w)
    (hst : allR (List.range eff.length) fun k => StoreL P (locL c v l0 eff lv sk n k) (opO c (eff.getD k 0)) b (css.getD k []) (css.getD (k + 1) []))
    (h : ∀ w', St w0 Z (xblk b e (css.getD eff.length []) :: os) w' → Runs P f k (finX (opsOf c) (fun i => v.getD i undef) l0 [] n) w' R)
    (hc : c = .region id (opsOf c) true := by kernel_rfl) (hm : P.follows .mixedOrders = true := by kernel_rfl) (hn : (opsOf c).size = n := by kernel_rfl)
    (hB : okE (opsOf c) l0.length s = true := by kernel_rfl) (hL : levB (opsOf c) eff lv = true := by kernel_rfl) (hU : upB (opsOf c) eff lv = true := by kernel_rfl) (hF : effB (opsOf c) eff lv = true := by kernel_rfl) (hR : readsG (opsOf c) eff lv sk = true := by kernel_rfl) (hY : ubB (opsOf c) eff ub = true := by kernel_rfl) (hN : noG (opsOf c) = true := by kernel_rfl)
    (ha : ((List.range n).all fun i => eff.contains i || pu.contains i || ot.contains i) = true := by kernel_rfl)
    (hp : pu.map (fun i => pureSem P (execOp (evL (locL c v l0 eff lv sk n (lv.getD i 0))) (opO c i))) = pu.map (fun i => some (Next.value (v.getD i undef))) := by kernel_rfl)
    (hro : (bs f).roundOf = none ∨ noDef (opsOf c) = true := by first | exact .inl rfl | exact .inr (by kernel_rfl)) : Runs P f (.code c :: k) l0 w R := by
  refine r_drawnG (S := Nat) (rank := fun r => r) (C := fun r w => r ≤ eff.length ∧ St w0 Z (xblk b e (css.getD r []) :: os) w) (v := fun _ => v) (c := c) (id := id) 0 s n eff lv ub sk hc hm hn hB hL hU hF hR hY hN rfl ⟨Nat.zero_le _, hS.drew⟩ (fun st w h => h.1) ?_ ?_ ?_ hro
  · intro i hi he st w hC hr hu
    have h1 := List.all_eq_true.1 ha i (List.mem_range.2 hi)
    simp only [he, Bool.false_or, Bool.or_eq_true] at h1
    rcases h1 with h1 | h1
    · have h2 : i ∈ pu := by simpa using h1
      exact does_pure (List.map_inj_left.1 hp i h2) rfl hC
    · exact does_run (allR_mem hx i (by simpa using h1) w) rfl hC
  · intro k hk st w hC hr
    subst hr
    obtain ⟨hd, t, x, y, off, v, vs, ho, hx, hy, hv, hs, h1, hl, he⟩ := allR_mem hst st (List.mem_range.2 hk)
    exact does_storeG hC.2 ho hd hx hy hv hs h1 hl he fun w' h2 => ⟨st + 1, rfl, fun _ _ => rfl, .inl hd, Nat.succ_le_of_lt hk, h2⟩
  · intro st w' hC hge
    have : st = eff.length := Nat.le_antisymm hC.1 hge
    subst this
    exact h w' hC.2
end Go.Proofs.Ytfiamlhhhkiiaaa.K
