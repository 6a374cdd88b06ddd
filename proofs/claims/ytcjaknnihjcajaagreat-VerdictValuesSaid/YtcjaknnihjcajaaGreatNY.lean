/- Short forms of the engine's rules: what can be reckoned is not written: the list behind a stretch of steps, an operation's own numbers. -/
import Derived.Test.YtcjaknnihjcajaaGreatNX
import Derived.Test.YtcjaknnihjcajaaGreatNG
set_option linter.unusedVariables false
set_option linter.unusedSimpArgs false
namespace Go.Proofs.YtcjaknnihjcajaaGreat.K
open Go Go.RowKit
def sxT (P : Program) (n : Nat) (k : List Item) (l : List Value) : Option (List Item) := match sx P n k l with
 | some (k', _) => some k'
 | none => none
def sxL (P : Program) (n : Nat) (k : List Item) (l : List Value) : List Value := match sx P n k l with
 | some (_, l') => l'
 | none => l
def sqT (P : Program) (ops : Array Oper) (n : Nat) (is : List Nat) (l : List Value) : Option (List Nat) := match sxOps P ops n is l with
 | some (is', _) => some is'
 | none => none
def sqL (P : Program) (ops : Array Oper) (n : Nat) (is : List Nat) (l : List Value) : List Value := match sxOps P ops n is l with
 | some (_, l') => l'
 | none => l
def rg : Nat → Nat → List Nat
 | _, 0 => []
 | a, n + 1 => a :: rg (a + 1) n
abbrev iR (c : Code) (a n : Nat) : Item := .inRegion (opsOf c) (rg a n)
def dI (c : Code) (i : Nat) : Option Tmp := match (opsOf c)[i]? with | some o => o.dst | none => none
def opD (c : Code) (i : Nat) : Option Op := match (opsOf c)[i]? with | some o => some o.op | none => none
def tyD (c : Code) (i : Nat) : TypeId := match (opsOf c)[i]? with | some o => o.type | none => 0
theorem opD_spec {c : Code} {i : Nat} {op : Op} (h : opD c i = some op) : opI c i = some (dI c i, op, tyD c i) := by
 unfold opD at h
 unfold opI dI tyD
 split at h
 ·rename_i o ho; rw [ho]; simp only [Option.some.injEq] at h; subst h; rfl
 ·cases h
theorem set_same {l : List Value} {d : Nat} {v : Value} (h : l[d]? = some v) : l.set d v = l := by
 apply List.ext_getElem?
 intro j
 rw [List.getElem?_set]
 split
 ·rename_i hj; subst hj
  have hlt := (List.getElem?_eq_some_iff.1 h).1
  rw [if_pos hlt, h]
 ·rfl
section
variable {P : Program} {f : Fx} {todo todo' k : List Item} {l l' : List Value} {w w' : World} {R : Ending → World → Prop} {C : World → Prop} {F : List Value → Prop}
 {c : Code} {i : Nat} {rest : List Nat} {w0 : World} {Z : Zm} {xs : List XObj}
theorem sxT_spec {n : Nat} (h : sxT P n todo l = some todo') : sx P n todo l = some (todo', sxL P n todo l) := by
 unfold sxT at h
 unfold sxL
 split at h
 ·rename_i k' l' e; rw [e]; simp only [Option.some.injEq] at h; subst h; rfl
 ·cases h
theorem sqT_spec {ops : Array Oper} {n : Nat} {is is' : List Nat} (h : sqT P ops n is l = some is') : sxOps P ops n is l = some (is', sqL P ops n is l) := by
 unfold sqT at h
 unfold sqL
 split at h
 ·rename_i k' l' e; rw [e]; simp only [Option.some.injEq] at h; subst h; rfl
 ·cases h
theorem sR (n : Nat) (todo' : List Item) (h : Runs P f todo' (sxL P n todo l) w R) (hs : sxT P n todo l = some todo' := by kernel_rfl) : Runs P f todo l w R := sx_sound n (sxT_spec hs) h
theorem sS (n : Nat) (todo' : List Item) (d : Nat) (t : Bool) (ht : t = true → Runs P f todo' ((sxL P n todo l).set d (.bool true)) w R) (hf : t = false → Runs P f todo' ((sxL P n todo l).set d (.bool false)) w R)
  (hs : sxT P n todo l = some todo' := by kernel_rfl) (hd : (sxL P n todo l)[d]? = some (.bool t) := by kernel_rfl) : Runs P f todo l w R := by
 refine sx_sound n (sxT_spec hs) ?_
 rw [← set_same hd]
 cases t
 ·exact hf rfl
 ·exact ht rfl
theorem qR (n : Nat) {ops : Array Oper} {is : List Nat} (is' : List Nat) (h : Qs P ops C is' (sqL P ops n is l) F) (hs : sqT P ops n is l = some is' := by kernel_rfl) : Qs P ops C is l F := Qs.pure n (sqT_spec hs) h
theorem qS (n : Nat) {ops : Array Oper} {is : List Nat} (is' : List Nat) (d : Nat) (t : Bool) (ht : t = true → Qs P ops C is' ((sqL P ops n is l).set d (.bool true)) F) (hf : t = false → Qs P ops C is' ((sqL P ops n is l).set d (.bool false)) F)
  (hs : sqT P ops n is l = some is' := by kernel_rfl) (hd : (sqL P ops n is l)[d]? = some (.bool t) := by kernel_rfl) : Qs P ops C is l F := by
 refine Qs.pure n (sqT_spec hs) ?_
 rw [← set_same hd]
 cases t
 ·exact hf rfl
 ·exact ht rfl
theorem rF (m : List (Option Value)) (h : Runs P f todo (K.fill m l) w R) (he : l = K.fill m l := by kernel_rfl) : Runs P f todo l w R := Runs.fill m he h
theorem sI {α : Type} {x y r : α} (n : Nat) (todo' : List Item) (d : Nat) {t : Bool} (hp : (if t = true then x else y) = r) (ht : x = r → Runs P f todo' ((sxL P n todo l).set d (.bool true)) w R) (hf : y = r → Runs P f todo' ((sxL P n todo l).set d (.bool false)) w R)
  (hs : sxT P n todo l = some todo' := by kernel_rfl) (hd : (sxL P n todo l)[d]? = some (.bool t) := by kernel_rfl) : Runs P f todo l w R := sS n todo' d t (fun h => ht (ite_t hp h)) (fun h => hf (ite_f hp h)) hs hd
theorem qI {α : Type} {x y r : α} (n : Nat) {ops : Array Oper} {is : List Nat} (is' : List Nat) (d : Nat) {t : Bool} (hp : (if t = true then x else y) = r) (ht : x = r → Qs P ops C is' ((sqL P ops n is l).set d (.bool true)) F) (hf : y = r → Qs P ops C is' ((sqL P ops n is l).set d (.bool false)) F)
  (hs : sqT P ops n is l = some is' := by kernel_rfl) (hd : (sqL P ops n is l)[d]? = some (.bool t) := by kernel_rfl) : Qs P ops C is l F := qS n is' d t (fun h => ht (ite_t hp h)) (fun h => hf (ite_f hp h)) hs hd
/-! ### Loads -/
theorem rL {p : Addr} {v : Value} (t : TypeId) (x : Operand) (hl : LoadsTo P w t p v) (h : Runs P f (.inRegion (opsOf c) rest :: k) (putL l (dI c i) v) w R) (ho : opD c i = some (.load t x) := by kernel_rfl) (hw : wantI c l i = true := by kernel_rfl) (hx : evL l x = .pointer (some p) := by kernel_rfl) :
  Runs P f (.inRegion (opsOf c) (i :: rest) :: k) l w R := r_load (opD_spec ho) hw hx hl h
theorem rLa {a : Addr} {cs : List Value} (t : TypeId) (x : Operand) (hl : Cells w a cs) (h : Runs P f (.inRegion (opsOf c) rest :: k) (putL l (dI c i) (.agg cs.toArray)) w R) (ho : opD c i = some (.load t x) := by kernel_rfl) (hw : wantI c l i = true := by kernel_rfl) (hx : evL l x = .pointer (some a) := by kernel_rfl)
  (ha : pureSem P (isAgg t) = some true := by kernel_rfl) (hs : pureSem P (sizeOf t) = some cs.length := by kernel_rfl) : Runs P f (.inRegion (opsOf c) (i :: rest) :: k) l w R := r_load (opD_spec ho) hw hx (loads_agg hl ha hs) h
theorem rL1 {b o : Nat} {cs : List Value} (t : TypeId) (x : Operand) (j : Nat) (hl : Cells w ⟨b, o, none⟩ cs) (h : Runs P f (.inRegion (opsOf c) rest :: k) (putL l (dI c i) (cs.getD j undef)) w R) (ho : opD c i = some (.load t x) := by kernel_rfl) (hw : wantI c l i = true := by kernel_rfl) (hx : evL l x = .pointer (some ⟨b, o + j, none⟩) := by kernel_rfl)
  (ha : pureSem P (isAgg t) = some false := by kernel_rfl) (hv : cs[j]? = some (cs.getD j undef) := by kernel_rfl) : Runs P f (.inRegion (opsOf c) (i :: rest) :: k) l w R := r_load (opD_spec ho) hw hx (loads_at j hl ha hv) h
theorem qL {p : Addr} {v : Value} (t : TypeId) (x : Operand) (hl : ∀ w, C w → LoadsTo P w t p v) (h : Qs P (opsOf c) C rest (putL l (dI c i) v) F) (ho : opD c i = some (.load t x) := by kernel_rfl) (hw : wantI c l i = true := by kernel_rfl) (hx : evL l x = .pointer (some p) := by kernel_rfl) :
  Qs P (opsOf c) C (i :: rest) l F := q_load (opD_spec ho) hw hx hl h
theorem qLa {a : Addr} {cs : List Value} (t : TypeId) (x : Operand) (hl : ∀ w, C w → Cells w a cs) (h : Qs P (opsOf c) C rest (putL l (dI c i) (.agg cs.toArray)) F) (ho : opD c i = some (.load t x) := by kernel_rfl) (hw : wantI c l i = true := by kernel_rfl) (hx : evL l x = .pointer (some a) := by kernel_rfl)
  (ha : pureSem P (isAgg t) = some true := by kernel_rfl) (hs : pureSem P (sizeOf t) = some cs.length := by kernel_rfl) : Qs P (opsOf c) C (i :: rest) l F := q_load (opD_spec ho) hw hx (fun w hC => loads_agg (hl w hC) ha hs) h
theorem qL1 {b o : Nat} {cs : List Value} (t : TypeId) (x : Operand) (j : Nat) (hl : ∀ w, C w → Cells w ⟨b, o, none⟩ cs) (h : Qs P (opsOf c) C rest (putL l (dI c i) (cs.getD j undef)) F) (ho : opD c i = some (.load t x) := by kernel_rfl) (hw : wantI c l i = true := by kernel_rfl) (hx : evL l x = .pointer (some ⟨b, o + j, none⟩) := by kernel_rfl)
  (ha : pureSem P (isAgg t) = some false := by kernel_rfl) (hv : cs[j]? = some (cs.getD j undef) := by kernel_rfl) : Qs P (opsOf c) C (i :: rest) l F := q_load (opD_spec ho) hw hx (fun w hC => loads_at j (hl w hC) ha hv) h
/-! ### Values, variables, stores, calls -/
theorem rV (op : Op) (v : Value) (hr : ∀ o : Oper, o.op = op → o.type = tyD c i → (execOp (evL l) o).run P w = .ok (.value v) w') (h : Runs P f (.inRegion (opsOf c) rest :: k) (putL l (dI c i) v) w' R)
  (ho : opD c i = some op := by kernel_rfl) (hw : wantI c l i = true := by kernel_rfl) : Runs P f (.inRegion (opsOf c) (i :: rest) :: k) l w R := r_val (opD_spec ho) hw hr h
theorem qV (op : Op) (v : Value) (hr : ∀ w, C w → ∀ o : Oper, o.op = op → o.type = tyD c i → (execOp (evL l) o).run P w = .ok (.value v) w) (h : Qs P (opsOf c) C rest (putL l (dI c i) v) F)
  (ho : opD c i = some op := by kernel_rfl) (hw : wantI c l i = true := by kernel_rfl) : Qs P (opsOf c) C (i :: rest) l F := q_val (opD_spec ho) hw hr h
theorem rA (t : TypeId) (z : Value) (cs : List Value) (hS : St w0 Z xs w) (h : ∀ b w', St w0 Z (xblk b t cs :: xs) w' → Runs P f (.inRegion (opsOf c) rest :: k) (putL l (dI c i) (.pointer (some ⟨b, 0, none⟩))) w' R)
  (ho : opD c i = some (.alloc t) := by kernel_rfl) (hw : wantI c l i = true := by kernel_rfl) (hz : pureSem P (zeroValue t) = some z := by kernel_rfl) (hv : z.cells = cs.toArray := by kernel_rfl) : Runs P f (.inRegion (opsOf c) (i :: rest) :: k) l w R := r_alloc hS (opD_spec ho) hw hz hv h
theorem rS {b : Nat} {e : TypeId} {cs : List Value} (t : TypeId) (x y : Operand) (o : Nat) (v : Value) (vs cs' : List Value) (hS : St w0 Z (xblk b e cs :: xs) w)
  (h : ∀ w', St w0 Z (xblk b e cs' :: xs) w' → Runs P f (.inRegion (opsOf c) rest :: k) (putL l (dI c i) undef) w' R) (ho : opD c i = some (.store t x y) := by kernel_rfl) (hw : wantI c l i = true := by kernel_rfl) (hx : evL l x = .pointer (some ⟨b, o, none⟩) := by kernel_rfl)
  (hy : evL l y = v := by kernel_rfl) (hv : v.cells = vs.toArray := by kernel_rfl) (hs : pureSem P (sizeOf t) = some vs.length := by kernel_rfl) (h1 : vs.all Value.oneCell' = true := by kernel_rfl) (hl : Nat.ble (o + vs.length) cs.length = true := by kernel_rfl) (he : over cs o vs = cs' := by kernel_rfl) :
  Runs P f (.inRegion (opsOf c) (i :: rest) :: k) l w R := r_store hS (opD_spec ho) hw hx hy hv hs h1 (Nat.le_of_ble_eq_true hl) he h
theorem rC {g : FuncId} {args : Array Value} {S : Ending → World → Prop} (hc : Calls P g args w S) (h : ∀ e w1, S e w1 → ∃ v, e = .returned v ∧ Runs P f (.inRegion (opsOf c) rest :: k) (putL l (dI c i) v) w1 R)
  (ho : hasO c i = true := by kernel_rfl) (hd : (opO c i).dst = dI c i := by kernel_rfl) (hw : wantI c l i = true := by kernel_rfl) (hr : pureSem P (execOp (evL l) (opO c i)) = some (.enter g args) := by kernel_rfl) : Runs P f (.inRegion (opsOf c) (i :: rest) :: k) l w R := r_call1 ho hd hw hr hc h
theorem rSA {b : Nat} {e : TypeId} {cs : List Value} (t : TypeId) (x y : Operand) (vs : List Value) (hS : St w0 Z (xblk b e cs :: xs) w) (h1 : vs.all Value.oneCell' = true)
  (h : ∀ w', St w0 Z (xblk b e vs :: xs) w' → Runs P f (.inRegion (opsOf c) rest :: k) (putL l (dI c i) undef) w' R) (ho : opD c i = some (.store t x y) := by kernel_rfl) (hw : wantI c l i = true := by kernel_rfl) (hx : evL l x = .pointer (some ⟨b, 0, none⟩) := by kernel_rfl)
  (hy : evL l y = .agg vs.toArray := by kernel_rfl) (hv : (Value.agg vs.toArray).cells = vs.toArray := by kernel_rfl) (hs : pureSem P (sizeOf t) = some vs.length := by kernel_rfl) (hl : Nat.ble (0 + vs.length) cs.length = true := by kernel_rfl) (he : over cs 0 vs = vs := by kernel_rfl) :
  Runs P f (.inRegion (opsOf c) (i :: rest) :: k) l w R := r_store hS (opD_spec ho) hw hx hy hv hs h1 (Nat.le_of_ble_eq_true hl) he h
theorem dS {b : Nat} {e : TypeId} {cs : List Value} {p : Prop} {or : Oper} {Post : Value → World → Prop} (t : TypeId) (x y : Operand) (o : Nat) (v : Value) (vs cs' : List Value) (hS : St w0 Z (xblk b e cs :: xs) w) (h : ∀ w', St w0 Z (xblk b e cs' :: xs) w' → Post undef w')
  (ho : or.op = .store t x y := by kernel_rfl) (hd : p := by kernel_rfl) (hx : evL l x = .pointer (some ⟨b, o, none⟩) := by kernel_rfl) (hy : evL l y = v := by kernel_rfl) (hv : v.cells = vs.toArray := by kernel_rfl) (hs : pureSem P (sizeOf t) = some vs.length := by kernel_rfl)
  (h1 : vs.all Value.oneCell' = true := by kernel_rfl) (hl : Nat.ble (o + vs.length) cs.length = true := by kernel_rfl) (he : over cs o vs = cs' := by kernel_rfl) : Does P (execOp (evL l) or) p w Post := does_storeG hS ho hd hx hy hv hs h1 (Nat.le_of_ble_eq_true hl) he h
theorem rRc {g : FuncId} {fn : Func} {rs : List ResultVar} {vs : List Value} (v : Value) (h : ResL P l w rs vs) (hf : P.funcs[g]? = some fn) (hR : R (.returned v) w) (hr : fn.results = rs.toArray := by kernel_rfl) (hv : resV vs = v := by exact rfl) :
  Runs P (fx g) (.code .ret :: k) l w R := by
 subst hv
 exact runs_ret hf (resl_run hr h) hR
theorem ResL.ca {a : Addr} {cs : List Value} {rs : List ResultVar} {vs : List Value} (t : Tmp) (ty : TypeId) (hl : Cells w a cs) (r : ResL P l w rs vs) (h : l.getD t undef = .pointer (some a) := by kernel_rfl) (ha : pureSem P (isAgg ty) = some true := by kernel_rfl) (hs : pureSem P (sizeOf ty) = some cs.length := by kernel_rfl) :
  ResL P l w (.cell t ty :: rs) (.agg cs.toArray :: vs) := .cell h (loads_agg hl ha hs) r
theorem ResL.tm {v : Value} {rs : List ResultVar} {vs : List Value} (t : Tmp) (r : ResL P l w rs vs) (h : l.getD t undef = v := by kernel_rfl) : ResL P l w (.tmp t :: rs) (v :: vs) := .tmp h r
theorem rR {g : FuncId} {fn : Func} (v : Value) (hf : P.funcs[g]? = some fn) (hR : R (.returned v) w) (hr : (results fn l.toArray).run P w = .ok v w := by kernel_rfl) : Runs P (fx g) (.code .ret :: k) l w R := runs_ret hf hr hR
end
/-! ### More short forms: indices, variables, elements, append, a call's head -/
def capV : Value → Nat
 | .slice _ _ c => c
 | _ => 0
def ikV : Value → IntKind
 | .int k _ => k
 | _ => .i64
def elT (P : Program) (t : TypeId) : TypeId := match P.underlying t with
 | some (.slice e) => e
 | _ => 0
def pthF : Nat → Nat → List Nat → List Nat
  | 0, _, acc => acc
  | f + 1, n, acc => match Nat.ble n 1 with
    | true => acc
    | false => pthF f (n / 2) (n % 2 :: acc)
def pth (n : Nat) : List Nat := pthF 200 n []
abbrev Rn (P : Program) (fid : FuncId) (todo : List Item) (n : Nat) (us : List (Nat × Value)) (l : List Value) (w : World) (R : Ending → World → Prop) : Prop := Runs P (fx fid) todo (K.fill (mk n us) l) w R
theorem oI {α : Type} {a b : α} (h : some a = some b) : a = b := Option.some.inj h
abbrev tC (c : Code) (k : List Item) : List Item := .code c :: k
abbrev tB (n : Nat) (k : List Item) : List Item := .inBlock n :: k
section
variable {P : Program} {f : Fx} {k : List Item} {l : List Value} {w : World} {R : Ending → World → Prop} {C : World → Prop} {F : List Value → Prop} {c : Code} {i : Nat} {rest : List Nat} {w0 : World} {Z : Zm} {xs : List XObj}
theorem rI (c : Code) (h : Runs P f (.code .ret :: k) l w R) (hc : c = .ret := by kernel_rfl) : Runs P f (.code c :: k) l w R := r_isret hc h
theorem rQ (hS : St w0 Z xs w) (c : Code) (id : Nat) (is : List Nat) (h : Qs P (opsOf c) (St w0 Z xs) is l (fun l' => ∀ w', St w0 Z xs w' → Runs P f k l' w' R)) (hc : c = .region id (opsOf c) true := by kernel_rfl) (hm : P.follows .mixedOrders = true := by kernel_rfl) (hB : Region.lexB .any (opsOf c) = true := by kernel_rfl) (hi : List.range (opsOf c).size = is := by kernel_rfl)
  (hro : (bs f).roundOf = none ∨ noDef (opsOf c) = true := by first | exact .inl rfl | exact .inr (by kernel_rfl)) : Runs P f (.code c :: k) l w R := r_quiet hS hc hm hB hi h hro
theorem c0 {fid : FuncId} {fn : Func} {al : List Value} (hf : P.funcs[fid]? = some fn) (c : Code) (n : Nat) (h : Runs P (fx fid) [.code c] (al ++ List.replicate n undef) w R) (hb : fn.body = some c := by kernel_rfl) (hn : fn.ntmps - al.length = n := by kernel_rfl) : Calls P fid al.toArray w R := calls_of_runs hf hb rfl hn h
theorem rX {A : Option Addr} {n b p : Nat} {j : Int} (t sz : Nat) (x y : Operand) (hA : A = some ⟨b, p, none⟩) (g : 0 ≤ j ∧ j < (n : Int)) (h : Runs P f (.inRegion (opsOf c) rest :: k) (putL l (dI c i) (.pointer (some ⟨b, p + j.toNat * sz, none⟩))) w R)
  (ho : opD c i = some (.indexAddr t x y) := by kernel_rfl) (hw : wantI c l i = true := by kernel_rfl) (hx : evL l x = .slice A n (capV (evL l x)) := by kernel_rfl) (hy : evL l y = .int (ikV (evL l y)) j := by kernel_rfl) (hu : P.underlying t = some (.slice (elT P t)) := by kernel_rfl) (hs : pureSem P (sizeOf (elT P t)) = some sz := by kernel_rfl) :
  Runs P f (.inRegion (opsOf c) (i :: rest) :: k) l w R := r_indexAddr (opD_spec ho) hw (slv hx hA) hy hu hs g.1 g.2 h
theorem qX {A : Option Addr} {n b p : Nat} {j : Int} (t sz : Nat) (x y : Operand) (hA : A = some ⟨b, p, none⟩) (g : 0 ≤ j ∧ j < (n : Int)) (h : Qs P (opsOf c) C rest (putL l (dI c i) (.pointer (some ⟨b, p + j.toNat * sz, none⟩))) F)
  (ho : opD c i = some (.indexAddr t x y) := by kernel_rfl) (hw : wantI c l i = true := by kernel_rfl) (hx : evL l x = .slice A n (capV (evL l x)) := by kernel_rfl) (hy : evL l y = .int (ikV (evL l y)) j := by kernel_rfl) (hu : P.underlying t = some (.slice (elT P t)) := by kernel_rfl) (hs : pureSem P (sizeOf (elT P t)) = some sz := by kernel_rfl) :
  Qs P (opsOf c) C (i :: rest) l F := q_indexAddr (opD_spec ho) hw (slv hx hA) hy hu hs g.1 g.2 h
theorem rB (t : TypeId) (x : Operand) (cs : List Value) (hS : St w0 Z xs w) (h : ∀ b w', St w0 Z (xblk b t cs :: xs) w' → Runs P f (.inRegion (opsOf c) rest :: k) (putL l (dI c i) (.pointer (some ⟨b, 0, none⟩))) w' R)
  (ho : opD c i = some (.box t x) := by kernel_rfl) (hw : wantI c l i = true := by kernel_rfl) (hv : (evL l x).cells = cs.toArray := by kernel_rfl) : Runs P f (.inRegion (opsOf c) (i :: rest) :: k) l w R := r_box hS (opD_spec ho) hw rfl hv h
theorem rSE {α : Type} [Inhabited α] {enc : α → List Value} {e : TypeId} {sz cp : Nat} {A : Option Addr} {us : List α} {j : Int} {b p : Nat} (t : TypeId) (x y : Operand) (el' : α) (off : Nat) (v : Value) (vs : List Value) (hS : St w0 Z (xrow A cp e sz (us.flatMap enc) :: xs) w) (hA : A = some ⟨b, p, none⟩) (hj : 0 ≤ j ∧ j < us.length) (hl : ∀ x, (enc x).length = sz)
  (h : ∀ w', St w0 Z (xrow A cp e sz ((setl us j el').flatMap enc) :: xs) w' → Runs P f (.inRegion (opsOf c) rest :: k) (putL l (dI c i) undef) w' R) (ho : opD c i = some (.store t x y) := by kernel_rfl) (hw : wantI c l i = true := by kernel_rfl) (hx : evL l x = .pointer (some ⟨b, p + j.toNat * sz + off, none⟩) := by kernel_rfl)
  (hy : evL l y = v := by kernel_rfl) (hv : v.cells = vs.toArray := by kernel_rfl) (hs : pureSem P (sizeOf t) = some vs.length := by kernel_rfl) (h1 : vs.all Value.oneCell' = true := by kernel_rfl) (hp1 : Nat.ble 1 vs.length = true := by kernel_rfl) (hlen : Nat.ble (off + vs.length) sz = true := by kernel_rfl) (he : over (enc (gt us j)) off vs = enc el' := by kernel_rfl) :
  Runs P f (.inRegion (opsOf c) (i :: rest) :: k) l w R := r_storeEl hS (opD_spec ho) hw hx rfl hy hA hj rfl hl hv hs h1 (Nat.le_of_ble_eq_true hp1) (Nat.le_of_ble_eq_true hlen) he h
theorem rAp {α : Type} {enc : α → List Value} {e : TypeId} {sz cp bytes : Nat} {A : Option Addr} {us ys : List α} {xv : Value} (u t t2 : TypeId) (s x : Operand) (hS : St w0 Z (xrow A cp e sz (us.flatMap enc) :: xs) w) (hl : ∀ x, (enc x).length = sz) (h1 : ∀ x, (enc x).all Value.oneCell' = true) (hc : Src P w sz xv ys.length (ys.flatMap enc)) (hb : (us.length + ys.length) * bytes ≤ 140737488355328)
  (h : ∀ A' c' w', St w0 Z (xrow A' c' e sz ((us ++ ys).flatMap enc) :: xs) w' → Runs P f (.inRegion (opsOf c) rest :: k) (putL l (dI c i) (.slice A' (us ++ ys).length c')) w' R)
  (ho : opD c i = some (.call { callee := .builtin .append, args := #[s, x], argTypes := #[t, t2] }) := by kernel_rfl) (hw : wantI c l i = true := by kernel_rfl) (hs : evL l s = .slice A us.length cp := by kernel_rfl) (hx : evL l x = xv := by kernel_rfl) (ht : P.underlying t = some (.slice e) := by kernel_rfl) (h2 : P.underlying t2 = some (.slice u) := by kernel_rfl)
  (hi : P.info? e = some (infoOf P e) := by kernel_rfl) (hz : (infoOf P e).zero = some (zeroOf P e) := by kernel_rfl) (hsize : (infoOf P e).size = sz := by kernel_rfl) (hby : (infoOf P e).bytes = bytes := by kernel_rfl) (hzs : (zeroOf P e).cells.size = sz := by kernel_rfl) (hsz : Nat.ble 1 sz = true := by kernel_rfl) (hb1 : Nat.ble 1 bytes = true := by kernel_rfl) :
  Runs P f (.inRegion (opsOf c) (i :: rest) :: k) l w R := r_append hS (opD_spec ho) hw hs hx ht (.inl h2) hi hz hsize hby hzs (Nat.le_of_ble_eq_true hsz) hl h1 hc rfl hb (Nat.le_of_ble_eq_true hb1) h
end
end Go.Proofs.YtcjaknnihjcajaaGreat.K
