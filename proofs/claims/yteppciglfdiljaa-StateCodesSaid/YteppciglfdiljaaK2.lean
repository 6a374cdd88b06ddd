/- The engine's words for whole stretches: a run of steps with what it writes, a test, a region that draws, a call, a return; bytes, bits, strings; append. -/
import Derived.Test.YteppciglfdiljaaK1
import Derived.Laws.Append
set_option linter.unusedVariables false
set_option linter.unusedSimpArgs false
namespace Go.Proofs.Yteppciglfdiljaa.K
open Go Go.RowKit

/-- The list with these values at their places, all else as it is. -/
def fill : List (Option Value) → List Value → List Value
  | [], _ => []
  | some v :: m, l => v :: fill m l.tail
  | none :: m, l => l.headD undef :: fill m l.tail
def puts (l : List Value) (us : List (Nat × Value)) : List Value := us.foldl (fun l u => l.set u.1 u.2) l

section
variable {P : Program} {f : FuncId} {todo todo' k : List Item} {l l' : List Value} {w w' : World} {R : Ending → World → Prop} {C : World → Prop} {F : List Value → Prop}
theorem Runs.fill (m : List (Option Value)) (he : l = fill m l) (h : Runs P f todo (K.fill m l) w R) : Runs P f todo l w R := by rw [he]; exact h
theorem sx_run (n : Nat) {us : List (Nat × Value)} (hs : sx P n todo l = some (todo', puts l us)) (h : Runs P f todo' (puts l us) w R) : Runs P f todo l w R := sx_sound n hs h
theorem q_run (n : Nat) {ops : Array Oper} {is is' : List Nat} {us : List (Nat × Value)} (hs : sxOps P ops n is l = some (is', puts l us)) (h : Qs P ops C is' (puts l us) F) : Qs P ops C is l F := Qs.pure n hs h
theorem sx_split (n : Nat) {us : List (Nat × Value)} {d : Nat} {t : Bool} (hs : sx P n todo l = some (todo', (puts l us).set d (.bool t)))
    (ht : t = true → Runs P f todo' ((puts l us).set d (.bool true)) w R) (hf : t = false → Runs P f todo' ((puts l us).set d (.bool false)) w R) : Runs P f todo l w R := by
  refine sx_sound n hs ?_
  cases t
  · exact hf rfl
  · exact ht rfl
theorem q_splitr (n : Nat) {ops : Array Oper} {is is' : List Nat} {us : List (Nat × Value)} {d : Nat} {t : Bool} (hs : sxOps P ops n is l = some (is', (puts l us).set d (.bool t)))
    (ht : t = true → Qs P ops C is' ((puts l us).set d (.bool true)) F) (hf : t = false → Qs P ops C is' ((puts l us).set d (.bool false)) F) : Qs P ops C is l F := by
  refine Qs.pure n hs ?_
  cases t
  · exact hf rfl
  · exact ht rfl

theorem ext_drew (w : World) : Ext w w.drew := (Below.refl _ _).drew
theorem r_quiet {c : Code} {id : Nat} {C : World → Prop} (hc : c = .region id (opsOf c) true) (hm : P.follows .mixedOrders = true) (hB : Region.lexB .any (opsOf c) = true) {is : List Nat} (hi : List.range (opsOf c).size = is) (hC : C w.drew)
    (h : Qs P (opsOf c) C is l (fun l' => ∀ w', C w' → Runs P f k l' w' R)) : Runs P f (.code c :: k) l w R := by
  rw [hc]
  subst hi
  exact runs_quiet hm hB hC h

/-! ### Calls -/
def opO (c : Code) (i : Nat) : Oper := match (opsOf c)[i]? with | some o => o | none => ⟨none, .ready 0, 0, "", #[], none⟩
def hasO (c : Code) (i : Nat) : Bool := match (opsOf c)[i]? with | some _ => true | none => false
theorem opO_spec {c : Code} {i : Nat} (h : hasO c i = true) : (opsOf c)[i]? = some (opO c i) := by
  unfold hasO at h
  unfold opO
  split at h
  · rename_i o ho; rw [ho]
  · cases h
/-- The operation, known by its place: its destination, that it is wanted, and what it does. -/
theorem r_call1 {c : Code} {i : Nat} {rest : List Nat} {d : Option Tmp} {g : FuncId} {args : Array Value} {S : Ending → World → Prop} (ho : hasO c i = true) (hd : (opO c i).dst = d) (hw : wantI c l i = true)
    (hr : pureSem P (execOp (evL l) (opO c i)) = some (.enter g args)) (hc : Calls P g args w S)
    (h : ∀ e w1, S e w1 → ∃ v, e = .returned v ∧ Runs P f (.inRegion (opsOf c) rest :: k) (putL l d v) w1 R) : Runs P f (.inRegion (opsOf c) (i :: rest) :: k) l w R := by
  subst hd
  exact runs_op_call (opO_spec ho) (wantI_spec (opO_spec ho) hw) (pureSem_run hr) hc h
theorem q_call1 {c : Code} {i : Nat} {rest : List Nat} {d : Option Tmp} {v : Value} {g : FuncId} {args : Array Value} (ho : hasO c i = true) (hd : (opO c i).dst = d) (hw : wantI c l i = true)
    (hr : pureSem P (execOp (evL l) (opO c i)) = some (.enter g args)) (hc : ∀ w, C w → Calls P g args w fun e w' => e = .returned v ∧ C w')
    (h : Qs P (opsOf c) C rest (putL l d v) F) : Qs P (opsOf c) C (i :: rest) l F := by
  subst hd
  exact .call (opO_spec ho) (wantI_spec (opO_spec ho) hw) (fun w _ => pureSem_run hr) hc h
theorem r_val1 {c : Code} {i : Nat} {rest : List Nat} {d : Option Tmp} {v : Value} (ho : hasO c i = true) (hd : (opO c i).dst = d) (hw : wantI c l i = true)
    (hr : (execOp (evL l) (opO c i)).run P w = .ok (.value v) w') (h : Runs P f (.inRegion (opsOf c) rest :: k) (putL l d v) w' R) : Runs P f (.inRegion (opsOf c) (i :: rest) :: k) l w R := by
  subst hd
  exact runs_op_value (opO_spec ho) (wantI_spec (opO_spec ho) hw) hr h
theorem q_val1 {c : Code} {i : Nat} {rest : List Nat} {d : Option Tmp} {v : Value} (ho : hasO c i = true) (hd : (opO c i).dst = d) (hw : wantI c l i = true)
    (hr : ∀ w, C w → (execOp (evL l) (opO c i)).run P w = .ok (.value v) w) (h : Qs P (opsOf c) C rest (putL l d v) F) : Qs P (opsOf c) C (i :: rest) l F := by
  subst hd
  exact .val (opO_spec ho) (wantI_spec (opO_spec ho) hw) hr h
theorem calls_abs {g : FuncId} {args : Array Value} {Q : Ending → World → Prop} (h : ∀ R : Ending → World → Prop, (∀ e w', Q e w' → R e w') → Calls P g args w R) : Calls P g args w Q := h Q fun _ _ h => h
/-- A contract, met in a region that draws. -/
theorem q_meet {g : FuncId} {args : Array Value} {w0 w : World} {v : Value} {S : Ending → World → Prop} (hC : Ext w0 w) (h : Calls P g args w S) (hS : ∀ e w', S e w' → e = .returned v ∧ Fr [] w w') :
    Calls P g args w fun e w' => e = .returned v ∧ Ext w0 w' := h.mono fun e w' hs => ⟨(hS e w' hs).1, Ext.trans hC (hS e w' hs).2.ext⟩
end

theorem ptr_eq {l : List Value} {x : Operand} {p q : Addr} (h : evL l x = .pointer (some p)) (hp : p = q) : evL l x = .pointer (some q) := hp ▸ h

/-! ### Results, some of them in memory -/
inductive ResL (P : Program) (l : List Value) (w : World) : List ResultVar → List Value → Prop where
  | nil : ResL P l w [] []
  | tmp {t : Tmp} {v : Value} {rs : List ResultVar} {vs : List Value} (h : l.getD t undef = v) (r : ResL P l w rs vs) : ResL P l w (.tmp t :: rs) (v :: vs)
  | cell {t : Tmp} {ty : TypeId} {p : Addr} {v : Value} {rs : List ResultVar} {vs : List Value} (h : l.getD t undef = .pointer (some p)) (hl : LoadsTo P w ty p v) (r : ResL P l w rs vs) : ResL P l w (.cell t ty :: rs) (v :: vs)
def resV : List Value → Value
  | [v] => v
  | vs => .tuple vs.toArray
theorem mapM_list {α β : Type} (f : α → Sem β) (l : List α) : l.toArray.mapM f = (fun l => l.toArray) <$> l.mapM f := by simp
noncomputable def resF (l : List Value) : ResultVar → Sem Value
  | .tmp t => pure (l.toArray.getD t undef)
  | .cell a t => do loadVar t (← asAddr (l.toArray.getD a undef))
theorem resl_key {P : Program} {l : List Value} {w : World} {rs : List ResultVar} {vs : List Value} (h : ResL P l w rs vs) : (rs.mapM (resF l)).run P w = .ok vs w := by
  induction h with
  | nil => rfl
  | @tmp t v rs vs h r ih =>
    have e : (resF l (.tmp t)).run P w = .ok v w := by
      simp only [resF]
      rw [show l.toArray.getD t undef = v from by simpa using h, Sem.run_pure]
    simp only [List.mapM_cons, Sem.run_bind, e, Result.andThen_ok, ih, Sem.run_pure]
  | @cell t ty p v rs vs h hl r ih =>
    have e : (resF l (.cell t ty)).run P w = .ok v w := by
      simp only [resF]
      rw [show l.toArray.getD t undef = .pointer (some p) from by simpa using h]
      simp only [asAddr, Sem.run_bind, Sem.run_pure, Result.andThen_ok, show (loadVar ty p).run P w = .ok v w from hl]
    simp only [List.mapM_cons, Sem.run_bind, e, Result.andThen_ok, ih, Sem.run_pure]
theorem resl_run {P : Program} {fn : Func} {l : List Value} {w : World} {rs : List ResultVar} {vs : List Value} (hr : fn.results = rs.toArray) (h : ResL P l w rs vs) : (results fn l.toArray).run P w = .ok (resV vs) w := by
  have e : results fn l.toArray = (do
      let vs ← fn.results.mapM (resF l)
      pure (if h : vs.size = 1 then vs[0] else .tuple vs)) := by
    unfold results
    congr 1
  rw [e, hr, mapM_list]
  simp only [Sem.run_bind, Sem.run_map, resl_key h, Result.andThen_ok, Sem.run_pure]
  match vs with
  | [] => rfl
  | [v] => rfl
  | v :: u :: vs => simp [resV]

/-! ### Numbers, bytes, strings -/
def band (k : IntKind) (x y : Int) : Int := k.wrap (BitVec.ofInt k.bits x &&& BitVec.ofInt k.bits y).toNat
def bor (k : IntKind) (x y : Int) : Int := k.wrap (BitVec.ofInt k.bits x ||| BitVec.ofInt k.bits y).toNat
def bxor (k : IntKind) (x y : Int) : Int := k.wrap (BitVec.ofInt k.bits x ^^^ BitVec.ofInt k.bits y).toNat
def bandn (k : IntKind) (x y : Int) : Int := k.wrap (BitVec.ofInt k.bits x &&& ~~~BitVec.ofInt k.bits y).toNat
def shlI (k : IntKind) (x y : Int) : Int := k.wrap (x * 2 ^ (min y.toNat k.bits))
def shrI (k : IntKind) (x y : Int) : Int := x.fdiv (2 ^ (min y.toNat k.bits))
def bmax (x y : Int) : Int := if y > x then y else x
def bmin (x y : Int) : Int := if y < x then y else x
def seq (x y : ByteArray) : Bool := x.toList == y.toList
def byt (s : ByteArray) (i : Int) : Int := ((s.data.toList.getD i.toNat 0).toNat : Int)
def vget {n : Nat} (v : Vector Int n) (i : Int) : Int := v.toList.getD i.toNat 0
def vset {n : Nat} (v : Vector Int n) (i : Int) (x : Int) : Vector Int n := v.setIfInBounds i.toNat x
def encI (k : IntKind) (x : Int) : List Value := [.int k x]
def encB (x : Bool) : List Value := [.bool x]
def encS (x : ByteArray) : List Value := [.string x]

section
variable {P : Program} {l : List Value} {w : World}
theorem x_indexStr {o : Oper} {t : TypeId} {x y : Operand} {s : ByteArray} {kk : IntKind} {j : Int} (hx : evL l x = .string s) (hy : evL l y = .int kk j) (hu : P.underlying t = some .string)
    (h0 : 0 ≤ j) (h1 : j < s.size) (ho : o.op = .index t x y) : (execOp (evL l) o).run P w = .ok (.value (.int .u8 (byt s j))) w := by
  have hs : s[j.toNat]? = some (s.data.toList.getD j.toNat 0) := by
    have hj : j.toNat < s.size := by omega
    rw [List.getD_eq_getElem?_getD]
    have : s.data.toList[j.toNat]? = some (s.data.toList[j.toNat]'(by simpa using hj)) := List.getElem?_eq_getElem _
    rw [this]
    simp only [Option.getD_some]
    rw [getElem?_pos s j.toNat hj]
    rfl
  unfold execOp
  simp [ho, hx, hy, Instr.index, asIntOf, run_underlying hu, h0, hs, byt]
theorem x_shift {o : Oper} {t ty : TypeId} {x y : Operand} {k kk : IntKind} {a j : Int} (hx : evL l x = .int k a) (hy : evL l y = .int kk j) (h0 : 0 ≤ j) :
    (o.op = .binOp .shl t x y ty → (execOp (evL l) o).run P w = .ok (.value (.int k (shlI k a j))) w) ∧ (o.op = .binOp .shr t x y ty → (execOp (evL l) o).run P w = .ok (.value (.int k (shrI k a j))) w) := by
  have hj : ¬ j < 0 := by omega
  constructor <;> intro ho <;> unfold execOp <;> simp [ho, hx, hy, binOp, eqGuard, Op.shift, hj, shlI, shrI]
end

/-! ### Cuts -/
section
variable {P : Program} {l : List Value} {w : World}
theorem run_sliceBound {kk : IntKind} {j : Int} {y : Nat} {code : BoundsCode} (h0 : 0 ≤ j) (h1 : j ≤ (y : Int)) : (Instr.sliceBound (.int kk j) y code).run P w = .ok j.toNat w := by
  simp [Instr.sliceBound, asIntOf, h0, h1]
theorem sb_nn (b : Bool) (n c : Nat) : (Instr.sliceBounds b n c none none none).run P w = .ok (0, n, c) w := by simp [Instr.sliceBounds]
theorem sb_sn (b : Bool) (n c : Nat) {k : IntKind} {i : Int} (h0 : 0 ≤ i) (h1 : i ≤ (n : Int)) : (Instr.sliceBounds b n c (some (.int k i)) none none).run P w = .ok (i.toNat, n, c) w := by
  simp [Instr.sliceBounds, run_sliceBound h0 h1]
theorem sb_ns (b : Bool) (n c : Nat) {k : IntKind} {i : Int} (h0 : 0 ≤ i) (h1 : i ≤ (c : Int)) : (Instr.sliceBounds b n c none (some (.int k i)) none).run P w = .ok (0, i.toNat, c) w := by
  simp [Instr.sliceBounds, run_sliceBound h0 h1]
theorem sb_ss (b : Bool) (n c : Nat) {k k' : IntKind} {i j : Int} (h0 : 0 ≤ i) (h1 : i ≤ j) (h2 : j ≤ (c : Int)) : (Instr.sliceBounds b n c (some (.int k i)) (some (.int k' j)) none).run P w = .ok (i.toNat, j.toNat, c) w := by
  simp [Instr.sliceBounds, run_sliceBound (show 0 ≤ j by omega) h2, run_sliceBound (y := j.toNat) h0 (by omega)]

variable {o : Oper} {t e : TypeId} {x lo hi : Operand} {s : ByteArray} {a : Addr} {n : Nat} {i j : Int} {k k' : IntKind} {v : Value}
theorem x_cutStr_nn (hx : evL l x = .string s) (hu : P.underlying t = some .string) (ho : o.op = .slice t x none none none) : (execOp (evL l) o).run P w = .ok (.value (.string (s.extract 0 s.size))) w := by
  unfold execOp
  simp [ho, hx, Instr.sliceAt, run_underlying hu, Instr.slice, sb_nn]
theorem x_cutStr_sn (hx : evL l x = .string s) (hl : evL l lo = .int k i) (hu : P.underlying t = some .string) (hg : 0 ≤ i ∧ i ≤ (s.size : Int)) (ho : o.op = .slice t x (some lo) none none) : (execOp (evL l) o).run P w = .ok (.value (.string (s.extract i.toNat s.size))) w := by
  unfold execOp
  simp [ho, hx, hl, Instr.sliceAt, run_underlying hu, Instr.slice, sb_sn _ _ _ hg.1 hg.2]
theorem x_cutStr_ns (hx : evL l x = .string s) (hh : evL l hi = .int k i) (hu : P.underlying t = some .string) (hg : 0 ≤ i ∧ i ≤ (s.size : Int)) (ho : o.op = .slice t x none (some hi) none) : (execOp (evL l) o).run P w = .ok (.value (.string (s.extract 0 i.toNat))) w := by
  unfold execOp
  simp [ho, hx, hh, Instr.sliceAt, run_underlying hu, Instr.slice, sb_ns _ _ _ hg.1 hg.2]
theorem x_cutStr_ss (hx : evL l x = .string s) (hl : evL l lo = .int k i) (hh : evL l hi = .int k' j) (hu : P.underlying t = some .string) (hg : 0 ≤ i ∧ i ≤ j ∧ j ≤ (s.size : Int)) (ho : o.op = .slice t x (some lo) (some hi) none) :
    (execOp (evL l) o).run P w = .ok (.value (.string (s.extract i.toNat j.toNat))) w := by
  unfold execOp
  simp [ho, hx, hl, hh, Instr.sliceAt, run_underlying hu, Instr.slice, sb_ss _ _ _ hg.1 hg.2.1 hg.2.2]
theorem x_cutArr_nn {sz : Nat} (hx : evL l x = .pointer (some a)) (hu : P.underlying t = some (.array n e)) (hs : pureSem P (sizeOf e) = some sz) (hr : Value.slice (some (if n = 0 then a else a.add (0 * sz))) (n - 0) (n - 0) = v) (ho : o.op = .slice t x none none none) : (execOp (evL l) o).run P w = .ok (.value v) w := by
  subst hr
  unfold execOp
  simp [ho, hx, Instr.sliceAt, run_underlying hu, Instr.sureAddr, sb_nn, pureSem_run hs]
theorem x_cutArr_sn {sz : Nat} (hx : evL l x = .pointer (some a)) (hl : evL l lo = .int k i) (hu : P.underlying t = some (.array n e)) (hs : pureSem P (sizeOf e) = some sz) (hg : 0 ≤ i ∧ i ≤ (n : Int)) (hr : Value.slice (some (if n = i.toNat then a else a.add (i.toNat * sz))) (n - i.toNat) (n - i.toNat) = v) (ho : o.op = .slice t x (some lo) none none) :
    (execOp (evL l) o).run P w = .ok (.value v) w := by
  subst hr
  unfold execOp
  simp [ho, hx, hl, Instr.sliceAt, run_underlying hu, Instr.sureAddr, sb_sn _ _ _ hg.1 hg.2, pureSem_run hs]
theorem x_cutArr_ns {sz : Nat} (hx : evL l x = .pointer (some a)) (hl : evL l hi = .int k i) (hu : P.underlying t = some (.array n e)) (hs : pureSem P (sizeOf e) = some sz) (hg : 0 ≤ i ∧ i ≤ (n : Int)) (hr : Value.slice (some (if n = 0 then a else a.add (0 * sz))) (i.toNat - 0) (n - 0) = v) (ho : o.op = .slice t x none (some hi) none) :
    (execOp (evL l) o).run P w = .ok (.value v) w := by
  subst hr
  unfold execOp
  simp [ho, hx, hl, Instr.sliceAt, run_underlying hu, Instr.sureAddr, sb_ns _ _ _ hg.1 hg.2, pureSem_run hs]
theorem x_cutArr_ss {sz : Nat} (hx : evL l x = .pointer (some a)) (hl : evL l lo = .int k i) (hh : evL l hi = .int k' j) (hu : P.underlying t = some (.array n e)) (hs : pureSem P (sizeOf e) = some sz) (hg : 0 ≤ i ∧ i ≤ j ∧ j ≤ (n : Int))
    (hr : Value.slice (some (if n = i.toNat then a else a.add (i.toNat * sz))) (j.toNat - i.toNat) (n - i.toNat) = v) (ho : o.op = .slice t x (some lo) (some hi) none) : (execOp (evL l) o).run P w = .ok (.value v) w := by
  subst hr
  unfold execOp
  simp [ho, hx, hl, hh, Instr.sliceAt, run_underlying hu, Instr.sureAddr, sb_ss _ _ _ hg.1 hg.2.1 hg.2.2, pureSem_run hs]
end

/-- A cut out of an array. -/
theorem cutArr {w : World} {a : Addr} {n : Nat} {k : IntKind} {v : Vector Int n} (hc : Cells w a (v.toList.map (Value.int k))) (L H : Nat) (h1 : L ≤ H) (h2 : H ≤ n) (hn : n ≤ 9223372036854775807) :
    ∃ A c, Value.slice (some (if n = L then a else a.add (L * 1))) (H - L) (n - L) = .slice A ((v.toList.take H).drop L).length c ∧ SlR (encI k) 1 w A ((v.toList.take H).drop L) ∧ (∀ b, A = some b → b.block = a.block) := by
  refine ⟨some (if n = L then a else a.add (L * 1)), n - L, ?_, ⟨?_, fun i x hx => ?_⟩, ?_⟩
  · congr 1
    simp only [List.length_drop, List.length_take, Vector.length_toList]; omega
  · simp only [List.length_drop, List.length_take, Vector.length_toList]; omega
  · refine ⟨_, rfl, fun j u hu => ?_⟩
    have hl : i < H - L := by
      have := (List.getElem?_eq_some_iff.1 hx).1
      simp only [List.length_drop, List.length_take, Vector.length_toList] at this; omega
    have hj : j = 0 ∧ u = .int k x := by
      cases j with
      | zero => simp [encI] at hu; exact ⟨rfl, hu.symm⟩
      | succ j => simp [encI] at hu
    obtain ⟨rfl, rfl⟩ := hj
    have hne : n ≠ L := by omega
    rw [if_neg hne, add_add, add_add, show L * 1 + (i * 1 + 0) = L + i from by omega]
    refine hc _ _ ?_
    rw [List.getElem?_map]
    have : v.toList[L + i]? = some x := by
      rw [List.getElem?_drop, List.getElem?_take] at hx
      split at hx
      · exact hx
      · cases hx
    rw [this]; rfl
  · intro b hb
    simp only [Option.some.injEq] at hb
    subst hb
    split
    · rfl
    · exact add_block _ _

/-! ### Small words -/
theorem slv {v : Value} {A : Option Addr} {a : Addr} {n c : Nat} (h : v = .slice A n c) (hA : A = some a) : v = .slice (some a) n c := hA ▸ h
theorem New.ne {w w' : World} {b g : Nat} {o : Obj} {e : TypeId} {cs : List Value} (h : New w w' b o) (hb : Blk w g e cs) : g ≠ b := by have := hb.lt; have := h.num; omega
theorem New.neo {α : Type} {enc : α → List Value} {e : TypeId} {sz B : Nat} {w w' : World} {A : Option Addr} {c : Nat} {xs : List α} {b : Nat} {o : Obj} (h : New w w' b o) (hO : SlO enc e sz B w A c xs) : ∀ a, A = some a → a.block ≠ b := by
  intro a ha; have := (hO.blk a ha).2; have := h.num; omega
theorem SlO.neb {α : Type} {enc : α → List Value} {e : TypeId} {sz : Nat} {w w' : World} {A : Option Addr} {c : Nat} {xs : List α} {g : Nat} {e' : TypeId} {cs : List Value} (hO : SlO enc e sz w.heap.size w' A c xs) (hb : Blk w g e' cs) : ∀ a, A = some a → a.block ≠ g := by
  intro a ha; have := (hO.blk a ha).1; have := hb.lt; omega
theorem SlO.neo {α β : Type} {enc : α → List Value} {enc' : β → List Value} {e e' : TypeId} {sz sz' B : Nat} {w w' : World} {A A' : Option Addr} {c c' : Nat} {xs : List α} {ys : List β} (hO : SlO enc e sz w.heap.size w' A c xs) (h' : SlO enc' e' sz' B w A' c' ys) : ∀ a a', A = some a → A' = some a' → a.block ≠ a'.block := by
  intro a a' ha ha'; have := (hO.blk a ha).1; have := (h'.blk a' ha').2; omega
theorem Blk.eq {w : World} {b : Nat} {e : TypeId} {cs cs' : List Value} (h : Blk w b e cs) (he : cs = cs') : Blk w b e cs' := he ▸ h
theorem Fr.stepX {w0 w w' : World} {b : Nat} (h : Fr [] w0 w) (k : Fr [b] w w') (hb : w0.heap.size ≤ b) : Fr [] w0 w' := h.step k (by intro g hg; rw [List.mem_singleton] at hg; exact .inr (hg ▸ hb))
theorem loads_vget {P : Program} {w : World} {t : TypeId} {a : Addr} {n : Nat} {k : IntKind} {v : Vector Int n} {i : Int} (hc : Cells w a (v.toList.map (Value.int k))) (ha : pureSem P (isAgg t) = some false) (h0 : 0 ≤ i) (h1 : i < (n : Int)) :
    LoadsTo P w t (a.add (i.toNat * 1)) (.int k (vget v i)) := by
  refine loads1 ha ?_
  rw [Nat.mul_one]
  refine hc _ _ ?_
  rw [List.getElem?_map]
  have : v.toList[i.toNat]? = some (vget v i) := by
    unfold vget
    rw [List.getD_eq_getElem?_getD, List.getElem?_eq_getElem (by rw [Vector.length_toList]; omega)]; rfl
  rw [this]; rfl
theorem len_arr {P : Program} {t : TypeId} {n : Nat} {k : IntKind} {v : Vector Int n} (h : pureSem P (sizeOf t) = some n) : pureSem P (sizeOf t) = some (v.toList.map (Value.int k)).length := by rw [List.length_map, Vector.length_toList]; exact h
theorem len_st {P : Program} {t : TypeId} {n : Nat} {cs : List Value} (hl : cs.length = n) (h : pureSem P (sizeOf t) = some n) : pureSem P (sizeOf t) = some cs.length := by rw [hl]; exact h
theorem one_arr {n : Nat} (k : IntKind) (v : Vector Int n) : (v.toList.map (Value.int k)).all Value.oneCell' = true := by simp [Value.oneCell']
theorem over_set (cs : List Value) (i : Nat) (v : Value) : over cs i [v] = cs.set i v := rfl
theorem over_all' (vs : List Value) : ∀ (pre cs : List Value), cs.length = vs.length → over (pre ++ cs) pre.length vs = pre ++ vs := by
  induction vs with
  | nil => intro pre cs h; have : cs = [] := List.eq_nil_of_length_eq_zero (by simpa using h); subst this; rfl
  | cons v vs ih =>
    intro pre cs h
    cases cs with
    | nil => simp at h
    | cons c cs =>
      have h1 : (pre ++ c :: cs).set pre.length v = (pre ++ [v]) ++ cs := by simp
      have h2 := ih (pre ++ [v]) cs (by simpa using h)
      simp only [over, h1]
      rw [show pre.length + 1 = (pre ++ [v]).length from by simp, h2]
      simp
theorem over_all {cs vs : List Value} (h : cs.length = vs.length) : over cs 0 vs = vs := by simpa using over_all' vs [] cs h
theorem x_concat {P : Program} {l : List Value} {w : World} {o : Oper} {t ty : TypeId} {x y : Operand} {a b : ByteArray} (hx : evL l x = .string a) (hy : evL l y = .string b) (hg : a.size + b.size ≤ 9223372036854775807) (ho : o.op = .binOp .add t x y ty) :
    (execOp (evL l) o).run P w = .ok (.value (.string (a ++ b))) w := by
  have h : ¬ (((a.size + b.size : Nat) : Int) > IntKind.i64.max) := by simp [IntKind.max, IntKind.signed, IntKind.bits]; omega
  unfold execOp
  simp only [ho, hx, hy, eqGuard, binOp, Op.stringOp, h, if_false, Sem.run_bind, Sem.run_pure, Result.andThen_ok]
  simp [Sem.run_pure]
end Go.Proofs.Yteppciglfdiljaa.K
