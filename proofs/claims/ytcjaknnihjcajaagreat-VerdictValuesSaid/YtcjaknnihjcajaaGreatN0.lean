/- The engine's core: a function's run told over an explicit list of what is left to do and an explicit list of temporaries. No program, no Go text. -/
import Derived.WalkKit
import Derived.KernelRfl
import Derived.Deep.Quiet
import Derived.Recover
import Derived.OrdersIn
set_option linter.unusedVariables false
set_option linter.unusedSimpArgs false
namespace Go.Proofs.YtcjaknnihjcajaaGreat.K
open Go Go.RowKit
inductive Up where
 | none
 | some (p : FrameMode × FrameMode)
 | rd (l : Nat)
structure Fx where
 fn : FuncId
 ds : List Deferred
 up : Up
abbrev fx (f : FuncId) : Fx := ⟨f, [], .none⟩
def bs (f : Fx) : Frame := { (default : Frame) with fn := f.fn, kind := match f.up with | .some _ => .deferred | _ => .normal, roundOf := match f.up with | .rd l => some l | _ => none }
def EndsAt (P : Program) (f : Fx) (R : Ending → World → Prop) (fr0 : Frame) (w : World) (cs : List Frame) : Prop := match f.up with
  | .rd _ => match cs with
    | [] => True
    | c0 :: cs => ∃ v w', R (.returned v) w' ∧ Steps P (lone fr0 (c0 :: cs) w) (lone (c0.finish v) cs w')
  | .none => ∃ e w' fr, R e w' ∧ Comes P (lone fr0 cs w) (lone fr cs w') e ∧ fr.fn = f.fn ∧ fr.leaving P w' e
  | .some (u, u') => match cs with
    | [] => True
    | c0 :: cs => c0.mode = u → ∃ e w' fr, R e w' ∧ Comes P (lone fr0 (c0 :: cs) w) (lone fr ({ c0 with mode := u' } :: cs) w') e ∧ fr.kind = .deferred ∧ fr.going P w' e
def Runs (P : Program) (f : Fx) (todo : List Item) (l : List Value) (w : World) (R : Ending → World → Prop) : Prop :=
 ∀ cs, EndsAt P f R ((bs f).atR ⟨l.toArray, f.ds⟩ todo) w cs
section
variable {P : Program} {f : Fx} {todo todo' k : List Item} {l l' : List Value} {w w' : World} {R : Ending → World → Prop} {ops : Array Oper}
theorem EndsAt.of_steps {fr0 fr1 : Frame} {cs : List Frame} (hs : Steps P (lone fr0 cs w) (lone fr1 cs w')) (h : EndsAt P f R fr1 w' cs) : EndsAt P f R fr0 w cs := by
  unfold EndsAt at h ⊢
  split
  · rename_i l hu
    rw [hu] at h
    cases cs with
    | nil => trivial
    | cons c0 cs =>
      obtain ⟨v, w2, hR, hc⟩ := h
      exact ⟨v, w2, hR, hs.trans hc⟩
  · rename_i hu
    rw [hu] at h
    obtain ⟨e, w2, fr, hR, hc, hf, hl⟩ := h
    exact ⟨e, w2, fr, hR, .of_steps hs hc, hf, hl⟩
  · rename_i u u' hu
    rw [hu] at h
    cases cs with
    | nil => trivial
    | cons c0 cs =>
      intro hm
      obtain ⟨e, w2, fr, hR, hc, hf, hl⟩ := h hm
      exact ⟨e, w2, fr, hR, .of_steps hs hc, hf, hl⟩
theorem EndsAt.mono {R' : Ending → World → Prop} {fr0 : Frame} {cs : List Frame} (h : EndsAt P f R fr0 w cs) (hr : ∀ e w', R e w' → R' e w') : EndsAt P f R' fr0 w cs := by
  unfold EndsAt at h ⊢
  split
  · rename_i l hu
    rw [hu] at h
    cases cs with
    | nil => trivial
    | cons c0 cs =>
      obtain ⟨v, w2, hR, hc⟩ := h
      exact ⟨v, w2, hr _ _ hR, hc⟩
  · rename_i hu
    rw [hu] at h
    obtain ⟨e, w2, fr, hR, hc⟩ := h
    exact ⟨e, w2, fr, hr _ _ hR, hc⟩
  · rename_i u u' hu
    rw [hu] at h
    cases cs with
    | nil => trivial
    | cons c0 cs =>
      intro hm
      obtain ⟨e, w2, fr, hR, hc⟩ := h hm
      exact ⟨e, w2, fr, hr _ _ hR, hc⟩
theorem Runs.of_step (hs : ∀ cs, step P (lone ((bs f).atR ⟨l.toArray, f.ds⟩ todo) cs w) = .next (lone ((bs f).atR ⟨l'.toArray, f.ds⟩ todo') cs w'))
  (h : Runs P f todo' l' w' R) : Runs P f todo l w R := fun cs => .of_steps (.one (hs cs)) (h cs)
theorem Runs.mono {R' : Ending → World → Prop} (h : Runs P f todo l w R) (hr : ∀ e w', R e w' → R' e w') : Runs P f todo l w R' := fun cs => (h cs).mono hr
theorem calls_of_runs {f : FuncId} {fn : Func} {c : Code} {args : Array Value} {n : Nat} {al : List Value} (hf : P.funcs[f]? = some fn) (hb : fn.body = some c)
  (ha : args = al.toArray) (hn : fn.ntmps - al.length = n) (h : Runs P (fx f) [.code c] (al ++ List.replicate n undef) w R) : Calls P f args w R := by
 intro cs
 have henter : Frame.enter P f args .normal = (bs (fx f)).atR ⟨(al ++ List.replicate n undef).toArray, []⟩ [.code c] := by
  subst ha; subst hn
  simp [Frame.enter, Frame.atR, hf, hb, bs]
 obtain ⟨e, w', fr, r, hc, hfn, hl⟩ := h cs
 rw [← henter] at hc
 exact ⟨e, w', fr, r, hc, hfn, hl⟩
theorem runs_ret {f : FuncId} {fn : Func} {v : Value} (hf : P.funcs[f]? = some fn) (hr : (results fn l.toArray).run P w = .ok v w) (hR : R (.returned v) w) : Runs P (fx f) (.code .ret :: k) l w R := by
 intro cs
 exact ⟨.returned v, w, _, hR, .one (stepR_ret rfl), rfl, rfl, rfl, rfl, fn, hf, hr⟩
theorem leaves_end {f : FuncId} {fn : Func} {ds : List Deferred} {u : FrameMode} {fr0 : Frame} {cs : List Frame} (hf : P.funcs[f]? = some fn) (hd : fr0.defers = ds) (ht : fr0.tmps = l.toArray) (hfn : fr0.fn = f) (hk : fr0.kind = .normal) (hu : fr0.mode = u)
  (h : Leaves P fn l.toArray R ds u w) : EndsAt P ⟨f, ds, .none⟩ R fr0 w cs := by
 obtain ⟨e, w', fr', h1, h2, h3, h4⟩ := leaves_steps ds u w fr0 cs hu hd ht (by rw [hfn]; exact hf) hk h
 exact ⟨e, w', fr', h1, h2, h3.trans hfn, h4⟩
def Raised (P : Program) (f : Fx) (l : List Value) (chain : List PanicEntry) (w : World) (R : Ending → World → Prop) : Prop := match f.up with
 | .none => ∃ fn, P.funcs[f.fn]? = some fn ∧ Leaves P fn l.toArray R f.ds (.panicking chain) w
 | _ => False
theorem raised_end {chain : List PanicEntry} {fr0 : Frame} {cs : List Frame} (hd : fr0.defers = f.ds) (ht : fr0.tmps = l.toArray) (hfn : fr0.fn = f.fn) (hk : fr0.kind = (bs f).kind) (hu : fr0.mode = .panicking chain)
    (h : Raised P f l chain w R) : EndsAt P f R fr0 w cs := by
  obtain ⟨fi, ds, up⟩ := f
  cases up with
  | some u => exact h.elim
  | rd l => exact h.elim
  | none =>
    obtain ⟨fn, hf, hl⟩ := h
    exact leaves_end hf hd ht hfn hk hu hl
/-! ### Operands -/
def evL (l : List Value) : Operand → Value
 | .tmp t => l.getD t undef
 | .const v => v
 | .global g => .pointer (some ⟨g, 0, none⟩)
 | .func f => .func (.func f) #[] #[]
theorem evL_eq (l : List Value) (ds : List Deferred) : (⟨l.toArray, ds⟩ : Act).eval = evL l := by
 funext x
 cases x <;> simp [Act.eval, evL]
def putL (l : List Value) (d : Option Tmp) (v : Value) : List Value := match d with
 | some d => l.set d v
 | none => l
theorem put_eq (l : List Value) (ds : List Deferred) (d : Option Tmp) (v : Value) : (⟨l.toArray, ds⟩ : Act).put d v = ⟨(putL l d v).toArray, ds⟩ := by
 cases d <;> simp [Act.put, putL]
theorem putL_len (l : List Value) (d : Option Tmp) (v : Value) : (putL l d v).length = l.length := by
 cases d <;> simp [putL]
def yieldedL (ops : Array Oper) (l : List Value) (j : Nat) : Option Bool :=
 match ((ops[j]?).bind (·.dst)).bind (l[·]?) with
 | some (.bool b) => some b
 | _ => none
theorem yielded_eq (ops : Array Oper) (l : List Value) : yielded ops l.toArray = yieldedL ops l := by
  funext j
  simp only [yielded, yieldedL]
  cases (ops[j]?).bind (·.dst) with
  | none => rfl
  | some d =>
    simp only [Option.bind_some, List.getElem?_toArray]
    cases l[d]? with
    | none => rfl
    | some v => cases v <;> rfl
def wantedL (ops : Array Oper) (l : List Value) (o : Oper) : Bool := match o.guard with
  | none => true
  | some (j, want) => match yieldedL ops l j with
    | some b => b == want
    | none => false
theorem wanted_eq (ops : Array Oper) (l : List Value) (o : Oper) : Region.wanted o (yielded ops l.toArray) = wantedL ops l o := by
  rw [yielded_eq]
  unfold Region.wanted wantedL
  cases o.guard with
  | none => rfl
  | some g =>
    obtain ⟨j, want⟩ := g
    simp only
    cases yieldedL ops l j <;> simp
/-! ### One operation -/
theorem nd_ok {P : Program} {ρ : Operand → Value} {o : Oper} {w w' : World} {x : Next} (hr : (execOp ρ o).run P w = .ok x w') (hx : ∀ d, x ≠ .defer d) : ∀ c, o.op ≠ .defer c := by
  intro c hc
  unfold execOp at hr
  simp only [hc, Sem.run_bind] at hr
  cases hq : Sem.run P (resolve ρ c o.type) w with
  | ok d w2 =>
    rw [hq] at hr
    simp only [Result.andThen, Sem.run_pure, Result.ok.injEq] at hr
    exact hx d hr.1.symm
  | halt a b => rw [hq] at hr; simp [Result.andThen] at hr
theorem runs_op_value {i : Nat} {rest : List Nat} {o : Oper} {v : Value} (ho : ops[i]? = some o) (hw : wantedL ops l o = true)
  (hr : (execOp (evL l) o).run P w = .ok (.value v) w') (h : Runs P f (.inRegion ops rest :: k) (putL l o.dst v) w' R) :
  Runs P f (.inRegion ops (i :: rest) :: k) l w R := by
 refine Runs.of_step (fun cs => ?_) h
 have hg := stepGR_op (P := P) (b := bs f) (a := ⟨l.toArray, f.ds⟩) (k := k) (cs := cs) (w := w) (rest := rest) ho ((wanted_eq ops l o).trans hw)
 rw [evL_eq, Oper.semAt_eq _ _ _ (nd_ok hr (fun _ h => nomatch h))] at hg
 refine step_lone_go ?_
 rw [hg]
 have hfin : ((bs f).atR ⟨l.toArray, f.ds⟩ (.inRegion ops (i :: rest) :: k)).finish v = (bs f).atR ⟨(putL l o.dst v).toArray, f.ds⟩ (.inRegion ops rest :: k) := by
  rw [Frame.finish_atR, ho, ← put_eq]; rfl
 rw [← hfin]
 simp [stepG.apply, hr]
theorem runs_op_done {i : Nat} {rest : List Nat} {o : Oper} (ho : ops[i]? = some o) (hw : wantedL ops l o = true)
  (hr : (execOp (evL l) o).run P w = .ok .skip w') (h : Runs P f (.inRegion ops rest :: k) (putL l o.dst undef) w' R) :
  Runs P f (.inRegion ops (i :: rest) :: k) l w R := by
 refine Runs.of_step (fun cs => ?_) h
 have hg := stepGR_op (P := P) (b := bs f) (a := ⟨l.toArray, f.ds⟩) (k := k) (cs := cs) (w := w) (rest := rest) ho ((wanted_eq ops l o).trans hw)
 rw [evL_eq, Oper.semAt_eq _ _ _ (nd_ok hr (fun _ h => nomatch h))] at hg
 refine step_lone_go ?_
 rw [hg]
 have hfin : ((bs f).atR ⟨l.toArray, f.ds⟩ (.inRegion ops (i :: rest) :: k)).finish undef = (bs f).atR ⟨(putL l o.dst undef).toArray, f.ds⟩ (.inRegion ops rest :: k) := by
  rw [Frame.finish_atR, ho, ← put_eq]; rfl
 rw [← hfin]
 simp [stepG.apply, hr]
theorem runs_op_off {i : Nat} {rest : List Nat} {o : Oper} (ho : ops[i]? = some o) (hw : wantedL ops l o = false)
  (h : Runs P f (.inRegion ops rest :: k) (putL l o.dst undef) w R) : Runs P f (.inRegion ops (i :: rest) :: k) l w R := by
 refine Runs.of_step (fun cs => ?_) h
 have hs := stepR_op_skip (P := P) (b := bs f) (a := ⟨l.toArray, f.ds⟩) (k := k) (cs := cs) (w := w) (ops := ops) (i := i) (rest := rest)
  (by simp only [ho, Option.map_some, Option.getD_some]; exact (wanted_eq ops l o).trans hw)
 rw [hs, ho, put_eq]
 rfl
theorem runs_op_callP {i : Nat} {rest : List Nat} {o : Oper} {g : FuncId} {args : Array Value} {S : Ending → World → Prop} (ho : ops[i]? = some o) (hw : wantedL ops l o = true)
  (hr : (execOp (evL l) o).run P w = .ok (.enter g args) w) (hc : Calls P g args w S)
  (h : ∀ e w1, S e w1 → (∃ v, e = .returned v ∧ Runs P f (.inRegion ops rest :: k) (putL l o.dst v) w1 R) ∨ ∃ chain, e = .panicked chain ∧ Raised P f l chain w1 R) :
  Runs P f (.inRegion ops (i :: rest) :: k) l w R := by
 intro cs
 have hg := stepGR_op (P := P) (b := bs f) (a := ⟨l.toArray, f.ds⟩) (k := k) (cs := cs) (w := w) (rest := rest) ho ((wanted_eq ops l o).trans hw)
 rw [evL_eq, Oper.semAt_eq _ _ _ (nd_ok hr (fun _ h => nomatch h))] at hg
 obtain ⟨e, w'', fr, hS, hsteps, _, hleave⟩ := hc ((bs f).atR ⟨l.toArray, f.ds⟩ (.inRegion ops (i :: rest) :: k) :: cs)
 have henter : step P (lone ((bs f).atR ⟨l.toArray, f.ds⟩ (.inRegion ops (i :: rest) :: k)) cs w) =
   .next (lone (Frame.enter P g args .normal) ((bs f).atR ⟨l.toArray, f.ds⟩ (.inRegion ops (i :: rest) :: k) :: cs) w) :=
  step_lone_go (by rw [hg]; simp [stepG.apply, hr, Frame.atR])
 rcases h e w'' hS with ⟨v, rfl, hR⟩ | ⟨chain, rfl, hR⟩
 ·refine .of_steps (.head henter (hsteps.trans (.one ?_))) (hR cs)
  have hfin : ((bs f).atR ⟨l.toArray, f.ds⟩ (.inRegion ops (i :: rest) :: k)).finish v = (bs f).atR ⟨(putL l o.dst v).toArray, f.ds⟩ (.inRegion ops rest :: k) := by
   rw [Frame.finish_atR, ho, ← put_eq]; rfl
  rw [← hfin]
  exact step_leave_returned hleave
 ·refine .of_steps (.head henter (hsteps.trans (.one (step_leave_panicked hleave)))) ?_
  rw [Frame.raise_atR]
  exact raised_end rfl rfl rfl rfl rfl hR
theorem runs_op_call {i : Nat} {rest : List Nat} {o : Oper} {g : FuncId} {args : Array Value} {S : Ending → World → Prop} (ho : ops[i]? = some o) (hw : wantedL ops l o = true)
  (hr : (execOp (evL l) o).run P w = .ok (.enter g args) w) (hc : Calls P g args w S)
  (h : ∀ e w1, S e w1 → ∃ v, e = .returned v ∧ Runs P f (.inRegion ops rest :: k) (putL l o.dst v) w1 R) :
  Runs P f (.inRegion ops (i :: rest) :: k) l w R := runs_op_callP ho hw hr hc fun e w1 hS => .inl (h e w1 hS)
/-! ### A run of many steps that touch no memory, reckoned -/
def pureSem {α : Type} (P : Program) : Sem α → Option α
 | .pure a => some a
 | .program k => pureSem P (k P)
 | .mark _ k => pureSem P k
 | _ => none
theorem pureSem_run {α : Type} {P : Program} {w : World} : ∀ {s : Sem α} {a : α}, pureSem P s = some a → s.run P w = .ok a w
 | .pure b, a, h => by simp only [pureSem, Option.some.injEq] at h; subst h; rfl
 | .program k, a, h => by simp only [pureSem] at h; simp only [Sem.run]; exact pureSem_run h
 | .mark m k, a, h => by simp only [pureSem] at h; simp only [Sem.run]; exact pureSem_run h
 | .load .., _, h | .store .., _, h | .new .., _, h | .shape .., _, h | .freeze .., _, h | .frozen .., _, h | .getObj .., _, h | .setObj .., _, h
 | .choose .., _, h | .sys .., _, h | .halt .., _, h => by simp [pureSem] at h
theorem stepR_scope {b : Frame} {a : Act} {cs : List Frame} {c : Code} : step P (lone (b.atR a (.code (.scope c) :: k)) cs w) = .next (lone (b.atR a (.code c :: .inScope c :: k)) cs w) :=
 step_lone_go (by simp [stepG, stepG.exec, Frame.atR])
theorem stepR_inScope {b : Frame} {a : Act} {cs : List Frame} {c : Code} : step P (lone (b.atR a (.inScope c :: k)) cs w) = .next (lone (b.atR a k) cs w) :=
 step_lone_go (by simp [stepG, stepG.exec, Frame.atR])
def sxOp (P : Program) (ops : Array Oper) (l : List Value) (i : Nat) : Option (List Value) :=
  match ops[i]? with
  | none => none
  | some o =>
    match wantedL ops l o with
    | true => match pureSem P (execOp (evL l) o) with
      | some (.value v) => some (putL l o.dst v)
      | _ => none
    | false => some (putL l o.dst undef)
def sx1 (P : Program) : List Item → List Value → Option (List Item × List Value)
  | .code .skip :: k, l => some (k, l)
  | .code (.label _) :: k, l => some (k, l)
  | .inBlock _ :: k, l => some (k, l)
  | .code (.seq a b) :: k, l => some (.code a :: .code b :: k, l)
  | .code (.block id c) :: k, l => some (.code c :: .inBlock id :: k, l)
  | .code (.loop c) :: k, l => some (.code c :: .inLoop c :: k, l)
  | .inLoop c :: k, l => some (.code c :: .inLoop c :: k, l)
  | .code (.scope c) :: k, l => some (.code c :: .inScope c :: k, l)
  | .inScope _ :: k, l => some (k, l)
  | .code (.exit id) :: k, l => match exitTo id k with | some k' => some (k', l) | none => none
  | .code (.cond c a b) :: k, l => match evL l c with
    | .bool true => some (.code a :: k, l)
    | .bool false => some (.code b :: k, l)
    | _ => none
  | .code (.region _ ops false) :: k, l => some (.inRegion ops (List.range ops.size) :: k, l)
  | .inRegion _ [] :: k, l => some (k, l)
  | .inRegion ops (i :: rest) :: k, l => match sxOp P ops l i with | some l' => some (.inRegion ops rest :: k, l') | none => none
  | _, _ => none
def sx (P : Program) : Nat → List Item → List Value → Option (List Item × List Value)
  | 0, k, l => some (k, l)
  | n + 1, k, l => match sx1 P k l with
    | some (k', l') => sx P n k' l'
    | none => none
theorem sxOp_sound {i : Nat} {rest : List Nat} (hs : sxOp P ops l i = some l') (h : Runs P f (.inRegion ops rest :: k) l' w R) : Runs P f (.inRegion ops (i :: rest) :: k) l w R := by
 unfold sxOp at hs
 split at hs
 ·cases hs
 ·rename_i o ho
  split at hs
  ·rename_i hw
   split at hs
   ·rename_i v hv
    cases hs
    exact runs_op_value ho hw (pureSem_run hv) h
   ·cases hs
  ·rename_i hw
   cases hs
   exact runs_op_off ho hw h
theorem sx1_sound (hs : sx1 P todo l = some (todo', l')) (h : Runs P f todo' l' w R) : Runs P f todo l w R := by
 unfold sx1 at hs
 split at hs
 ·cases hs; exact .of_step (fun _ => stepR_skip) h
 ·cases hs; exact .of_step (fun _ => stepR_label) h
 ·cases hs; exact .of_step (fun _ => stepR_inBlock) h
 ·cases hs; exact .of_step (fun _ => stepR_seq) h
 ·cases hs; exact .of_step (fun _ => stepR_block) h
 ·cases hs; exact .of_step (fun _ => stepR_loop) h
 ·cases hs; exact .of_step (fun _ => stepR_inLoop) h
 ·cases hs; exact .of_step (fun _ => stepR_scope) h
 ·cases hs; exact .of_step (fun _ => stepR_inScope) h
 ·split at hs
  ·rename_i hk; cases hs; exact .of_step (fun _ => stepR_exit hk) h
  ·cases hs
 ·split at hs
  ·rename_i hc; cases hs
   refine .of_step (fun _ => ?_) h
   rw [stepR_cond (t := true) (by rw [evL_eq]; exact hc)]; rfl
  ·rename_i hc; cases hs
   refine .of_step (fun _ => ?_) h
   rw [stepR_cond (t := false) (by rw [evL_eq]; exact hc)]; rfl
  ·cases hs
 ·cases hs; exact .of_step (fun _ => stepR_region) h
 ·cases hs; exact .of_step (fun _ => stepR_region_end) h
 ·split at hs
  ·rename_i hk; cases hs; exact sxOp_sound hk h
  ·cases hs
 ·cases hs
theorem sx_sound (n : Nat) : ∀ {todo todo' : List Item} {l l' : List Value}, sx P n todo l = some (todo', l') → Runs P f todo' l' w R → Runs P f todo l w R := by
  induction n with
  | zero => intro todo todo' l l' hs h; simp only [sx, Option.some.injEq, Prod.mk.injEq] at hs; obtain ⟨rfl, rfl⟩ := hs; exact h
  | succ n ih =>
    intro todo todo' l l' hs h
    simp only [sx] at hs
    split at hs
    · rename_i hk; exact sx1_sound hk (ih hs h)
    · cases hs
theorem Runs.conv (he : l = l') (h : Runs P f todo l' w R) : Runs P f todo l w R := he ▸ h
abbrev Ext (w w' : World) : Prop := Below w.heap.size w w'
theorem Ext.trans {a b c : World} (h : Ext a b) (k : Ext b c) : Ext a c := Below.trans h (k.mono h.size)
structure Qs (P : Program) (ops : Array Oper) (C : World → Prop) (is : List Nat) (l : List Value) (F : List Value → Prop) : Prop where
 out : ∀ ds : List Deferred, wpQuiet P ops C (fun a => ∀ l' : List Value, a = ⟨l'.toArray, ds⟩ → F l') (is.filterMap (ops[·]?)) ⟨l.toArray, ds⟩
variable {C : World → Prop} {F : List Value → Prop}
theorem Qs.nil (h : F l) : Qs P ops C [] l F := by
 refine ⟨fun ds => ?_⟩
 simp only [List.filterMap_nil]
 refine wpQuiet_nil ?_
 intro l' he
 have : l = l' := by simpa using congrArg Act.tmps he
 exact this ▸ h
theorem Qs.val {i : Nat} {is : List Nat} {o : Oper} {v : Value} (ho : ops[i]? = some o) (hw : wantedL ops l o = true)
  (hr : ∀ w, C w → (execOp (evL l) o).run P w = .ok (.value v) w) (h : Qs P ops C is (putL l o.dst v) F) : Qs P ops C (i :: is) l F := by
 refine ⟨fun ds => ?_⟩
 have h := h.out ds
 simp only [List.filterMap_cons, ho]
 unfold wpQuiet
 rw [wanted_eq, hw, if_pos rfl]
 refine ⟨v, fun w hC => ?_, by rw [put_eq]; exact h⟩
 unfold Oper.quietAt
 rw [evL_eq, hr w hC]
 exact ⟨rfl, rfl⟩
theorem Qs.off {i : Nat} {is : List Nat} {o : Oper} (ho : ops[i]? = some o) (hw : wantedL ops l o = false)
  (h : Qs P ops C is (putL l o.dst undef) F) : Qs P ops C (i :: is) l F := by
 refine ⟨fun ds => ?_⟩
 have h := h.out ds
 simp only [List.filterMap_cons, ho]
 unfold wpQuiet
 rw [wanted_eq, hw, if_neg (by simp), put_eq]
 exact h
theorem Qs.call {i : Nat} {is : List Nat} {o : Oper} {v : Value} {g : FuncId} {args : Array Value} (ho : ops[i]? = some o) (hw : wantedL ops l o = true)
  (hr : ∀ w, C w → (execOp (evL l) o).run P w = .ok (.enter g args) w) (hc : ∀ w, C w → Calls P g args w fun e w' => e = .returned v ∧ C w')
  (h : Qs P ops C is (putL l o.dst v) F) : Qs P ops C (i :: is) l F := by
 refine ⟨fun ds => ?_⟩
 have h := h.out ds
 simp only [List.filterMap_cons, ho]
 unfold wpQuiet
 rw [wanted_eq, hw, if_pos rfl]
 refine ⟨v, fun w hC => ?_, by rw [put_eq]; exact h⟩
 unfold Oper.quietAt
 rw [evL_eq, hr w hC]
 exact ⟨rfl, hc w hC⟩
def sxOps (P : Program) (ops : Array Oper) : Nat → List Nat → List Value → Option (List Nat × List Value)
 | 0, is, l => some (is, l)
 | n + 1, i :: is, l => match sxOp P ops l i with | some l' => sxOps P ops n is l' | none => none
 | _ + 1, [], _ => none
theorem Qs.pure (n : Nat) : ∀ {is is' : List Nat} {l l' : List Value}, sxOps P ops n is l = some (is', l') → Qs P ops C is' l' F → Qs P ops C is l F := by
  induction n with
  | zero => intro is is' l l' hs h; simp only [sxOps, Option.some.injEq, Prod.mk.injEq] at hs; obtain ⟨rfl, rfl⟩ := hs; exact h
  | succ n ih =>
    intro is is' l l' hs h
    cases is with
    | nil => simp [sxOps] at hs
    | cons i is =>
      simp only [sxOps] at hs
      split at hs
      · rename_i l1 hk
        have h1 := ih hs h
        unfold sxOp at hk
        split at hk
        · cases hk
        · rename_i o ho
          split at hk
          · rename_i hw
            split at hk
            · rename_i v hv; cases hk; exact .val ho hw (fun w _ => pureSem_run hv) h1
            · cases hk
          · rename_i hw; cases hk; exact .off ho hw h1
      · cases hs
theorem filterMap_range' (l : List Oper) : (List.range l.length).filterMap (fun i => l[i]?) = l := by
  induction l with
  | nil => rfl
  | cons x l ih =>
    rw [List.length_cons, List.range_succ_eq_map, List.filterMap_cons]
    simp only [List.getElem?_cons_zero, List.filterMap_map]
    congr 1
theorem filterMap_range (ops : Array Oper) : (List.range ops.size).filterMap (ops[·]?) = ops.toList := by
 have h : (fun i : Nat => ops[i]?) = fun i : Nat => ops.toList[i]? := by funext i; simp
 rw [← Array.length_toList, h]
 exact filterMap_range' _
def noDef (ops : Array Oper) : Bool := ops.toList.all fun o => match o.op with | .defer _ => false | _ => true
theorem noDef_spec {i : Nat} {o : Oper} (h : noDef ops = true) (ho : ops[i]? = some o) : ∀ c, o.op ≠ .defer c := by
 intro c hc
 have h1 := List.all_eq_true.1 h o (Array.mem_toList_iff.2 (Array.mem_of_getElem? ho))
 rw [hc] at h1; cases h1
theorem wpAny_round {md : Region.Mode} {Q : Exit → Act → World → Prop} (L : Nat) (hQ : ¬ LetsOut Q) (hn : noDef ops = true) : ∀ (fuel : Nat) (listed : Array Bool) (a : Act) (w : World),
    wpAny P md ops Q fuel listed a w → wpAnyIn (Fence.wide.inRound L) 0 P md ops Q fuel listed a w := by
  intro fuel
  induction fuel with
  | zero => intro listed a w h; exact h
  | succ fuel ih =>
    intro listed a w h
    refine ⟨h.1, fun i hi => ?_⟩
    have h2 := h.2 i hi
    unfold wpOp at h2
    unfold wpOpIn
    cases ho : ops[i]? with
    | none => rw [ho] at h2; exact ih _ _ _ h2
    | some o =>
      rw [ho] at h2
      simp only at h2 ⊢
      split
      · rename_i hw
        rw [if_pos hw] at h2
        have h3 := h2.resolve_right fun h => hQ h.2
        unfold Oper.wp at h3
        refine ⟨fun _ _ => trivial, ?_⟩
        rw [Oper.semAt_eq _ _ _ (noDef_spec hn ho)]
        generalize (execOp a.eval o).run P w = r at h3
        cases r with
        | ok x w1 =>
          cases x <;> simp only [Oper.upon, Oper.uponIn] at h3 ⊢ <;>
            first
            | exact ih _ _ _ h3
            | (refine ⟨fun hh => (by cases hh), ?_⟩
               refine CallsIn.mono (R := fun e w'' => match e with | .returned v => wpAny P md ops Q fuel (listed.setIfInBounds i true) (a.put o.dst v) w'' | .panicked chain => Q (.panic chain) a w'' | .outgrown => LetsOut Q) (show CallsIn (Fence.wide.inRound L) _ P _ _ _ _ from ?_) (fun e w'' he => ?_)
               · exact (show CallsIn Fence.wide _ P _ _ _ _ from callsIn_wide.2 (h3.mono fun e w'' he => by cases e <;> exact he))
               · cases e
                 · exact ih _ _ _ he
                 · exact he
                 · exact he)
            | (refine ⟨fun hh => (by cases hh), fun c cs _ => ?_⟩
               obtain ⟨v, w', hv, hs⟩ := h3 c cs
               exact ⟨v, w', ih _ _ _ hv, (stepsIn_wide (P := P)).2 hs⟩)
        | halt x w1 => cases x <;> simp only [Oper.upon, Oper.uponIn] at h3 ⊢ <;> exact h3
      · rename_i hw
        rw [if_neg hw] at h2
        exact ⟨fun _ _ => trivial, ih _ _ _ h2⟩
theorem runs_region_any {id : Nat} (hm : P.follows .mixedOrders = true) (hro : (bs f).roundOf = none ∨ noDef ops = true)
  (h : wpAny P .any ops (fun e a' w' => e = .normal ∧ ∃ l' : List Value, a' = ⟨l'.toArray, f.ds⟩ ∧ Runs P f k l' w' R) ops.size (Array.replicate ops.size false) ⟨l.toArray, f.ds⟩ { w with drawn := w.drawn + 1 }) :
  Runs P f (.code (.region id ops true) :: k) l w R := by
 intro cs
 rcases Option.eq_none_or_eq_some (bs f).roundOf with hro' | ⟨L, hL⟩
 ·obtain ⟨e, a', w', ⟨rfl, l', rfl, hr⟩, harr⟩ := wp_region_any (id := id) hm h (bs f) k cs
  have ea := Frame.atR_of_none hro'
  refine .of_steps ?_ (hr cs)
  rw [ea, ea]; exact harr
 ·have hn : noDef ops = true := hro.resolve_left (by rw [hL]; simp)
  obtain ⟨e, a', w', ⟨rfl, l', rfl, hr⟩, harr⟩ := wpIn_region_any (id := id) hm (wpAny_round L (fun ⟨_, _, h⟩ => by cases h.1) hn _ _ _ _ h) (bs f) k cs hL trivial (fun _ h => by cases h)
  exact .of_steps (StepsIn.steps harr) (hr cs)
theorem runs_quiet {id : Nat} {C : World → Prop} (hm : P.follows .mixedOrders = true) (hB : Region.lexB .any ops = true) (hC : C w.drew)
    (h : Qs P ops C (List.range ops.size) l (fun l' => ∀ w', C w' → Runs P f k l' w' R)) (hro : (bs f).roundOf = none ∨ noDef ops = true) :
    Runs P f (.code (.region id ops true) :: k) l w R := by
  have hq : wpAny P .any ops (fun e a' w' => e = .normal ∧ ∃ l' : List Value, a' = ⟨l'.toArray, f.ds⟩ ∧ Runs P f k l' w' R) ops.size (Array.replicate ops.size false) ⟨l.toArray, f.ds⟩ { w with drawn := w.drawn + 1 } := by
    simp only [Region.lexB, Bool.and_eq_true] at hB
    refine wpAny_of_quiet (C := C) (Q := fun a' => ∀ w', C w' → Exit.normal = Exit.normal ∧ ∃ l' : List Value, a' = ⟨l'.toArray, f.ds⟩ ∧ Runs P f k l' w' R) (fun a w' hw' h => h w' hw') _ _ _ _ hC ?_
    refine (fun h => by simpa using wpAnyQ_lex (C := C) (md := .any) hB.1 ops.toList 0 (Array.replicate ops.size false) _ (by simp) (by simpa using hB.2) h) ?_
    have h := h.out f.ds
    rw [filterMap_range] at h
    have mono : ∀ (os : List Oper) (a : Act) (G G' : Act → Prop), (∀ a, a.defers = f.ds → G a → G' a) → a.defers = f.ds → wpQuiet P ops C G os a → wpQuiet P ops C G' os a := by
      intro os
      induction os with
      | nil => intro a G G' hg hd hh; exact hg a hd hh
      | cons o os ih =>
        intro a G G' hg hd hh
        have hp : ∀ v, (a.put o.dst v).defers = f.ds := fun v => by unfold Act.put; split <;> exact hd
        unfold wpQuiet at hh ⊢
        split
        · rename_i hw
          rw [if_pos hw] at hh
          obtain ⟨v, h1, h2⟩ := hh
          exact ⟨v, h1, ih _ _ _ hg (hp v) h2⟩
        · rename_i hw
          rw [if_neg hw] at hh
          exact ih _ _ _ hg (hp _) hh
    refine mono _ _ _ _ ?_ rfl h
    intro a hd hF w' hw'
    obtain ⟨ts, ds⟩ := a
    simp only at hd
    subst hd
    exact ⟨ts.toList, by simp, hF ts.toList (by simp) w' hw'⟩
  exact runs_region_any hm hro hq
end
end Go.Proofs.YtcjaknnihjcajaaGreat.K
