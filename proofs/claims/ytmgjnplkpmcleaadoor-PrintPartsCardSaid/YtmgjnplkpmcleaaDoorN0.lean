/- The engine's core: a function's run told over an explicit list of what is left to do and an explicit list of temporaries. No program, no Go text. -/
import Derived.WalkKit
import Derived.KernelRfl
import Derived.Deep.Quiet
set_option linter.unusedVariables false
set_option linter.unusedSimpArgs false
namespace Go.Proofs.YtmgjnplkpmcleaaDoor.K
open Go Go.RowKit

/-- The frame's fixed part. -/
def bs (f : FuncId) : Frame := { (default : Frame) with fn := f, kind := .normal }

/-- From here (what is left, the temporaries, the world) the function comes to an end that R tells of. -/
def Runs (P : Program) (f : FuncId) (todo : List Item) (l : List Value) (w : World) (R : Ending → World → Prop) : Prop :=
  ∀ cs, ∃ e w' fr, R e w' ∧ Comes P (lone ((bs f).at ⟨l.toArray, []⟩ todo) cs w) (lone fr cs w') e ∧ fr.fn = f ∧ fr.leaving P w' e

section
variable {P : Program} {f : FuncId} {todo todo' k : List Item} {l l' : List Value} {w w' : World} {R : Ending → World → Prop} {ops : Array Oper}

theorem Runs.of_step (hs : ∀ cs, step P (lone ((bs f).at ⟨l.toArray, []⟩ todo) cs w) = .next (lone ((bs f).at ⟨l'.toArray, []⟩ todo') cs w'))
    (h : Runs P f todo' l' w' R) : Runs P f todo l w R := by
  intro cs
  obtain ⟨e, w2, fr, hR, hc, hf, hl⟩ := h cs
  exact ⟨e, w2, fr, hR, .of_steps (.one (hs cs)) hc, hf, hl⟩

theorem Runs.mono {R' : Ending → World → Prop} (h : Runs P f todo l w R) (hr : ∀ e w', R e w' → R' e w') : Runs P f todo l w R' :=
  fun cs => let ⟨e, w', fr, r, rest⟩ := h cs; ⟨e, w', fr, hr _ _ r, rest⟩

/-- Entering. -/
theorem calls_of_runs {fn : Func} {c : Code} {args : Array Value} {n : Nat} {al : List Value} (hf : P.funcs[f]? = some fn) (hb : fn.body = some c)
    (ha : args = al.toArray) (hn : fn.ntmps - al.length = n) (h : Runs P f [.code c] (al ++ List.replicate n undef) w R) : Calls P f args w R := by
  intro cs
  have henter : Frame.enter P f args .normal = (bs f).at ⟨(al ++ List.replicate n undef).toArray, []⟩ [.code c] := by
    subst ha; subst hn
    simp [Frame.enter, Frame.at, hf, hb, bs]
  obtain ⟨e, w', fr, r, hc, hfn, hl⟩ := h cs
  rw [← henter] at hc
  exact ⟨e, w', fr, r, hc, hfn, hl⟩

theorem runs_ret {fn : Func} {v : Value} (hf : P.funcs[f]? = some fn) (hr : (results fn l.toArray).run P w = .ok v w) (hR : R (.returned v) w) : Runs P f (.code .ret :: k) l w R := by
  intro cs
  exact ⟨.returned v, w, _, hR, .one step_ret, rfl, rfl, rfl, rfl, fn, hf, hr⟩

theorem runs_end {fn : Func} {v : Value} (hf : P.funcs[f]? = some fn) (hr : (results fn l.toArray).run P w = .ok v w) (hR : R (.returned v) w) : Runs P f [] l w R := by
  intro cs
  exact ⟨.returned v, w, _, hR, .one step_end, rfl, rfl, rfl, rfl, fn, hf, hr⟩

/-! ### Operands -/
def evL (l : List Value) : Operand → Value
  | .tmp t => l.getD t undef
  | .const v => v
  | .global g => .pointer (some ⟨g, 0, none⟩)
  | .func f => .func (.func f) #[] #[]

theorem evL_eq (l : List Value) (ds : List Deferred) : (⟨l.toArray, ds⟩ : Act).eval = evL l := by
  funext x
  cases x <;> simp [Act.eval, evL]

def putL (l : List Value) (d : Option Tmp) (v : Value) : List Value := match d with
  | some d => l.set d v
  | none => l

theorem put_eq (l : List Value) (ds : List Deferred) (d : Option Tmp) (v : Value) : (⟨l.toArray, ds⟩ : Act).put d v = ⟨(putL l d v).toArray, ds⟩ := by
  cases d <;> simp [Act.put, putL]

theorem putL_len (l : List Value) (d : Option Tmp) (v : Value) : (putL l d v).length = l.length := by
  cases d <;> simp [putL]

def yieldedL (ops : Array Oper) (l : List Value) (j : Nat) : Option Bool :=
  match ((ops[j]?).bind (·.dst)).bind (l[·]?) with
  | some (.bool b) => some b
  | _ => none

theorem yielded_eq (ops : Array Oper) (l : List Value) : yielded ops l.toArray = yieldedL ops l := by
  funext j
  simp only [yielded, yieldedL]
  cases (ops[j]?).bind (·.dst) with
  | none => rfl
  | some d =>
    simp only [Option.bind_some, List.getElem?_toArray]
    cases l[d]? with
    | none => rfl
    | some v => cases v <;> rfl

def wantedL (ops : Array Oper) (l : List Value) (o : Oper) : Bool := match o.guard with
  | none => true
  | some (j, want) => match yieldedL ops l j with
    | some b => b == want
    | none => false

theorem wanted_eq (ops : Array Oper) (l : List Value) (o : Oper) : Region.wanted o (yielded ops l.toArray) = wantedL ops l o := by
  rw [yielded_eq]
  unfold Region.wanted wantedL
  cases o.guard with
  | none => rfl
  | some g =>
    obtain ⟨j, want⟩ := g
    simp only
    cases yieldedL ops l j <;> simp

/-! ### One operation -/
theorem runs_op_value {i : Nat} {rest : List Nat} {o : Oper} {v : Value} (ho : ops[i]? = some o) (hw : wantedL ops l o = true)
    (hr : (execOp (evL l) o).run P w = .ok (.value v) w') (h : Runs P f (.inRegion ops rest :: k) (putL l o.dst v) w' R) :
    Runs P f (.inRegion ops (i :: rest) :: k) l w R := by
  refine Runs.of_step (fun cs => ?_) h
  have hg := stepG_op (P := P) (b := bs f) (a := ⟨l.toArray, []⟩) (k := k) (cs := cs) (w := w) (rest := rest) ho ((wanted_eq ops l o).trans hw)
  rw [evL_eq] at hg
  refine step_lone_go ?_
  rw [hg]
  have hfin : ((bs f).at ⟨l.toArray, []⟩ (.inRegion ops (i :: rest) :: k)).finish v = (bs f).at ⟨(putL l o.dst v).toArray, []⟩ (.inRegion ops rest :: k) := by
    rw [Frame.finish_at, ho, ← put_eq]; rfl
  rw [← hfin]
  simp [stepG.apply, hr]

theorem runs_op_done {i : Nat} {rest : List Nat} {o : Oper} (ho : ops[i]? = some o) (hw : wantedL ops l o = true)
    (hr : (execOp (evL l) o).run P w = .ok .skip w') (h : Runs P f (.inRegion ops rest :: k) (putL l o.dst undef) w' R) :
    Runs P f (.inRegion ops (i :: rest) :: k) l w R := by
  refine Runs.of_step (fun cs => ?_) h
  have hg := stepG_op (P := P) (b := bs f) (a := ⟨l.toArray, []⟩) (k := k) (cs := cs) (w := w) (rest := rest) ho ((wanted_eq ops l o).trans hw)
  rw [evL_eq] at hg
  refine step_lone_go ?_
  rw [hg]
  have hfin : ((bs f).at ⟨l.toArray, []⟩ (.inRegion ops (i :: rest) :: k)).finish undef = (bs f).at ⟨(putL l o.dst undef).toArray, []⟩ (.inRegion ops rest :: k) := by
    rw [Frame.finish_at, ho, ← put_eq]; rfl
  rw [← hfin]
  simp [stepG.apply, hr]

theorem runs_op_off {i : Nat} {rest : List Nat} {o : Oper} (ho : ops[i]? = some o) (hw : wantedL ops l o = false)
    (h : Runs P f (.inRegion ops rest :: k) (putL l o.dst undef) w R) : Runs P f (.inRegion ops (i :: rest) :: k) l w R := by
  refine Runs.of_step (fun cs => ?_) h
  have hs := step_op_skip (P := P) (b := bs f) (a := ⟨l.toArray, []⟩) (k := k) (cs := cs) (w := w) (ops := ops) (i := i) (rest := rest)
    (by simp only [ho, Option.map_some, Option.getD_some]; exact (wanted_eq ops l o).trans hw)
  rw [hs, ho, put_eq]
  rfl

/-- A call. -/
theorem runs_op_call {i : Nat} {rest : List Nat} {o : Oper} {g : FuncId} {args : Array Value} {S : Ending → World → Prop} (ho : ops[i]? = some o) (hw : wantedL ops l o = true)
    (hr : (execOp (evL l) o).run P w = .ok (.enter g args) w) (hc : Calls P g args w S)
    (h : ∀ e w1, S e w1 → ∃ v, e = .returned v ∧ Runs P f (.inRegion ops rest :: k) (putL l o.dst v) w1 R) :
    Runs P f (.inRegion ops (i :: rest) :: k) l w R := by
  intro cs
  have hg := stepG_op (P := P) (b := bs f) (a := ⟨l.toArray, []⟩) (k := k) (cs := cs) (w := w) (rest := rest) ho ((wanted_eq ops l o).trans hw)
  rw [evL_eq] at hg
  obtain ⟨e, w'', fr, hS, hsteps, _, hleave⟩ := hc ((bs f).at ⟨l.toArray, []⟩ (.inRegion ops (i :: rest) :: k) :: cs)
  have henter : step P (lone ((bs f).at ⟨l.toArray, []⟩ (.inRegion ops (i :: rest) :: k)) cs w) =
      .next (lone (Frame.enter P g args .normal) ((bs f).at ⟨l.toArray, []⟩ (.inRegion ops (i :: rest) :: k) :: cs) w) :=
    step_lone_go (by rw [hg]; simp [stepG.apply, hr, Frame.at])
  obtain ⟨v, rfl, hR⟩ := h e w'' hS
  obtain ⟨e2, w3, fr2, hR2, hc2, hf2, hl2⟩ := hR cs
  refine ⟨e2, w3, fr2, hR2, .of_steps (.head henter (hsteps.trans (.one ?_))) hc2, hf2, hl2⟩
  have hfin : ((bs f).at ⟨l.toArray, []⟩ (.inRegion ops (i :: rest) :: k)).finish v = (bs f).at ⟨(putL l o.dst v).toArray, []⟩ (.inRegion ops rest :: k) := by
    rw [Frame.finish_at, ho, ← put_eq]; rfl
  rw [← hfin]
  exact step_leave_returned hleave

/-! ### A run of many steps that touch no memory, reckoned -/
def pureSem {α : Type} (P : Program) : Sem α → Option α
  | .pure a => some a
  | .program k => pureSem P (k P)
  | .mark _ k => pureSem P k
  | _ => none

theorem pureSem_run {α : Type} {P : Program} {w : World} : ∀ {s : Sem α} {a : α}, pureSem P s = some a → s.run P w = .ok a w
  | .pure b, a, h => by simp only [pureSem, Option.some.injEq] at h; subst h; rfl
  | .program k, a, h => by simp only [pureSem] at h; simp only [Sem.run]; exact pureSem_run h
  | .mark m k, a, h => by simp only [pureSem] at h; simp only [Sem.run]; exact pureSem_run h
  | .load .., _, h | .store .., _, h | .new .., _, h | .shape .., _, h | .freeze .., _, h | .frozen .., _, h | .getObj .., _, h | .setObj .., _, h
  | .choose .., _, h | .sys .., _, h | .halt .., _, h => by simp [pureSem] at h

def sxOp (P : Program) (ops : Array Oper) (l : List Value) (i : Nat) : Option (List Value) :=
  match ops[i]? with
  | none => none
  | some o =>
    match wantedL ops l o with
    | true => match pureSem P (execOp (evL l) o) with
      | some (.value v) => some (putL l o.dst v)
      | _ => none
    | false => some (putL l o.dst undef)

def sx1 (P : Program) : List Item → List Value → Option (List Item × List Value)
  | .code .skip :: k, l => some (k, l)
  | .code (.label _) :: k, l => some (k, l)
  | .inBlock _ :: k, l => some (k, l)
  | .code (.seq a b) :: k, l => some (.code a :: .code b :: k, l)
  | .code (.block id c) :: k, l => some (.code c :: .inBlock id :: k, l)
  | .code (.loop c) :: k, l => some (.code c :: .inLoop c :: k, l)
  | .inLoop c :: k, l => some (.code c :: .inLoop c :: k, l)
  | .code (.exit id) :: k, l => match exitTo id k with | some k' => some (k', l) | none => none
  | .code (.cond c a b) :: k, l => match evL l c with
    | .bool true => some (.code a :: k, l)
    | .bool false => some (.code b :: k, l)
    | _ => none
  | .code (.region _ ops false) :: k, l => some (.inRegion ops (List.range ops.size) :: k, l)
  | .inRegion _ [] :: k, l => some (k, l)
  | .inRegion ops (i :: rest) :: k, l => match sxOp P ops l i with | some l' => some (.inRegion ops rest :: k, l') | none => none
  | _, _ => none

def sx (P : Program) : Nat → List Item → List Value → Option (List Item × List Value)
  | 0, k, l => some (k, l)
  | n + 1, k, l => match sx1 P k l with
    | some (k', l') => sx P n k' l'
    | none => none

theorem sxOp_sound {i : Nat} {rest : List Nat} (hs : sxOp P ops l i = some l') (h : Runs P f (.inRegion ops rest :: k) l' w R) : Runs P f (.inRegion ops (i :: rest) :: k) l w R := by
  unfold sxOp at hs
  split at hs
  · cases hs
  · rename_i o ho
    split at hs
    · rename_i hw
      split at hs
      · rename_i v hv
        cases hs
        exact runs_op_value ho hw (pureSem_run hv) h
      · cases hs
    · rename_i hw
      cases hs
      exact runs_op_off ho hw h

theorem sx1_sound (hs : sx1 P todo l = some (todo', l')) (h : Runs P f todo' l' w R) : Runs P f todo l w R := by
  unfold sx1 at hs
  split at hs
  · cases hs; exact .of_step (fun _ => step_skip) h
  · cases hs; exact .of_step (fun _ => step_label) h
  · cases hs; exact .of_step (fun _ => step_inBlock) h
  · cases hs; exact .of_step (fun _ => step_seq) h
  · cases hs; exact .of_step (fun _ => step_block) h
  · cases hs; exact .of_step (fun _ => step_loop) h
  · cases hs; exact .of_step (fun _ => step_inLoop) h
  · split at hs
    · rename_i hk; cases hs; exact .of_step (fun _ => step_exit hk) h
    · cases hs
  · split at hs
    · rename_i hc; cases hs
      refine .of_step (fun _ => ?_) h
      rw [step_cond (t := true) (by rw [evL_eq]; exact hc)]; rfl
    · rename_i hc; cases hs
      refine .of_step (fun _ => ?_) h
      rw [step_cond (t := false) (by rw [evL_eq]; exact hc)]; rfl
    · cases hs
  · cases hs; exact .of_step (fun _ => step_region) h
  · cases hs; exact .of_step (fun _ => step_region_end) h
  · split at hs
    · rename_i hk; cases hs; exact sxOp_sound hk h
    · cases hs
  · cases hs

theorem sx_sound (n : Nat) : ∀ {todo todo' : List Item} {l l' : List Value}, sx P n todo l = some (todo', l') → Runs P f todo' l' w R → Runs P f todo l w R := by
  induction n with
  | zero => intro todo todo' l l' hs h; simp only [sx, Option.some.injEq, Prod.mk.injEq] at hs; obtain ⟨rfl, rfl⟩ := hs; exact h
  | succ n ih =>
    intro todo todo' l l' hs h
    simp only [sx] at hs
    split at hs
    · rename_i hk; exact sx1_sound hk (ih hs h)
    · cases hs

/-- A test. -/
theorem runs_cond {c : Operand} {x y : Code} {t : Bool} (hc : evL l c = .bool t) (ht : t = true → Runs P f (.code x :: k) l w R) (hf : t = false → Runs P f (.code y :: k) l w R) :
    Runs P f (.code (.cond c x y) :: k) l w R := by
  cases t
  · refine .of_step (fun _ => ?_) (hf rfl)
    rw [step_cond (t := false) (by rw [evL_eq]; exact hc)]; rfl
  · refine .of_step (fun _ => ?_) (ht rfl)
    rw [step_cond (t := true) (by rw [evL_eq]; exact hc)]; rfl

/-- Another way to write the temporaries. -/
theorem Runs.conv (he : l = l') (h : Runs P f todo l' w R) : Runs P f todo l w R := he ▸ h

/-! ### A region that draws its order, and whose operations only read (or make what nobody sees) -/
/-- Worlds in which nothing that was there has turned. -/
abbrev Ext (w w' : World) : Prop := Below w.heap.size w w'
theorem Ext.trans {a b c : World} (h : Ext a b) (k : Ext b c) : Ext a c := Below.trans h (k.mono h.size)

structure Qs (P : Program) (ops : Array Oper) (C : World → Prop) (is : List Nat) (l : List Value) (F : List Value → Prop) : Prop where
  out : wpQuiet P ops C (fun a => ∀ l' : List Value, a = ⟨l'.toArray, []⟩ → F l') (is.filterMap (ops[·]?)) ⟨l.toArray, []⟩

variable {C : World → Prop} {F : List Value → Prop}
theorem Qs.nil (h : F l) : Qs P ops C [] l F := by
  refine ⟨?_⟩
  simp only [List.filterMap_nil]
  refine wpQuiet_nil ?_
  intro l' he
  have : l = l' := by simpa using congrArg Act.tmps he
  exact this ▸ h

theorem Qs.val {i : Nat} {is : List Nat} {o : Oper} {v : Value} (ho : ops[i]? = some o) (hw : wantedL ops l o = true)
    (hr : ∀ w, C w → (execOp (evL l) o).run P w = .ok (.value v) w) (h : Qs P ops C is (putL l o.dst v) F) : Qs P ops C (i :: is) l F := by
  refine ⟨?_⟩
  have h := h.out
  simp only [List.filterMap_cons, ho]
  unfold wpQuiet
  rw [wanted_eq, hw, if_pos rfl]
  refine ⟨v, fun w hC => ?_, by rw [put_eq]; exact h⟩
  unfold Oper.quietAt
  rw [evL_eq, hr w hC]
  exact ⟨rfl, rfl⟩

theorem Qs.off {i : Nat} {is : List Nat} {o : Oper} (ho : ops[i]? = some o) (hw : wantedL ops l o = false)
    (h : Qs P ops C is (putL l o.dst undef) F) : Qs P ops C (i :: is) l F := by
  refine ⟨?_⟩
  have h := h.out
  simp only [List.filterMap_cons, ho]
  unfold wpQuiet
  rw [wanted_eq, hw, if_neg (by simp), put_eq]
  exact h

theorem Qs.call {i : Nat} {is : List Nat} {o : Oper} {v : Value} {g : FuncId} {args : Array Value} (ho : ops[i]? = some o) (hw : wantedL ops l o = true)
    (hr : ∀ w, C w → (execOp (evL l) o).run P w = .ok (.enter g args) w) (hc : ∀ w, C w → Calls P g args w fun e w' => e = .returned v ∧ C w')
    (h : Qs P ops C is (putL l o.dst v) F) : Qs P ops C (i :: is) l F := by
  refine ⟨?_⟩
  have h := h.out
  simp only [List.filterMap_cons, ho]
  unfold wpQuiet
  rw [wanted_eq, hw, if_pos rfl]
  refine ⟨v, fun w hC => ?_, by rw [put_eq]; exact h⟩
  unfold Oper.quietAt
  rw [evL_eq, hr w hC]
  exact ⟨rfl, hc w hC⟩

def sxOps (P : Program) (ops : Array Oper) : Nat → List Nat → List Value → Option (List Nat × List Value)
  | 0, is, l => some (is, l)
  | n + 1, i :: is, l => match sxOp P ops l i with | some l' => sxOps P ops n is l' | none => none
  | _ + 1, [], _ => none

theorem Qs.pure (n : Nat) : ∀ {is is' : List Nat} {l l' : List Value}, sxOps P ops n is l = some (is', l') → Qs P ops C is' l' F → Qs P ops C is l F := by
  induction n with
  | zero => intro is is' l l' hs h; simp only [sxOps, Option.some.injEq, Prod.mk.injEq] at hs; obtain ⟨rfl, rfl⟩ := hs; exact h
  | succ n ih =>
    intro is is' l l' hs h
    cases is with
    | nil => simp [sxOps] at hs
    | cons i is =>
      simp only [sxOps] at hs
      split at hs
      · rename_i l1 hk
        have h1 := ih hs h
        unfold sxOp at hk
        split at hk
        · cases hk
        · rename_i o ho
          split at hk
          · rename_i hw
            split at hk
            · rename_i v hv; cases hk; exact .val ho hw (fun w _ => pureSem_run hv) h1
            · cases hk
          · rename_i hw; cases hk; exact .off ho hw h1
      · cases hs

theorem filterMap_range' (l : List Oper) : (List.range l.length).filterMap (fun i => l[i]?) = l := by
  induction l with
  | nil => rfl
  | cons x l ih =>
    rw [List.length_cons, List.range_succ_eq_map, List.filterMap_cons]
    simp only [List.getElem?_cons_zero, List.filterMap_map]
    congr 1

theorem filterMap_range (ops : Array Oper) : (List.range ops.size).filterMap (ops[·]?) = ops.toList := by
  have h : (fun i : Nat => ops[i]?) = fun i : Nat => ops.toList[i]? := by funext i; simp
  rw [← Array.length_toList, h]
  exact filterMap_range' _

theorem runs_quiet {id : Nat} {C : World → Prop} (hm : P.follows .mixedOrders = true) (hB : Region.lexB .any ops = true) (hC : C w.drew)
    (h : Qs P ops C (List.range ops.size) l (fun l' => ∀ w', C w' → Runs P f k l' w' R)) :
    Runs P f (.code (.region id ops true) :: k) l w R := by
  have hq : (Code.region id ops true).wp P (fun e a' w' => e = .normal ∧ ∃ l' : List Value, a' = ⟨l'.toArray, []⟩ ∧ Runs P f k l' w' R) ⟨l.toArray, []⟩ w := by
    refine wp_region_quiet (C := C) hm hB hC ?_
    have h := h.out
    rw [filterMap_range] at h
    have mono : ∀ (os : List Oper) (a : Act) (G G' : Act → Prop), (∀ a, a.defers = [] → G a → G' a) → a.defers = [] → wpQuiet P ops C G os a → wpQuiet P ops C G' os a := by
      intro os
      induction os with
      | nil => intro a G G' hg hd hh; exact hg a hd hh
      | cons o os ih =>
        intro a G G' hg hd hh
        have hp : ∀ v, (a.put o.dst v).defers = [] := fun v => by unfold Act.put; split <;> exact hd
        unfold wpQuiet at hh ⊢
        split
        · rename_i hw
          rw [if_pos hw] at hh
          obtain ⟨v, h1, h2⟩ := hh
          exact ⟨v, h1, ih _ _ _ hg (hp v) h2⟩
        · rename_i hw
          rw [if_neg hw] at hh
          exact ih _ _ _ hg (hp _) hh
    refine mono _ _ _ _ ?_ rfl h
    intro a hd hF w' hw'
    obtain ⟨ts, ds⟩ := a
    simp only at hd
    subst hd
    exact ⟨rfl, ts.toList, by simp, hF ts.toList (by simp) w' hw'⟩
  intro cs
  obtain ⟨e, a', w', ⟨rfl, l', rfl, hr⟩, harr⟩ := hq (bs f) k cs
  obtain ⟨e2, w2, fr, hR, hc, hf, hl⟩ := hr cs
  exact ⟨e2, w2, fr, hR, .of_steps harr hc, hf, hl⟩
end
end Go.Proofs.YtmgjnplkpmcleaaDoor.K
