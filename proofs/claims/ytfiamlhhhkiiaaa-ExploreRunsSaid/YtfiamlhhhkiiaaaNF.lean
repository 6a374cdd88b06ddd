/- Ranging over a function: the loop's record and the block for deferred calls are objects of memory; a round is a run of its own. -/
import Derived.Test.YtfiamlhhhkiiaaaNC
import Derived.RangeFuncRecord
import Derived.RangeFuncNested
set_option linter.unusedVariables false
set_option linter.unusedSimpArgs false
namespace Go.Proofs.Ytfiamlhhhkiiaaa.K
open Go Go.RowKit Go.MapKept
/-- One object of memory, as it lies there. -/
def xob (b : Nat) (o : Obj) : XObj where
  own := fun k => k = b
  keeps := fun _ _ => False
  holds := fun w => w.heap[b]? = some o
  stable := fun hb h => (hb b rfl).trans h
  there := fun h hk => by rw [hk]; exact heap_lt h
/-- A loop's record between two rounds: j = 0: the next one may come; j = n + 1: the loop has been left by the jump js[n]. -/
def lrec (fi : FuncId) (l : List Value) (ps : Array Tmp) (am bd : Code) (D : Nat) (js : List Code) (j : Int) : Loop :=
  { state := if j = 0 then .ready else .done, pending := if j = 0 then none else js[(j - 1).toNat]?, fn := fi, tmps := l.toArray, params := ps, assign := am, body := bd, defers := D }
def lbusy (fi : FuncId) (l : List Value) (ps : Array Tmp) (am bd : Code) (D : Nat) : Loop := { state := .busy, pending := none, fn := fi, tmps := l.toArray, params := ps, assign := am, body := bd, defers := D }
def xlp (L : Nat) (fi : FuncId) (l : List Value) (ps : Array Tmp) (am bd : Code) (D : Nat) (js : List Code) (j : Int) : XObj := xob L (.loop (lrec fi l ps am bd D js j))
def xlb (L : Nat) (fi : FuncId) (l : List Value) (ps : Array Tmp) (am bd : Code) (D : Nat) : XObj := xob L (.loop (lbusy fi l ps am bd D))
def xdef (D : Nat) : XObj := xob D (.deferred (some []))
section
variable {P : Program} {f : Fx} {fi fj gf : FuncId} {ds : List Deferred} {k : List Item} {l lj : List Value} {w w0 : World} {R : Ending → World → Prop} {c : Code} {i : Nat} {rest : List Nat} {d : Option Tmp} {ty : TypeId} {Z : Zm} {xs : List XObj}
  {L D : Nat} {ps : Array Tmp} {am bd : Code} {js : List Code} {j : Int} {o o' : Obj} {b : Nat}
theorem St.addob (hS : St w0 Z xs w) (o : Obj) : St w0 Z (xob w.heap.size o :: xs) (w.alloc o) := by
  refine hS.add (X := xob w.heap.size o) ⟨rfl, rfl, rfl, ?_, fun j hj _ => (heap_alloc w _).2 j hj, Nat.le_refl _⟩ (heap_alloc w _).1 (fun _ h => Nat.le_of_eq h.symm)
  have : (w.alloc o).heap = w.heap.push o := rfl
  rw [this]; simp
theorem St.setob (hS : St w0 Z (xob b o :: xs) w) (o' : Obj) : St w0 Z (xob b o' :: xs) (w.putObj b o') := by
  have hb : w.heap[b]? = some o := hS.hd
  refine hS.turn (X' := xob b o') ⟨rfl, rfl, rfl, by simp, fun j hj hS => by simp [World.putObj, Ne.symm hS], Nat.le_refl _⟩ ?_ (fun _ h => .inl h) (fun _ _ _ _ h => h.elim) (fun _ _ _ _ h => h.elim)
  exact (heap_set hb).1
theorem St.lp (hS : St w0 Z xs w) (n : Nat) (hn : nth xs n = some (xlp L fi l ps am bd D js j)) : w.heap[L]? = some (.loop (lrec fi l ps am bd D js j)) := hS.at n hn

/-- A round, as a call of yield makes it. -/
def Rounds (P : Program) (L : Nat) (fi : FuncId) (tmps : Array Value) (am bd : Code) (w : World) (S : Ending → World → Prop) : Prop :=
  ∀ c cs, ∃ v w', S (.returned v) w' ∧ Steps P (lone (Frame.round L fi tmps am bd .normal) (c :: cs) w) (lone (c.finish v) cs w')
theorem Rounds.mono {S S' : Ending → World → Prop} {tmps : Array Value} (h : Rounds P L fi tmps am bd w S) (hs : ∀ e w', S e w' → S' e w') : Rounds P L fi tmps am bd w S' := fun c cs => by
  obtain ⟨v, w', h1, h2⟩ := h c cs
  exact ⟨v, w', hs _ _ h1, h2⟩
theorem rounds_abs {tmps : Array Value} {Q : Ending → World → Prop} (h : ∀ R : Ending → World → Prop, (∀ e w', Q e w' → R e w') → Rounds P L fi tmps am bd w R) : Rounds P L fi tmps am bd w Q := h Q fun _ _ h => h
theorem rounds_of_runs {S : Ending → World → Prop} (h : Runs P ⟨fi, [], .rd L⟩ [.code am, .beginRound, .code bd] l w S) : Rounds P L fi l.toArray am bd w S := by
  intro c cs
  have h : ∃ v w', S (.returned v) w' ∧ Steps P (lone ((bs ⟨fi, [], .rd L⟩).atR ⟨l.toArray, []⟩ [.code am, .beginRound, .code bd]) (c :: cs) w) (lone (c.finish v) cs w') := h (c :: cs)
  have e : Frame.round L fi l.toArray am bd .normal = (bs ⟨fi, [], .rd L⟩).atR ⟨l.toArray, []⟩ [.code am, .beginRound, .code bd] := by simp [Frame.round, Frame.atR, bs]
  rw [e]; exact h
theorem r_begin (hS : St w0 Z (xlp L fj lj ps am bd D js 0 :: xs) w) (h : ∀ w', St w0 Z (xlb L fj lj ps am bd D :: xs) w' → Runs P ⟨fi, [], .rd L⟩ k l w' R) : Runs P ⟨fi, [], .rd L⟩ (.beginRound :: k) l w R := by
  have hb : w.heap[L]? = some (.loop (lrec fj lj ps am bd D js 0)) := hS.hd
  have hS' : St w0 Z (xlb L fj lj ps am bd D :: xs) (w.putObj L (.loop (lbusy fj lj ps am bd D))) := St.setob hS _
  exact Runs.of_step (fun cs => stepR_beginRound rfl (run_beginRound hb rfl)) (h _ hS')
theorem lrec_zero : lrec fj lj ps am bd D js 0 = { lbusy fj lj ps am bd D with state := .ready, pending := none } := by simp [lrec, lbusy]
theorem lrec_succ {n : Nat} {cj : Code} (hj : js[n]? = some cj) : lrec fj lj ps am bd D js ((n + 1 : Nat) : Int) = { lbusy fj lj ps am bd D with state := .done, pending := some cj } := by
  have e : ¬ ((n + 1 : Nat) : Int) = 0 := by omega
  have e2 : (((n + 1 : Nat) : Int) - 1).toNat = n := by omega
  simp only [lrec, lbusy, if_neg e, e2, hj]
theorem r_rend (hS : St w0 Z (xlb L fj lj ps am bd D :: xs) w) (js : List Code) (h : ∀ w', St w0 Z (xlp L fj lj ps am bd D js 0 :: xs) w' → R (.returned (.bool true)) w') : Runs P ⟨fi, [], .rd L⟩ [] l w R := by
  have hb : w.heap[L]? = some (.loop (lbusy fj lj ps am bd D)) := hS.hd
  intro cs
  cases cs with
  | nil => trivial
  | cons c0 cs =>
    refine ⟨.bool true, _, h _ ?_, .one (stepR_round_end (l := L) rfl rfl (run_endRound none hb))⟩
    have := St.setob hS (.loop (lrec fj lj ps am bd D js 0))
    rw [lrec_zero] at this
    unfold xlp; rw [lrec_zero]; exact this
theorem r_rret (hS : St w0 Z (xlb L fj lj ps am bd D :: xs) w) (js : List Code) (n : Nat) (hj : js[n]? = some .ret) (h : ∀ w', St w0 Z (xlp L fj lj ps am bd D js ((n + 1 : Nat) : Int) :: xs) w' → R (.returned (.bool false)) w') : Runs P ⟨fi, [], .rd L⟩ (.code .ret :: k) l w R := by
  have hb : w.heap[L]? = some (.loop (lbusy fj lj ps am bd D)) := hS.hd
  intro cs
  cases cs with
  | nil => trivial
  | cons c0 cs =>
    refine ⟨.bool false, _, h _ ?_, .one (stepR_round_ret (l := L) rfl rfl (run_endRound (some .ret) hb))⟩
    have := St.setob hS (.loop (lrec fj lj ps am bd D js ((n + 1 : Nat) : Int)))
    rw [lrec_succ hj] at this
    unfold xlp; rw [lrec_succ hj]; exact this
theorem r_rexit {id : Nat} (hS : St w0 Z (xlb L fj lj ps am bd D :: xs) w) (js : List Code) (n : Nat) (hj : js[n]? = some (.exit id)) (hx : exitTo id k = none) (h : ∀ w', St w0 Z (xlp L fj lj ps am bd D js ((n + 1 : Nat) : Int) :: xs) w' → R (.returned (.bool false)) w') :
    Runs P ⟨fi, [], .rd L⟩ (.code (.exit id) :: k) l w R := by
  have hb : w.heap[L]? = some (.loop (lbusy fj lj ps am bd D)) := hS.hd
  intro cs
  cases cs with
  | nil => trivial
  | cons c0 cs =>
    refine ⟨.bool false, _, h _ ?_, .one (stepR_round_exit (l := L) rfl rfl hx (run_endRound (some (.exit id)) hb))⟩
    have := St.setob hS (.loop (lrec fj lj ps am bd D js ((n + 1 : Nat) : Int)))
    rw [lrec_succ hj] at this
    unfold xlp; rw [lrec_succ hj]; exact this

/-! ### A call of yield -/
def yieldArgs (l : List Value) (o : Oper) : Option (Value × Array Value) := match o.op with
  | .call cl => match cl.callee with
    | .value x => some (evL l x, cl.args.map (evL l))
    | _ => none
  | _ => none
theorem x_yield {o : Oper} {args : Array Value} {r : Loop} (hL : w.heap[L]? = some (.loop r)) (hy : yieldArgs l o = some (.func (.yield L) #[] #[], args)) (hs : args.size = r.params.size) :
    (execOp (evL l) o).run P w = .ok (.round L r.fn ((r.params.zip args).foldl (fun tmps (t, a) => tmps.setIfInBounds t a) r.tmps) r.assign r.body) w := by
  unfold yieldArgs at hy
  split at hy
  · rename_i cl ho
    split at hy
    · rename_i x hx
      simp only [Option.some.injEq, Prod.mk.injEq] at hy
      obtain ⟨h1, rfl⟩ := hy
      unfold execOp
      simp only [ho, resolve, hx, h1, Deferred.ofValue, Sem.run_bind, Sem.run_pure, Result.andThen_ok]
      simpa [invoke] using run_yield (P := P) (args := cl.args.map (evL l)) hL hs
    · cases hy
  · cases hy
theorem r_yield {args : Array Value} {tl : List Value} {S : Ending → World → Prop} (hL : w.heap[L]? = some (.loop (lrec fj lj ps am bd D js 0))) (ho : hasO c i = true) (hd : (opO c i).dst = d) (hw : wantI c l i = true) (hy : yieldArgs l (opO c i) = some (.func (.yield L) #[] #[], args))
    (hc : Rounds P L fj tl.toArray am bd w S) (hs : args.size = ps.size) (ht : (ps.zip args).foldl (fun tmps (t, a) => tmps.setIfInBounds t a) lj.toArray = tl.toArray)
    (h : ∀ e w1, S e w1 → ∃ v, e = .returned v ∧ Runs P f (.inRegion (opsOf c) rest :: k) (putL l d v) w1 R) : Runs P f (.inRegion (opsOf c) (i :: rest) :: k) l w R := by
  subst hd
  have hoo := opO_spec ho
  have hww := wantI_spec hoo hw
  have hr := x_yield (P := P) hL hy hs
  intro cs
  have hg := stepGR_op (P := P) (b := bs f) (a := ⟨l.toArray, f.ds⟩) (k := k) (cs := cs) (w := w) (rest := rest) hoo ((wanted_eq _ l _).trans hww)
  rw [evL_eq, Oper.semAt_eq _ _ _ (nd_ok hr (fun _ h => nomatch h))] at hg
  obtain ⟨v, w1, hS, hsteps⟩ := hc ((bs f).atR ⟨l.toArray, f.ds⟩ (.inRegion (opsOf c) (i :: rest) :: k)) cs
  have henter : step P (lone ((bs f).atR ⟨l.toArray, f.ds⟩ (.inRegion (opsOf c) (i :: rest) :: k)) cs w) =
      .next (lone (Frame.round L fj tl.toArray am bd .normal) ((bs f).atR ⟨l.toArray, f.ds⟩ (.inRegion (opsOf c) (i :: rest) :: k) :: cs) w) :=
    step_lone_go (by rw [hg, ← ht]; simp [stepG.apply, hr, Frame.atR, lrec])
  obtain ⟨v', he, hR⟩ := h _ w1 hS
  cases he
  refine .of_steps (.head henter hsteps) ?_
  have hfin : ((bs f).atR ⟨l.toArray, f.ds⟩ (.inRegion (opsOf c) (i :: rest) :: k)).finish v = (bs f).atR ⟨(putL l (opO c i).dst v).toArray, f.ds⟩ (.inRegion (opsOf c) rest :: k) := by
    rw [Frame.finish_atR, hoo, ← put_eq]; rfl
  rw [hfin]
  exact hR cs

/-! ### The statement -/
theorem Runs.fillG (m : List (Option Value)) (he : l = K.fill m l) (h : ∀ ll, Runs P f k (K.fill m ll) w R) : Runs P f k l w R := by rw [he]; exact h l
theorem r_rangeF {g : Operand} {caps : Array Value} {args : Nat → Array Value} (js : List Code) (hS : St w0 Z xs w) (hc : c = .rangeFunc g ps am bd) (hg : evL l g = .func (.func gf) #[] caps)
    (hi : ∀ L, pureSem P (invoke (.fn (.func gf) caps) #[.func (.yield L) #[] #[]]) = some (.enter gf (args L)))
    (h : ∀ D L w1, St w0 Z (xlp L fi l ps am bd D js 0 :: xdef D :: xs) w1 → ∃ S : Ending → World → Prop, Calls P gf (args L) w1 S ∧ ∀ e w2, S e w2 → (∃ v, e = .returned v) ∧ Runs P ⟨fi, { target := .collected D, args := #[] } :: ds, .none⟩ (.endRangeFunc L :: k) l w2 R) :
    Runs P ⟨fi, ds, .none⟩ (.code c :: k) l w R := by
  intro cs
  subst hc
  have hS2 := (hS.addob (.deferred (some []))).addob (.loop (lrec fi l ps am bd w.heap.size js 0))
  have ez : (w.alloc (.deferred (some []))).heap.size = w.heap.size + 1 := World.size_alloc ..
  rw [ez] at hS2
  obtain ⟨S, hc, hk⟩ := h w.heap.size (w.heap.size + 1) _ hS2
  have hres : ∀ w1, (resolve (⟨l.toArray, ds⟩ : Act).eval (rangeCall g (w.heap.size + 1)) 0).run P w1 = .ok { target := .fn (.func gf) caps, args := #[.func (.yield (w.heap.size + 1)) #[] #[]] } w1 := by
    intro w1
    rw [evL_eq]
    have e1 : evL l (.const (.func (.yield (w.heap.size + 1)) #[] #[])) = .func (.yield (w.heap.size + 1)) #[] #[] := rfl
    simp [resolve, hg, e1, Deferred.ofValue]
  have he := run_enterLoop_outer (P := P) (w := w) fi l.toArray ps am bd
  rw [show (Loop.mk .ready none fi l.toArray ps am bd w.heap.size) = lrec fi l ps am bd w.heap.size js 0 by simp [lrec]] at he
  have hstep := stepR_rangeFunc (P := P) (b := bs ⟨fi, ds, .none⟩) (a := ⟨l.toArray, ds⟩) (k := k) (cs := cs) (g := g) he (hres _) (pureSem_run (hi _))
  obtain ⟨e, w'', fr, hSx, hsteps, _, hleave⟩ := hc ((bs ⟨fi, ds, .none⟩).atR ⟨l.toArray, { target := .collected w.heap.size, args := #[] } :: ds⟩ (.inRangeFunc (w.heap.size + 1) :: k) :: cs)
  obtain ⟨⟨v, rfl⟩, hr⟩ := hk e w'' hSx
  refine .of_steps (.head hstep (hsteps.trans (.one (step_leave_returned hleave)))) ?_
  rw [finish_atR_inRangeFunc]
  exact hr cs
/-- .. within a round of another loop: its record tells where the calls go that rounds put aside. -/
theorem r_rangeFN {L0 n : Nat} {f0 : FuncId} {l0 : List Value} {ps0 : Array Tmp} {am0 bd0 : Code} {g : Operand} {caps : Array Value} {args : Nat → Array Value} (js : List Code) (hS : St w0 Z xs w) (hn : nth xs n = some (xlb L0 f0 l0 ps0 am0 bd0 D)) (hc : c = .rangeFunc g ps am bd) (hg : evL l g = .func (.func gf) #[] caps)
    (hi : ∀ L, pureSem P (invoke (.fn (.func gf) caps) #[.func (.yield L) #[] #[]]) = some (.enter gf (args L)))
    (h : ∀ L w1, St w0 Z (xlp L fi l ps am bd D js 0 :: xs) w1 → ∃ S : Ending → World → Prop, Calls P gf (args L) w1 S ∧ ∀ e w2, S e w2 → (∃ v, e = .returned v) ∧ Runs P ⟨fi, [], .rd L0⟩ (.endRangeFunc L :: k) l w2 R) :
    Runs P ⟨fi, [], .rd L0⟩ (.code c :: k) l w R := by
  intro cs
  subst hc
  have hb : w.heap[L0]? = some (.loop (lbusy f0 l0 ps0 am0 bd0 D)) := hS.at n hn
  have hS2 := hS.addob (.loop (lrec fi l ps am bd D js 0))
  obtain ⟨S, hc, hk⟩ := h w.heap.size _ hS2
  have hres : ∀ w1, (resolve (⟨l.toArray, []⟩ : Act).eval (rangeCall g w.heap.size) 0).run P w1 = .ok { target := .fn (.func gf) caps, args := #[.func (.yield w.heap.size) #[] #[]] } w1 := by
    intro w1
    rw [evL_eq]
    have e1 : evL l (.const (.func (.yield w.heap.size) #[] #[])) = .func (.yield w.heap.size) #[] #[] := rfl
    simp [resolve, hg, e1, Deferred.ofValue]
  have he := run_enterLoop_inner (P := P) hb fi l.toArray ps am bd
  rw [show (Loop.mk .ready none fi l.toArray ps am bd (lbusy f0 l0 ps0 am0 bd0 D).defers) = lrec fi l ps am bd D js 0 by simp [lrec, lbusy]] at he
  have hstep := stepR_rangeFunc (P := P) (b := bs ⟨fi, [], .rd L0⟩) (a := ⟨l.toArray, []⟩) (k := k) (cs := cs) (g := g) he (hres _) (pureSem_run (hi _))
  obtain ⟨e, w'', fr, hSx, hsteps, _, hleave⟩ := hc ((bs ⟨fi, [], .rd L0⟩).atR ⟨l.toArray, []⟩ (.inRangeFunc w.heap.size :: k) :: cs)
  obtain ⟨⟨v, rfl⟩, hr⟩ := hk e w'' hSx
  refine .of_steps (.head hstep (hsteps.trans (.one (step_leave_returned hleave)))) ?_
  rw [finish_atR_inRangeFunc]
  exact hr cs
theorem r_endF0 (hS : St w0 Z (xlp L fj lj ps am bd D js 0 :: xs) w) (h : ∀ w', St w0 Z xs w' → Runs P f k l w' R) : Runs P f (.endRangeFunc L :: k) l w R := by
  have hb : w.heap[L]? = some (.loop (lrec fj lj ps am bd D js 0)) := hS.hd
  have he := run_endLoop (P := P) hb (by simp [lrec])
  rw [show (lrec fj lj ps am bd D js 0).pending = none by simp [lrec]] at he
  exact Runs.of_step (fun cs => stepR_endRangeFunc he) (h _ (St.setob hS _).drop)
theorem r_endFj (n : Nat) {cj : Code} (hj : js[n]? = some cj) (hS : St w0 Z (xlp L fj lj ps am bd D js ((n + 1 : Nat) : Int) :: xs) w) (h : ∀ w', St w0 Z xs w' → Runs P f (.code cj :: k) l w' R) : Runs P f (.endRangeFunc L :: k) l w R := by
  have hb : w.heap[L]? = some (.loop (lrec fj lj ps am bd D js ((n + 1 : Nat) : Int))) := hS.hd
  rw [lrec_succ hj] at hb
  have he := run_endLoop (P := P) hb (by simp)
  exact Runs.of_step (fun cs => stepR_endRangeFunc he) (h _ (St.setob hS _).drop)

/-! ### The way out -/
/-- What is left to do at the way out of a frame that has been through such loops. -/
def LeavesC (P : Program) (fn : Func) (tmps : Array Value) (R : Ending → World → Prop) : List Deferred → World → Prop
  | [], w => Leaves P fn tmps R [] .returning w
  | d :: ds, w => ∃ r w', d.target = .collected r ∧ (Instr.takeDeferred r).run P w = .ok [] w' ∧ LeavesC P fn tmps R ds w'
theorem leavesC_end {fn : Func} (hf : P.funcs[fi]? = some fn) : ∀ {ds : List Deferred} {w : World} {fr0 : Frame} {cs : List Frame} {ds' : List Deferred} (hd : fr0.defers = ds) (ht : fr0.tmps = l.toArray) (hfn : fr0.fn = fi) (hk : fr0.kind = .normal) (hu : fr0.mode = .returning)
    (h : LeavesC P fn l.toArray R ds w), EndsAt P ⟨fi, ds', .none⟩ R fr0 w cs
  | [], w, fr0, cs, ds', hd, ht, hfn, hk, hu, h => leaves_end (ds := []) hf hd ht hfn hk hu h
  | d :: ds, w, fr0, cs, ds', hd, ht, hfn, hk, hu, h => by
    obtain ⟨r, w', h1, h2, h3⟩ := h
    have hs := step_collected (fr := fr0) (cs := cs) (by rw [hu]; simp) hd h1 h2
    refine .of_steps (.one hs) (leavesC_end hf (ds := ds) (fr0 := { fr0 with defers := [] ++ ds }) rfl ht hfn hk hu h3)
theorem runsC_ret {fn : Func} (hf : P.funcs[fi]? = some fn) (h : LeavesC P fn l.toArray R ds w) : Runs P ⟨fi, ds, .none⟩ (.code .ret :: k) l w R := by
  intro cs
  exact .of_steps (.one (stepR_ret rfl)) (leavesC_end hf rfl rfl rfl rfl rfl h)
theorem runsC_end {fn : Func} (hf : P.funcs[fi]? = some fn) (h : LeavesC P fn l.toArray R ds w) : Runs P ⟨fi, ds, .none⟩ [] l w R := by
  intro cs
  exact .of_steps (.one (stepR_end rfl)) (leavesC_end hf rfl rfl rfl rfl rfl h)
theorem leavesC_cons {fn : Func} {tm : Array Value} (hS : St w0 Z (xdef D :: xs) w) (h : ∀ w', St w0 Z xs w' → LeavesC P fn tm R ds w') : LeavesC P fn tm R ({ target := .collected D, args := #[] } :: ds) w := by
  have hb : w.heap[D]? = some (.deferred (some [])) := hS.hd
  exact ⟨D, _, rfl, run_takeDeferred hb, h _ (St.setob hS _).drop⟩
theorem leavesC_nil {fn : Func} {v : Value} (hr : (results fn l.toArray).run P w = .ok v w) (hR : R (.returned v) w) : LeavesC P fn l.toArray R [] w := leaves_nil hr hR
end
end Go.Proofs.Ytfiamlhhhkiiaaa.K
