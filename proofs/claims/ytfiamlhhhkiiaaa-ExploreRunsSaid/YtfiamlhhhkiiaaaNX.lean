/- Errors as values that stay; panics; deferred calls that recover. -/
import Derived.Test.YtfiamlhhhkiiaaaNI
set_option linter.unusedVariables false
set_option linter.unusedSimpArgs false
namespace Go.Proofs.Ytfiamlhhhkiiaaa.K
open Go Go.RowKit

/-- math/bits.Add64 without a carry in: the sum, and the carry. -/
def addS (x y : Int) : Int := Int.ofNat ((x.toNat + y.toNat + 0) % 18446744073709551616)
def addC (x y : Int) : Int := Int.ofNat ((x.toNat + y.toNat + 0) / 18446744073709551616)
/-- An error: none, a number alone, or a number with a place. -/
inductive PErr
  | nil
  | num (c : Int)
  | pos (line col code : Int)
  deriving DecidableEq, Inhabited
def PErr.cas {α : Type} (e : PErr) (a : α) (b : Int → α) (c : Int → Int → Int → α) : α := match e with
  | .nil => a
  | .num n => b n
  | .pos l k m => c l k m
section
variable {α : Type} {a r : α} {b : Int → α} {c : Int → Int → Int → α}
theorem cas_nil (h : PErr.cas .nil a b c = r) : a = r := h
theorem cas_num {n : Int} (h : PErr.cas (.num n) a b c = r) : b n = r := h
theorem cas_pos {l k m : Int} (h : PErr.cas (.pos l k m) a b c = r) : c l k m = r := h
end
/-- How an error lies in memory: tn is the type of bare numbers, tp that of pointers to a number with a place. -/
def RepE (tn tp : TypeId) (Z : Zm) (v : Value) : PErr → Prop
  | .nil => v = .nilIface
  | .num c => v = .iface tn (.int .i64 c)
  | .pos l k m => ∃ b, v = .iface tp (.pointer (some ⟨b, 0, none⟩)) ∧ ZC Z b 0 [.int .i64 l, .int .i64 k, .iface tn (.int .i64 m)]
section
variable {tn tp : TypeId} {Z Z' : Zm} {v : Value} {e : PErr}
theorem RepE.mono (h : RepE tn tp Z v e) (hz : Zm.Le Z Z') : RepE tn tp Z' v e := by
  cases e with
  | nil => exact h
  | num c => exact h
  | pos l k m => obtain ⟨b, h1, h2⟩ := h; exact ⟨b, h1, h2.mono hz⟩
theorem RepE.cells (h : RepE tn tp Z v e) : v.cells = #[v] := by
  cases e with
  | nil => cases h; rfl
  | num c => cases h; rfl
  | pos l k m => obtain ⟨b, rfl, -⟩ := h; rfl
theorem RepE.one (h : RepE tn tp Z v e) : [v].all Value.oneCell' = true := by
  cases e with
  | nil => cases h; rfl
  | num c => cases h; rfl
  | pos l k m => obtain ⟨b, rfl, -⟩ := h; rfl
theorem RepE.of_nil : RepE tn tp Z .nilIface .nil := rfl
theorem RepE.of_num {c : Int} : RepE tn tp Z (.iface tn (.int .i64 c)) (.num c) := rfl
theorem RepE.of_pos {b : Nat} {l k m : Int} (h : ZC Z b 0 [.int .i64 l, .int .i64 k, .iface tn (.int .i64 m)]) : RepE tn tp Z (.iface tp (.pointer (some ⟨b, 0, none⟩))) (.pos l k m) := ⟨b, rfl, h⟩
end
def PErr.isNil : PErr → Bool
  | .nil => true
  | _ => false
theorem x_errNil {P : Program} {w : World} {l : List Value} {tn tp : TypeId} {Z : Zm} {v : Value} {e : PErr} {o : Oper} {t t' : TypeId} {x : Operand} {neg : Bool} (he : RepE tn tp Z v e) (hx : evL l x = v)
    (h0 : pureSem P (do eqGuard (if neg = true then .neq else .eql) t x (.const .nilIface) .nilIface .nilIface; binOp (if neg = true then .neq else .eql) t .nilIface .nilIface) = some (.bool (!neg)))
    (h1 : ∀ u a, pureSem P (do eqGuard (if neg = true then .neq else .eql) t x (.const .nilIface) (.iface u a) .nilIface; binOp (if neg = true then .neq else .eql) t (.iface u a) .nilIface) = some (.bool neg))
    (ho : o.op = .binOp (if neg = true then .neq else .eql) t x (.const .nilIface) t') : (execOp (evL l) o).run P w = .ok (.value (.bool (if neg = true then !e.isNil else e.isNil))) w := by
  have hn : evL l (.const .nilIface) = .nilIface := rfl
  have key : (v = .nilIface ∧ e.isNil = true) ∨ (∃ u a, v = .iface u a) ∧ e.isNil = false := by
    cases e with
    | nil => exact .inl ⟨he, rfl⟩
    | num c => exact .inr ⟨⟨_, _, he⟩, rfl⟩
    | pos a b c => obtain ⟨q, h, -⟩ := he; exact .inr ⟨⟨_, _, h⟩, rfl⟩
  unfold execOp
  simp only [ho, hx, hn]
  rcases key with ⟨rfl, hb⟩ | ⟨⟨u, a, rfl⟩, hb⟩
  · rw [Sem.run_bind, pureSem_run h0, hb]; cases neg <;> rfl
  · rw [Sem.run_bind, pureSem_run (h1 u a), hb]; cases neg <;> rfl
/-- What is told of a call that comes back or panics. -/
def PanQ {ε α : Type} (A : ε → Prop) (B : α → Prop) : Sum ε α → Prop
  | .inl p => A p
  | .inr a => B a
theorem panq_l {ε α : Type} {A : ε → Prop} {B : α → Prop} {p : ε} (h : A p) : PanQ A B (.inl p) := h
theorem panq_r {ε α : Type} {A : ε → Prop} {B : α → Prop} {a : α} (h : B a) : PanQ A B (.inr a) := h
theorem panq_l' {ε α : Type} {A : ε → Prop} {B : α → Prop} {p : ε} (h : PanQ A B (.inl p)) : A p := h
theorem panq_r' {ε α : Type} {A : ε → Prop} {B : α → Prop} {a : α} (h : PanQ A B (.inr a)) : B a := h
section
variable {P : Program} {f : Fx} {k : List Item} {l : List Value} {w w' : World} {R : Ending → World → Prop} {c : Code} {i : Nat} {rest : List Nat} {d : Option Tmp} {ty : TypeId}
/-- A call that panics. -/
theorem r_callX {g : FuncId} {args : Array Value} {S : Ending → World → Prop} (ho : hasO c i = true) (hd : (opO c i).dst = d) (hw : wantI c l i = true)
    (hr : pureSem P (execOp (evL l) (opO c i)) = some (.enter g args)) (hc : Calls P g args w S)
    (h : ∀ e w1, S e w1 → ∃ chain, e = .panicked chain ∧ Raised P f l chain w1 R) : Runs P f (.inRegion (opsOf c) (i :: rest) :: k) l w R :=
  runs_op_callP (opO_spec ho) (wantI_spec (opO_spec ho) hw) (pureSem_run hr) hc fun e w1 hS => .inr (h e w1 hS)
theorem r_callB {g : FuncId} {args : Array Value} {S : Ending → World → Prop} (ho : hasO c i = true) (hd : (opO c i).dst = d) (hw : wantI c l i = true)
    (hr : pureSem P (execOp (evL l) (opO c i)) = some (.enter g args)) (hc : Calls P g args w S)
    (h : ∀ e w1, S e w1 → (∃ v, e = .returned v ∧ Runs P f (.inRegion (opsOf c) rest :: k) (putL l d v) w1 R) ∨ ∃ chain, e = .panicked chain ∧ Raised P f l chain w1 R) : Runs P f (.inRegion (opsOf c) (i :: rest) :: k) l w R := by
  subst hd
  exact runs_op_callP (opO_spec ho) (wantI_spec (opO_spec ho) hw) (pureSem_run hr) hc h
theorem raised_fx {fi : FuncId} {fn : Func} {chain : List PanicEntry} (hf : P.funcs[fi]? = some fn) (h : R (.panicked chain) w) : Raised P (fx fi) l chain w R := ⟨fn, hf, h⟩
theorem raised_ds {fi : FuncId} {fn : Func} {ds : List Deferred} {chain : List PanicEntry} (hf : P.funcs[fi]? = some fn) (h : Leaves P fn l.toArray R ds (.panicking chain) w) : Raised P ⟨fi, ds, .none⟩ l chain w R := ⟨fn, hf, h⟩
theorem x_panic {o : Oper} {x : Operand} {t : TypeId} {v : Value} (hx : evL l x = .iface t v) (ho : o.op = .panic x) : (execOp (evL l) o).run P w = .halt (.panic (.iface t v)) w := by
  unfold execOp
  simp [ho, hx, Instr.panic, goPanic, Sem.run, Result.andThen]
theorem r_panic {x : Operand} {t : TypeId} {v : Value} (ho : opI c i = some (d, .panic x, ty)) (hw : wantI c l i = true) (hx : evL l x = .iface t v)
    (h : Raised P f l [{ v := .iface t v, recovered := false }] w R) : Runs P f (.inRegion (opsOf c) (i :: rest) :: k) l w R := by
  obtain ⟨o, hq, rfl, h2, h3⟩ := opI_spec ho
  exact runs_op_panic hq (wantI_spec hq hw) (x_panic hx h2) h
theorem r_defer {fi : FuncId} {ds : List Deferred} {dd : Deferred} (ho : hasO c i = true) (hd : (opO c i).dst = d) (hw : wantI c l i = true)
    (hr : pureSem P (execOp (evL l) (opO c i)) = some (.defer dd)) (h : Runs P ⟨fi, dd :: ds, .none⟩ (.inRegion (opsOf c) rest :: k) (putL l d undef) w R) : Runs P ⟨fi, ds, .none⟩ (.inRegion (opsOf c) (i :: rest) :: k) l w R := by
  subst hd
  exact runs_op_defer (opO_spec ho) (wantI_spec (opO_spec ho) hw) (pureSem_run hr) h
theorem r_recover {fi : FuncId} {u' : FrameMode} {v : Value} {older : List PanicEntry} (ho : hasO c i = true) (hd : (opO c i).dst = d) (hw : wantI c l i = true)
    (hr : pureSem P (execOp (evL l) (opO c i)) = some .recover) (h : Runs P ⟨fi, [], .some (.panicking ({ v, recovered := true } :: older), u')⟩ (.inRegion (opsOf c) rest :: k) (putL l d v) w R) :
    Runs P ⟨fi, [], .some (.panicking ({ v, recovered := false } :: older), u')⟩ (.inRegion (opsOf c) (i :: rest) :: k) l w R := by
  subst hd
  exact runs_op_recover (opO_spec ho) (wantI_spec (opO_spec ho) hw) (pureSem_run hr) h
theorem r_recover0 {fi : FuncId} {u' : FrameMode} (ho : hasO c i = true) (hd : (opO c i).dst = d) (hw : wantI c l i = true)
    (hr : pureSem P (execOp (evL l) (opO c i)) = some .recover) (h : Runs P ⟨fi, [], .some (.returning, u')⟩ (.inRegion (opsOf c) rest :: k) (putL l d .nilIface) w R) :
    Runs P ⟨fi, [], .some (.returning, u')⟩ (.inRegion (opsOf c) (i :: rest) :: k) l w R := by
  subst hd
  exact runs_op_recover0 (opO_spec ho) (wantI_spec (opO_spec ho) hw) (pureSem_run hr) h
theorem leaves_one {fn : Func} {tmps : Array Value} {ds : List Deferred} {fv : Fn} {cap dargs args : Array Value} {g : FuncId} {u u' : FrameMode} {S : Ending → World → Prop} (hu : u ≠ .run) (hi : pureSem P (invoke (.fn fv cap) dargs) = some (.enter g args))
    (hs : settle u' = .returning) (hc : CallsD P g args u w (fun e v w' => v = u' ∧ S e w')) (h : ∀ e w', S e w' → (∃ v, e = .returned v) ∧ Leaves P fn tmps R ds .returning w') :
    Leaves P fn tmps R ({ target := .fn fv cap, args := dargs } :: ds) u w := by
  refine leaves_cons hu (pureSem_run hi) (hc.mono ?_)
  rintro e v w1 ⟨rfl, hS⟩
  obtain ⟨⟨v, rfl⟩, hl⟩ := h e w1 hS
  show Leaves P fn tmps R ds (settle _) w1
  rw [hs]; exact hl
theorem leaves_nil {fn : Func} {v : Value} (hr : (results fn l.toArray).run P w = .ok v w) (hR : R (.returned v) w) : Leaves P fn l.toArray R [] .returning w := ⟨v, hr, hR⟩
theorem callsD_abs {g : FuncId} {args : Array Value} {u u' : FrameMode} {Q : Ending → World → Prop} (h : ∀ R : Ending → World → Prop, (∀ e w', Q e w' → R e w') → CallsD P g args u w (fun e v w' => v = u' ∧ R e w')) : CallsD P g args u w (fun e v w' => v = u' ∧ Q e w') := h Q fun _ _ h => h
end
theorem r_isret {P : Program} {f : Fx} {k : List Item} {l : List Value} {w : World} {R : Ending → World → Prop} {c : Code} (hc : c = .ret) (h : Runs P f (.code .ret :: k) l w R) : Runs P f (.code c :: k) l w R := by rw [hc]; exact h
end Go.Proofs.Ytfiamlhhhkiiaaa.K
