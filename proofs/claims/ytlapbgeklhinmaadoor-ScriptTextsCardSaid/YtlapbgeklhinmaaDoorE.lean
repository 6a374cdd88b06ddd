import Derived.Test.YtlapbgeklhinmaaDoorS
import Derived.Test.YtlapbgeklhinmaaDoorProg
set_option linter.unusedVariables false
set_option linter.unusedSimpArgs false
set_option maxRecDepth 100000
namespace Go.Proofs.YtlapbgeklhinmaaDoor.K
open Go Go.RowKit
theorem eq_api_Pick {w : World} {d : Nat} (x y : api_Pick) : (Op.equalIn (d + 2) 24 (.agg (enc_api_Pick x).toArray) (.agg (enc_api_Pick y).toArray)).run Tryd.prog w = .ok (decide (x = y)) w := by
  have h : (Op.equalIn (d + 2) 24 (.agg (enc_api_Pick x).toArray) (.agg (enc_api_Pick y).toArray)).run Tryd.prog w = .ok (x.Thread == y.Thread && (x.Kind == y.Kind && (x.Loc == y.Loc && true))) w :=
    eqS (fs := [fld Tryd.prog 24 0, fld Tryd.prog 24 1, fld Tryd.prog 24 2]) (by kernel_rfl) (by kernel_rfl) (by kernel_rfl) (eqF_cons' (a := .int .i64 x.Thread) (b := .int .i64 y.Thread) (by kernel_rfl) (pureSem_run (by kernel_rfl)) (pureSem_run (by kernel_rfl)) (eqI (k' := .i64) (x := x.Thread) (y := y.Thread) (by kernel_rfl)) (eqF_cons' (a := .int .i64 x.Kind) (b := .int .i64 y.Kind) (by kernel_rfl) (pureSem_run (by kernel_rfl)) (pureSem_run (by kernel_rfl)) (eqI (k' := .i64) (x := x.Kind) (y := y.Kind) (by kernel_rfl)) (eqF_cons' (a := .int .i64 x.Loc) (b := .int .i64 y.Loc) (by kernel_rfl) (pureSem_run (by kernel_rfl)) (pureSem_run (by kernel_rfl)) (eqI (k' := .i64) (x := x.Loc) (y := y.Loc) (by kernel_rfl)) eqF_nil)))
  rw [h]
  congr 1
  obtain ⟨x0, x1, x2⟩ := x
  obtain ⟨y0, y1, y2⟩ := y
  simp only [api_Pick.mk.injEq]
  rw [Bool.eq_iff_iff]
  simp [ba_beq]
theorem x_eql_api_Pick {w : World} {l : List Value} {o : Oper} {ty : TypeId} {a b : Operand} {x y : api_Pick} (hx : evL l a = .agg (enc_api_Pick x).toArray) (hy : evL l b = .agg (enc_api_Pick y).toArray) (ho : o.op = .binOp .eql 24 a b ty) :
    (execOp (evL l) o).run Tryd.prog w = .ok (.value (.bool (decide (x = y)))) w := x_eqlS hx hy (by kernel_rfl) (eq_api_Pick (d := 9998) x y) ho
theorem x_neq_api_Pick {w : World} {l : List Value} {o : Oper} {ty : TypeId} {a b : Operand} {x y : api_Pick} (hx : evL l a = .agg (enc_api_Pick x).toArray) (hy : evL l b = .agg (enc_api_Pick y).toArray) (ho : o.op = .binOp .neq 24 a b ty) :
    (execOp (evL l) o).run Tryd.prog w = .ok (.value (.bool (!(decide (x = y))))) w := x_neqS hx hy (by kernel_rfl) (eq_api_Pick (d := 9998) x y) ho
theorem eq_weirref05_Fault {w : World} {d : Nat} (x y : weirref05_Fault) : (Op.equalIn (d + 2) 35 (.agg (enc_weirref05_Fault x).toArray) (.agg (enc_weirref05_Fault y).toArray)).run Tryd.prog w = .ok (decide (x = y)) w := by
  have h : (Op.equalIn (d + 2) 35 (.agg (enc_weirref05_Fault x).toArray) (.agg (enc_weirref05_Fault y).toArray)).run Tryd.prog w = .ok (x.Line == y.Line && (x.Col == y.Col && (x.Code == y.Code && true))) w :=
    eqS (fs := [fld Tryd.prog 35 0, fld Tryd.prog 35 1, fld Tryd.prog 35 2]) (by kernel_rfl) (by kernel_rfl) (by kernel_rfl) (eqF_cons' (a := .int .i64 x.Line) (b := .int .i64 y.Line) (by kernel_rfl) (pureSem_run (by kernel_rfl)) (pureSem_run (by kernel_rfl)) (eqI (k' := .i64) (x := x.Line) (y := y.Line) (by kernel_rfl)) (eqF_cons' (a := .int .i64 x.Col) (b := .int .i64 y.Col) (by kernel_rfl) (pureSem_run (by kernel_rfl)) (pureSem_run (by kernel_rfl)) (eqI (k' := .i64) (x := x.Col) (y := y.Col) (by kernel_rfl)) (eqF_cons' (a := .int .i64 x.Code) (b := .int .i64 y.Code) (by kernel_rfl) (pureSem_run (by kernel_rfl)) (pureSem_run (by kernel_rfl)) (eqI (k' := .i64) (x := x.Code) (y := y.Code) (by kernel_rfl)) eqF_nil)))
  rw [h]
  congr 1
  obtain ⟨x0, x1, x2⟩ := x
  obtain ⟨y0, y1, y2⟩ := y
  simp only [weirref05_Fault.mk.injEq]
  rw [Bool.eq_iff_iff]
  simp [ba_beq]
theorem x_eql_weirref05_Fault {w : World} {l : List Value} {o : Oper} {ty : TypeId} {a b : Operand} {x y : weirref05_Fault} (hx : evL l a = .agg (enc_weirref05_Fault x).toArray) (hy : evL l b = .agg (enc_weirref05_Fault y).toArray) (ho : o.op = .binOp .eql 35 a b ty) :
    (execOp (evL l) o).run Tryd.prog w = .ok (.value (.bool (decide (x = y)))) w := x_eqlS hx hy (by kernel_rfl) (eq_weirref05_Fault (d := 9998) x y) ho
theorem x_neq_weirref05_Fault {w : World} {l : List Value} {o : Oper} {ty : TypeId} {a b : Operand} {x y : weirref05_Fault} (hx : evL l a = .agg (enc_weirref05_Fault x).toArray) (hy : evL l b = .agg (enc_weirref05_Fault y).toArray) (ho : o.op = .binOp .neq 35 a b ty) :
    (execOp (evL l) o).run Tryd.prog w = .ok (.value (.bool (!(decide (x = y))))) w := x_neqS hx hy (by kernel_rfl) (eq_weirref05_Fault (d := 9998) x y) ho
end Go.Proofs.YtlapbgeklhinmaaDoor.K
