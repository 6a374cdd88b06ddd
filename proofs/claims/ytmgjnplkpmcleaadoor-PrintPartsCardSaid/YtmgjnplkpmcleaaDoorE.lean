import Derived.Test.YtmgjnplkpmcleaaDoorS
import Derived.Test.YtmgjnplkpmcleaaDoorProg
set_option linter.unusedVariables false
set_option linter.unusedSimpArgs false
set_option maxRecDepth 100000
namespace Go.Proofs.YtmgjnplkpmcleaaDoor.K
open Go Go.RowKit
theorem eq_api_Ref {w : World} {d : Nat} (x y : api_Ref) : (Op.equalIn (d + 2) 23 (.agg (enc_api_Ref x).toArray) (.agg (enc_api_Ref y).toArray)).run Tryd.prog w = .ok (decide (x = y)) w := by
  have h : (Op.equalIn (d + 2) 23 (.agg (enc_api_Ref x).toArray) (.agg (enc_api_Ref y).toArray)).run Tryd.prog w = .ok (x.Thread == y.Thread && (x.Name == y.Name && true)) w :=
    eqS (fs := [fld Tryd.prog 23 0, fld Tryd.prog 23 1]) (by kernel_rfl) (by kernel_rfl) (by kernel_rfl) (eqF_cons' (a := .int .i64 x.Thread) (b := .int .i64 y.Thread) (by kernel_rfl) (pureSem_run (by kernel_rfl)) (pureSem_run (by kernel_rfl)) (eqI (k' := .i64) (x := x.Thread) (y := y.Thread) (by kernel_rfl)) (eqF_cons' (a := .string x.Name) (b := .string y.Name) (by kernel_rfl) (pureSem_run (by kernel_rfl)) (pureSem_run (by kernel_rfl)) (eqStr (x := x.Name) (y := y.Name) (by kernel_rfl)) eqF_nil))
  rw [h]
  congr 1
  obtain ⟨x0, x1⟩ := x
  obtain ⟨y0, y1⟩ := y
  simp only [api_Ref.mk.injEq]
  rw [Bool.eq_iff_iff]
  simp [ba_beq]
theorem x_eql_api_Ref {w : World} {l : List Value} {o : Oper} {ty : TypeId} {a b : Operand} {x y : api_Ref} (hx : evL l a = .agg (enc_api_Ref x).toArray) (hy : evL l b = .agg (enc_api_Ref y).toArray) (ho : o.op = .binOp .eql 23 a b ty) :
    (execOp (evL l) o).run Tryd.prog w = .ok (.value (.bool (decide (x = y)))) w := x_eqlS hx hy (by kernel_rfl) (eq_api_Ref (d := 9998) x y) ho
theorem x_neq_api_Ref {w : World} {l : List Value} {o : Oper} {ty : TypeId} {a b : Operand} {x y : api_Ref} (hx : evL l a = .agg (enc_api_Ref x).toArray) (hy : evL l b = .agg (enc_api_Ref y).toArray) (ho : o.op = .binOp .neq 23 a b ty) :
    (execOp (evL l) o).run Tryd.prog w = .ok (.value (.bool (!(decide (x = y))))) w := x_neqS hx hy (by kernel_rfl) (eq_api_Ref (d := 9998) x y) ho
theorem eq_api_Init {w : World} {d : Nat} (x y : api_Init) : (Op.equalIn (d + 3) 25 (.agg (enc_api_Init x).toArray) (.agg (enc_api_Init y).toArray)).run Tryd.prog w = .ok (decide (x = y)) w := by
  have h : (Op.equalIn (d + 3) 25 (.agg (enc_api_Init x).toArray) (.agg (enc_api_Init y).toArray)).run Tryd.prog w = .ok (decide (x.Ref = y.Ref) && (x.Value == y.Value && true)) w :=
    eqS (fs := [fld Tryd.prog 25 0, fld Tryd.prog 25 1]) (by kernel_rfl) (by kernel_rfl) (by kernel_rfl) (eqF_cons' (a := .agg (enc_api_Ref x.Ref).toArray) (b := .agg (enc_api_Ref y.Ref).toArray) (by kernel_rfl) (pureSem_run (by kernel_rfl)) (pureSem_run (by kernel_rfl)) (eq_api_Ref x.Ref y.Ref) (eqF_cons' (a := .int .i64 x.Value) (b := .int .i64 y.Value) (by kernel_rfl) (pureSem_run (by kernel_rfl)) (pureSem_run (by kernel_rfl)) (eqI (k' := .i64) (x := x.Value) (y := y.Value) (by kernel_rfl)) eqF_nil))
  rw [h]
  congr 1
  obtain ⟨x0, x1⟩ := x
  obtain ⟨y0, y1⟩ := y
  simp only [api_Init.mk.injEq]
  rw [Bool.eq_iff_iff]
  simp [ba_beq]
theorem x_eql_api_Init {w : World} {l : List Value} {o : Oper} {ty : TypeId} {a b : Operand} {x y : api_Init} (hx : evL l a = .agg (enc_api_Init x).toArray) (hy : evL l b = .agg (enc_api_Init y).toArray) (ho : o.op = .binOp .eql 25 a b ty) :
    (execOp (evL l) o).run Tryd.prog w = .ok (.value (.bool (decide (x = y)))) w := x_eqlS hx hy (by kernel_rfl) (eq_api_Init (d := 9997) x y) ho
theorem x_neq_api_Init {w : World} {l : List Value} {o : Oper} {ty : TypeId} {a b : Operand} {x y : api_Init} (hx : evL l a = .agg (enc_api_Init x).toArray) (hy : evL l b = .agg (enc_api_Init y).toArray) (ho : o.op = .binOp .neq 25 a b ty) :
    (execOp (evL l) o).run Tryd.prog w = .ok (.value (.bool (!(decide (x = y))))) w := x_neqS hx hy (by kernel_rfl) (eq_api_Init (d := 9997) x y) ho
theorem eq_api_Instr {w : World} {d : Nat} (x y : api_Instr) : (Op.equalIn (d + 2) 27 (.agg (enc_api_Instr x).toArray) (.agg (enc_api_Instr y).toArray)).run Tryd.prog w = .ok (decide (x = y)) w := by
  have h : (Op.equalIn (d + 2) 27 (.agg (enc_api_Instr x).toArray) (.agg (enc_api_Instr y).toArray)).run Tryd.prog w = .ok (x.Op == y.Op && (x.Reg == y.Reg && (x.Src == y.Src && (x.Loc == y.Loc && (x.Imm == y.Imm && true))))) w :=
    eqS (fs := [fld Tryd.prog 27 0, fld Tryd.prog 27 1, fld Tryd.prog 27 2, fld Tryd.prog 27 3, fld Tryd.prog 27 4]) (by kernel_rfl) (by kernel_rfl) (by kernel_rfl) (eqF_cons' (a := .int .i64 x.Op) (b := .int .i64 y.Op) (by kernel_rfl) (pureSem_run (by kernel_rfl)) (pureSem_run (by kernel_rfl)) (eqI (k' := .i64) (x := x.Op) (y := y.Op) (by kernel_rfl)) (eqF_cons' (a := .string x.Reg) (b := .string y.Reg) (by kernel_rfl) (pureSem_run (by kernel_rfl)) (pureSem_run (by kernel_rfl)) (eqStr (x := x.Reg) (y := y.Reg) (by kernel_rfl)) (eqF_cons' (a := .string x.Src) (b := .string y.Src) (by kernel_rfl) (pureSem_run (by kernel_rfl)) (pureSem_run (by kernel_rfl)) (eqStr (x := x.Src) (y := y.Src) (by kernel_rfl)) (eqF_cons' (a := .string x.Loc) (b := .string y.Loc) (by kernel_rfl) (pureSem_run (by kernel_rfl)) (pureSem_run (by kernel_rfl)) (eqStr (x := x.Loc) (y := y.Loc) (by kernel_rfl)) (eqF_cons' (a := .int .i64 x.Imm) (b := .int .i64 y.Imm) (by kernel_rfl) (pureSem_run (by kernel_rfl)) (pureSem_run (by kernel_rfl)) (eqI (k' := .i64) (x := x.Imm) (y := y.Imm) (by kernel_rfl)) eqF_nil)))))
  rw [h]
  congr 1
  obtain ⟨x0, x1, x2, x3, x4⟩ := x
  obtain ⟨y0, y1, y2, y3, y4⟩ := y
  simp only [api_Instr.mk.injEq]
  rw [Bool.eq_iff_iff]
  simp [ba_beq]
theorem x_eql_api_Instr {w : World} {l : List Value} {o : Oper} {ty : TypeId} {a b : Operand} {x y : api_Instr} (hx : evL l a = .agg (enc_api_Instr x).toArray) (hy : evL l b = .agg (enc_api_Instr y).toArray) (ho : o.op = .binOp .eql 27 a b ty) :
    (execOp (evL l) o).run Tryd.prog w = .ok (.value (.bool (decide (x = y)))) w := x_eqlS hx hy (by kernel_rfl) (eq_api_Instr (d := 9998) x y) ho
theorem x_neq_api_Instr {w : World} {l : List Value} {o : Oper} {ty : TypeId} {a b : Operand} {x y : api_Instr} (hx : evL l a = .agg (enc_api_Instr x).toArray) (hy : evL l b = .agg (enc_api_Instr y).toArray) (ho : o.op = .binOp .neq 27 a b ty) :
    (execOp (evL l) o).run Tryd.prog w = .ok (.value (.bool (!(decide (x = y))))) w := x_neqS hx hy (by kernel_rfl) (eq_api_Instr (d := 9998) x y) ho
end Go.Proofs.YtmgjnplkpmcleaaDoor.K
