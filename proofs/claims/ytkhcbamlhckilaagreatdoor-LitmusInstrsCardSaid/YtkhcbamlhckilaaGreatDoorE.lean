import Derived.Test.YtkhcbamlhckilaaGreatDoorS
import Derived.Test.YtkhcbamlhckilaaGreatDoorProg
set_option linter.unusedVariables false
set_option linter.unusedSimpArgs false
set_option maxRecDepth 100000
namespace Go.Proofs.YtkhcbamlhckilaaGreatDoor.K
open Go Go.RowKit
theorem eq_api_Instr {w : World} {d : Nat} (x y : api_Instr) : (Op.equalIn (d + 2) 23 (.agg (enc_api_Instr x).toArray) (.agg (enc_api_Instr y).toArray)).run Tryz.prog w = .ok (decide (x = y)) w := by
  have h : (Op.equalIn (d + 2) 23 (.agg (enc_api_Instr x).toArray) (.agg (enc_api_Instr y).toArray)).run Tryz.prog w = .ok (x.Op == y.Op && (x.Reg == y.Reg && (x.Src == y.Src && (x.Loc == y.Loc && (x.Imm == y.Imm && true))))) w :=
    eqS (fs := [fld Tryz.prog 23 0, fld Tryz.prog 23 1, fld Tryz.prog 23 2, fld Tryz.prog 23 3, fld Tryz.prog 23 4]) (by kernel_rfl) (by kernel_rfl) (by kernel_rfl) (eqF_cons' (a := .int .i64 x.Op) (b := .int .i64 y.Op) (by kernel_rfl) (pureSem_run (by kernel_rfl)) (pureSem_run (by kernel_rfl)) (eqI (k' := .i64) (x := x.Op) (y := y.Op) (by kernel_rfl)) (eqF_cons' (a := .string x.Reg) (b := .string y.Reg) (by kernel_rfl) (pureSem_run (by kernel_rfl)) (pureSem_run (by kernel_rfl)) (eqStr (x := x.Reg) (y := y.Reg) (by kernel_rfl)) (eqF_cons' (a := .string x.Src) (b := .string y.Src) (by kernel_rfl) (pureSem_run (by kernel_rfl)) (pureSem_run (by kernel_rfl)) (eqStr (x := x.Src) (y := y.Src) (by kernel_rfl)) (eqF_cons' (a := .string x.Loc) (b := .string y.Loc) (by kernel_rfl) (pureSem_run (by kernel_rfl)) (pureSem_run (by kernel_rfl)) (eqStr (x := x.Loc) (y := y.Loc) (by kernel_rfl)) (eqF_cons' (a := .int .i64 x.Imm) (b := .int .i64 y.Imm) (by kernel_rfl) (pureSem_run (by kernel_rfl)) (pureSem_run (by kernel_rfl)) (eqI (k' := .i64) (x := x.Imm) (y := y.Imm) (by kernel_rfl)) eqF_nil)))))
  rw [h]
  congr 1
  obtain ⟨x0, x1, x2, x3, x4⟩ := x
  obtain ⟨y0, y1, y2, y3, y4⟩ := y
  simp only [api_Instr.mk.injEq]
  rw [Bool.eq_iff_iff]
  simp [ba_beq]
theorem x_eql_api_Instr {w : World} {l : List Value} {o : Oper} {ty : TypeId} {a b : Operand} {x y : api_Instr} (hx : evL l a = .agg (enc_api_Instr x).toArray) (hy : evL l b = .agg (enc_api_Instr y).toArray) (ho : o.op = .binOp .eql 23 a b ty) :
    (execOp (evL l) o).run Tryz.prog w = .ok (.value (.bool (decide (x = y)))) w := x_eqlS hx hy (by kernel_rfl) (eq_api_Instr (d := 9998) x y) ho
theorem eq_weirref05_Fault {w : World} {d : Nat} (x y : weirref05_Fault) : (Op.equalIn (d + 2) 29 (.agg (enc_weirref05_Fault x).toArray) (.agg (enc_weirref05_Fault y).toArray)).run Tryz.prog w = .ok (decide (x = y)) w := by
  have h : (Op.equalIn (d + 2) 29 (.agg (enc_weirref05_Fault x).toArray) (.agg (enc_weirref05_Fault y).toArray)).run Tryz.prog w = .ok (x.Line == y.Line && (x.Col == y.Col && (x.Code == y.Code && true))) w :=
    eqS (fs := [fld Tryz.prog 29 0, fld Tryz.prog 29 1, fld Tryz.prog 29 2]) (by kernel_rfl) (by kernel_rfl) (by kernel_rfl) (eqF_cons' (a := .int .i64 x.Line) (b := .int .i64 y.Line) (by kernel_rfl) (pureSem_run (by kernel_rfl)) (pureSem_run (by kernel_rfl)) (eqI (k' := .i64) (x := x.Line) (y := y.Line) (by kernel_rfl)) (eqF_cons' (a := .int .i64 x.Col) (b := .int .i64 y.Col) (by kernel_rfl) (pureSem_run (by kernel_rfl)) (pureSem_run (by kernel_rfl)) (eqI (k' := .i64) (x := x.Col) (y := y.Col) (by kernel_rfl)) (eqF_cons' (a := .int .i64 x.Code) (b := .int .i64 y.Code) (by kernel_rfl) (pureSem_run (by kernel_rfl)) (pureSem_run (by kernel_rfl)) (eqI (k' := .i64) (x := x.Code) (y := y.Code) (by kernel_rfl)) eqF_nil)))
  rw [h]
  congr 1
  obtain ⟨x0, x1, x2⟩ := x
  obtain ⟨y0, y1, y2⟩ := y
  simp only [weirref05_Fault.mk.injEq]
  rw [Bool.eq_iff_iff]
  simp [ba_beq]
theorem x_eql_weirref05_Fault {w : World} {l : List Value} {o : Oper} {ty : TypeId} {a b : Operand} {x y : weirref05_Fault} (hx : evL l a = .agg (enc_weirref05_Fault x).toArray) (hy : evL l b = .agg (enc_weirref05_Fault y).toArray) (ho : o.op = .binOp .eql 29 a b ty) :
    (execOp (evL l) o).run Tryz.prog w = .ok (.value (.bool (decide (x = y)))) w := x_eqlS hx hy (by kernel_rfl) (eq_weirref05_Fault (d := 9998) x y) ho
end Go.Proofs.YtkhcbamlhckilaaGreatDoor.K
