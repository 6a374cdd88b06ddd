import Derived.Test.YtboejepakdnbgaaGreatDoorS
import Derived.Test.YtboejepakdnbgaaGreatDoorProg
set_option linter.unusedVariables false
set_option linter.unusedSimpArgs false
set_option maxRecDepth 100000
namespace Go.Proofs.YtboejepakdnbgaaGreatDoor.K
open Go Go.RowKit
theorem eq_weirref05_Fault {w : World} {d : Nat} (x y : weirref05_Fault) : (Op.equalIn (d + 2) 29 (.agg (enc_weirref05_Fault x).toArray) (.agg (enc_weirref05_Fault y).toArray)).run Tryz.prog w = .ok (decide (x = y)) w := by
  have h : (Op.equalIn (d + 2) 29 (.agg (enc_weirref05_Fault x).toArray) (.agg (enc_weirref05_Fault y).toArray)).run Tryz.prog w = .ok (x.Line == y.Line && (x.Col == y.Col && (x.Code == y.Code && true))) w :=
    eqS (fs := [fld Tryz.prog 29 0, fld Tryz.prog 29 1, fld Tryz.prog 29 2]) (by kernel_rfl) (by kernel_rfl) (by kernel_rfl) (eqF_cons' (a := .int .i64 x.Line) (b := .int .i64 y.Line) (by kernel_rfl) (pureSem_run (by kernel_rfl)) (pureSem_run (by kernel_rfl)) (eqI (k' := .i64) (x := x.Line) (y := y.Line) (by kernel_rfl)) (eqF_cons' (a := .int .i64 x.Col) (b := .int .i64 y.Col) (by kernel_rfl) (pureSem_run (by kernel_rfl)) (pureSem_run (by kernel_rfl)) (eqI (k' := .i64) (x := x.Col) (y := y.Col) (by kernel_rfl)) (eqF_cons' (a := .int .i64 x.Code) (b := .int .i64 y.Code) (by kernel_rfl) (pureSem_run (by kernel_rfl)) (pureSem_run (by kernel_rfl)) (eqI (k' := .i64) (x := x.Code) (y := y.Code) (by kernel_rfl)) eqF_nil)))
  rw [h]
  congr 1
  obtain ⟨x0, x1, x2⟩ := x
  obtain ⟨y0, y1, y2⟩ := y
  simp only [weirref05_Fault.mk.injEq]
  rw [Bool.eq_iff_iff]
  simp [ba_beq]
theorem x_neq_weirref05_Fault {w : World} {l : List Value} {o : Oper} {ty : TypeId} {a b : Operand} {x y : weirref05_Fault} (hx : evL l a = .agg (enc_weirref05_Fault x).toArray) (hy : evL l b = .agg (enc_weirref05_Fault y).toArray) (ho : o.op = .binOp .neq 29 a b ty) :
    (execOp (evL l) o).run Tryz.prog w = .ok (.value (.bool (!(decide (x = y))))) w := x_neqS hx hy (by kernel_rfl) (eq_weirref05_Fault (d := 9998) x y) ho
theorem eq_api_Ref {w : World} {d : Nat} (x y : api_Ref) : (Op.equalIn (d + 2) 66 (.agg (enc_api_Ref x).toArray) (.agg (enc_api_Ref y).toArray)).run Tryz.prog w = .ok (decide (x = y)) w := by
  have h : (Op.equalIn (d + 2) 66 (.agg (enc_api_Ref x).toArray) (.agg (enc_api_Ref y).toArray)).run Tryz.prog w = .ok (x.Thread == y.Thread && (x.Name == y.Name && true)) w :=
    eqS (fs := [fld Tryz.prog 66 0, fld Tryz.prog 66 1]) (by kernel_rfl) (by kernel_rfl) (by kernel_rfl) (eqF_cons' (a := .int .i64 x.Thread) (b := .int .i64 y.Thread) (by kernel_rfl) (pureSem_run (by kernel_rfl)) (pureSem_run (by kernel_rfl)) (eqI (k' := .i64) (x := x.Thread) (y := y.Thread) (by kernel_rfl)) (eqF_cons' (a := .string x.Name) (b := .string y.Name) (by kernel_rfl) (pureSem_run (by kernel_rfl)) (pureSem_run (by kernel_rfl)) (eqStr (x := x.Name) (y := y.Name) (by kernel_rfl)) eqF_nil))
  rw [h]
  congr 1
  obtain ⟨x0, x1⟩ := x
  obtain ⟨y0, y1⟩ := y
  simp only [api_Ref.mk.injEq]
  rw [Bool.eq_iff_iff]
  simp [ba_beq]
theorem eq_api_Node {w : World} {d : Nat} (x y : api_Node) : (Op.equalIn (d + 3) 68 (.agg (enc_api_Node x).toArray) (.agg (enc_api_Node y).toArray)).run Tryz.prog w = .ok (decide (x = y)) w := by
  have h : (Op.equalIn (d + 3) 68 (.agg (enc_api_Node x).toArray) (.agg (enc_api_Node y).toArray)).run Tryz.prog w = .ok (x.Op == y.Op && (x.A == y.A && (x.B == y.B && (decide (x.Ref = y.Ref) && (x.Value == y.Value && true))))) w :=
    eqS (fs := [fld Tryz.prog 68 0, fld Tryz.prog 68 1, fld Tryz.prog 68 2, fld Tryz.prog 68 3, fld Tryz.prog 68 4]) (by kernel_rfl) (by kernel_rfl) (by kernel_rfl) (eqF_cons' (a := .int .i64 x.Op) (b := .int .i64 y.Op) (by kernel_rfl) (pureSem_run (by kernel_rfl)) (pureSem_run (by kernel_rfl)) (eqI (k' := .i64) (x := x.Op) (y := y.Op) (by kernel_rfl)) (eqF_cons' (a := .int .i64 x.A) (b := .int .i64 y.A) (by kernel_rfl) (pureSem_run (by kernel_rfl)) (pureSem_run (by kernel_rfl)) (eqI (k' := .i64) (x := x.A) (y := y.A) (by kernel_rfl)) (eqF_cons' (a := .int .i64 x.B) (b := .int .i64 y.B) (by kernel_rfl) (pureSem_run (by kernel_rfl)) (pureSem_run (by kernel_rfl)) (eqI (k' := .i64) (x := x.B) (y := y.B) (by kernel_rfl)) (eqF_cons' (a := .agg (enc_api_Ref x.Ref).toArray) (b := .agg (enc_api_Ref y.Ref).toArray) (by kernel_rfl) (pureSem_run (by kernel_rfl)) (pureSem_run (by kernel_rfl)) (eq_api_Ref x.Ref y.Ref) (eqF_cons' (a := .int .i64 x.Value) (b := .int .i64 y.Value) (by kernel_rfl) (pureSem_run (by kernel_rfl)) (pureSem_run (by kernel_rfl)) (eqI (k' := .i64) (x := x.Value) (y := y.Value) (by kernel_rfl)) eqF_nil)))))
  rw [h]
  congr 1
  obtain ⟨x0, x1, x2, x3, x4⟩ := x
  obtain ⟨y0, y1, y2, y3, y4⟩ := y
  simp only [api_Node.mk.injEq]
  rw [Bool.eq_iff_iff]
  simp [ba_beq]
theorem x_neq_api_Node {w : World} {l : List Value} {o : Oper} {ty : TypeId} {a b : Operand} {x y : api_Node} (hx : evL l a = .agg (enc_api_Node x).toArray) (hy : evL l b = .agg (enc_api_Node y).toArray) (ho : o.op = .binOp .neq 68 a b ty) :
    (execOp (evL l) o).run Tryz.prog w = .ok (.value (.bool (!(decide (x = y))))) w := x_neqS hx hy (by kernel_rfl) (eq_api_Node (d := 9997) x y) ho
end Go.Proofs.YtboejepakdnbgaaGreatDoor.K
