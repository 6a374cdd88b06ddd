import Derived.Test.YtdcdpigneonedaaGreatDoorS
import Derived.Test.YtdcdpigneonedaaGreatDoorProg
set_option linter.unusedVariables false
set_option linter.unusedSimpArgs false
set_option maxRecDepth 100000
namespace Go.Proofs.YtdcdpigneonedaaGreatDoor.K
open Go Go.RowKit
theorem eq_api_Token {w : World} {d : Nat} (x y : api_Token) : (Op.equalIn (d + 2) 24 (.agg (enc_api_Token x).toArray) (.agg (enc_api_Token y).toArray)).run Tryz.prog w = .ok (decide (x = y)) w := by
  have h : (Op.equalIn (d + 2) 24 (.agg (enc_api_Token x).toArray) (.agg (enc_api_Token y).toArray)).run Tryz.prog w = .ok (x.Kind == y.Kind && (x.Text == y.Text && (x.Value == y.Value && (x.Line == y.Line && (x.Col == y.Col && (x.At == y.At && (x.End == y.End && true))))))) w :=
    eqS (fs := [fld Tryz.prog 24 0, fld Tryz.prog 24 1, fld Tryz.prog 24 2, fld Tryz.prog 24 3, fld Tryz.prog 24 4, fld Tryz.prog 24 5, fld Tryz.prog 24 6]) (by kernel_rfl) (by kernel_rfl) (by kernel_rfl) (eqF_cons' (a := .int .i64 x.Kind) (b := .int .i64 y.Kind) (by kernel_rfl) (pureSem_run (by kernel_rfl)) (pureSem_run (by kernel_rfl)) (eqI (k' := .i64) (x := x.Kind) (y := y.Kind) (by kernel_rfl)) (eqF_cons' (a := .string x.Text) (b := .string y.Text) (by kernel_rfl) (pureSem_run (by kernel_rfl)) (pureSem_run (by kernel_rfl)) (eqStr (x := x.Text) (y := y.Text) (by kernel_rfl)) (eqF_cons' (a := .int .i64 x.Value) (b := .int .i64 y.Value) (by kernel_rfl) (pureSem_run (by kernel_rfl)) (pureSem_run (by kernel_rfl)) (eqI (k' := .i64) (x := x.Value) (y := y.Value) (by kernel_rfl)) (eqF_cons' (a := .int .i64 x.Line) (b := .int .i64 y.Line) (by kernel_rfl) (pureSem_run (by kernel_rfl)) (pureSem_run (by kernel_rfl)) (eqI (k' := .i64) (x := x.Line) (y := y.Line) (by kernel_rfl)) (eqF_cons' (a := .int .i64 x.Col) (b := .int .i64 y.Col) (by kernel_rfl) (pureSem_run (by kernel_rfl)) (pureSem_run (by kernel_rfl)) (eqI (k' := .i64) (x := x.Col) (y := y.Col) (by kernel_rfl)) (eqF_cons' (a := .int .i64 x.At) (b := .int .i64 y.At) (by kernel_rfl) (pureSem_run (by kernel_rfl)) (pureSem_run (by kernel_rfl)) (eqI (k' := .i64) (x := x.At) (y := y.At) (by kernel_rfl)) (eqF_cons' (a := .int .i64 x.End) (b := .int .i64 y.End) (by kernel_rfl) (pureSem_run (by kernel_rfl)) (pureSem_run (by kernel_rfl)) (eqI (k' := .i64) (x := x.End) (y := y.End) (by kernel_rfl)) eqF_nil)))))))
  rw [h]
  congr 1
  obtain ⟨x0, x1, x2, x3, x4, x5, x6⟩ := x
  obtain ⟨y0, y1, y2, y3, y4, y5, y6⟩ := y
  simp only [api_Token.mk.injEq]
  rw [Bool.eq_iff_iff]
  simp [ba_beq]
theorem x_eql_api_Token {w : World} {l : List Value} {o : Oper} {ty : TypeId} {a b : Operand} {x y : api_Token} (hx : evL l a = .agg (enc_api_Token x).toArray) (hy : evL l b = .agg (enc_api_Token y).toArray) (ho : o.op = .binOp .eql 24 a b ty) :
    (execOp (evL l) o).run Tryz.prog w = .ok (.value (.bool (decide (x = y)))) w := x_eqlS hx hy (by kernel_rfl) (eq_api_Token (d := 9998) x y) ho
theorem x_neq_api_Token {w : World} {l : List Value} {o : Oper} {ty : TypeId} {a b : Operand} {x y : api_Token} (hx : evL l a = .agg (enc_api_Token x).toArray) (hy : evL l b = .agg (enc_api_Token y).toArray) (ho : o.op = .binOp .neq 24 a b ty) :
    (execOp (evL l) o).run Tryz.prog w = .ok (.value (.bool (!(decide (x = y))))) w := x_neqS hx hy (by kernel_rfl) (eq_api_Token (d := 9998) x y) ho
theorem eq_weirref05_Fault {w : World} {d : Nat} (x y : weirref05_Fault) : (Op.equalIn (d + 2) 32 (.agg (enc_weirref05_Fault x).toArray) (.agg (enc_weirref05_Fault y).toArray)).run Tryz.prog w = .ok (decide (x = y)) w := by
  have h : (Op.equalIn (d + 2) 32 (.agg (enc_weirref05_Fault x).toArray) (.agg (enc_weirref05_Fault y).toArray)).run Tryz.prog w = .ok (x.Line == y.Line && (x.Col == y.Col && (x.Code == y.Code && true))) w :=
    eqS (fs := [fld Tryz.prog 32 0, fld Tryz.prog 32 1, fld Tryz.prog 32 2]) (by kernel_rfl) (by kernel_rfl) (by kernel_rfl) (eqF_cons' (a := .int .i64 x.Line) (b := .int .i64 y.Line) (by kernel_rfl) (pureSem_run (by kernel_rfl)) (pureSem_run (by kernel_rfl)) (eqI (k' := .i64) (x := x.Line) (y := y.Line) (by kernel_rfl)) (eqF_cons' (a := .int .i64 x.Col) (b := .int .i64 y.Col) (by kernel_rfl) (pureSem_run (by kernel_rfl)) (pureSem_run (by kernel_rfl)) (eqI (k' := .i64) (x := x.Col) (y := y.Col) (by kernel_rfl)) (eqF_cons' (a := .int .i64 x.Code) (b := .int .i64 y.Code) (by kernel_rfl) (pureSem_run (by kernel_rfl)) (pureSem_run (by kernel_rfl)) (eqI (k' := .i64) (x := x.Code) (y := y.Code) (by kernel_rfl)) eqF_nil)))
  rw [h]
  congr 1
  obtain ⟨x0, x1, x2⟩ := x
  obtain ⟨y0, y1, y2⟩ := y
  simp only [weirref05_Fault.mk.injEq]
  rw [Bool.eq_iff_iff]
  simp [ba_beq]
theorem x_eql_weirref05_Fault {w : World} {l : List Value} {o : Oper} {ty : TypeId} {a b : Operand} {x y : weirref05_Fault} (hx : evL l a = .agg (enc_weirref05_Fault x).toArray) (hy : evL l b = .agg (enc_weirref05_Fault y).toArray) (ho : o.op = .binOp .eql 32 a b ty) :
    (execOp (evL l) o).run Tryz.prog w = .ok (.value (.bool (decide (x = y)))) w := x_eqlS hx hy (by kernel_rfl) (eq_weirref05_Fault (d := 9998) x y) ho
theorem x_neq_weirref05_Fault {w : World} {l : List Value} {o : Oper} {ty : TypeId} {a b : Operand} {x y : weirref05_Fault} (hx : evL l a = .agg (enc_weirref05_Fault x).toArray) (hy : evL l b = .agg (enc_weirref05_Fault y).toArray) (ho : o.op = .binOp .neq 32 a b ty) :
    (execOp (evL l) o).run Tryz.prog w = .ok (.value (.bool (!(decide (x = y))))) w := x_neqS hx hy (by kernel_rfl) (eq_weirref05_Fault (d := 9998) x y) ho
theorem eq_api_Ref {w : World} {d : Nat} (x y : api_Ref) : (Op.equalIn (d + 2) 51 (.agg (enc_api_Ref x).toArray) (.agg (enc_api_Ref y).toArray)).run Tryz.prog w = .ok (decide (x = y)) w := by
  have h : (Op.equalIn (d + 2) 51 (.agg (enc_api_Ref x).toArray) (.agg (enc_api_Ref y).toArray)).run Tryz.prog w = .ok (x.Thread == y.Thread && (x.Name == y.Name && true)) w :=
    eqS (fs := [fld Tryz.prog 51 0, fld Tryz.prog 51 1]) (by kernel_rfl) (by kernel_rfl) (by kernel_rfl) (eqF_cons' (a := .int .i64 x.Thread) (b := .int .i64 y.Thread) (by kernel_rfl) (pureSem_run (by kernel_rfl)) (pureSem_run (by kernel_rfl)) (eqI (k' := .i64) (x := x.Thread) (y := y.Thread) (by kernel_rfl)) (eqF_cons' (a := .string x.Name) (b := .string y.Name) (by kernel_rfl) (pureSem_run (by kernel_rfl)) (pureSem_run (by kernel_rfl)) (eqStr (x := x.Name) (y := y.Name) (by kernel_rfl)) eqF_nil))
  rw [h]
  congr 1
  obtain ⟨x0, x1⟩ := x
  obtain ⟨y0, y1⟩ := y
  simp only [api_Ref.mk.injEq]
  rw [Bool.eq_iff_iff]
  simp [ba_beq]
theorem x_eql_api_Ref {w : World} {l : List Value} {o : Oper} {ty : TypeId} {a b : Operand} {x y : api_Ref} (hx : evL l a = .agg (enc_api_Ref x).toArray) (hy : evL l b = .agg (enc_api_Ref y).toArray) (ho : o.op = .binOp .eql 51 a b ty) :
    (execOp (evL l) o).run Tryz.prog w = .ok (.value (.bool (decide (x = y)))) w := x_eqlS hx hy (by kernel_rfl) (eq_api_Ref (d := 9998) x y) ho
theorem x_neq_api_Ref {w : World} {l : List Value} {o : Oper} {ty : TypeId} {a b : Operand} {x y : api_Ref} (hx : evL l a = .agg (enc_api_Ref x).toArray) (hy : evL l b = .agg (enc_api_Ref y).toArray) (ho : o.op = .binOp .neq 51 a b ty) :
    (execOp (evL l) o).run Tryz.prog w = .ok (.value (.bool (!(decide (x = y))))) w := x_neqS hx hy (by kernel_rfl) (eq_api_Ref (d := 9998) x y) ho
theorem eq_api_Node {w : World} {d : Nat} (x y : api_Node) : (Op.equalIn (d + 3) 53 (.agg (enc_api_Node x).toArray) (.agg (enc_api_Node y).toArray)).run Tryz.prog w = .ok (decide (x = y)) w := by
  have h : (Op.equalIn (d + 3) 53 (.agg (enc_api_Node x).toArray) (.agg (enc_api_Node y).toArray)).run Tryz.prog w = .ok (x.Op == y.Op && (x.A == y.A && (x.B == y.B && (decide (x.Ref = y.Ref) && (x.Value == y.Value && true))))) w :=
    eqS (fs := [fld Tryz.prog 53 0, fld Tryz.prog 53 1, fld Tryz.prog 53 2, fld Tryz.prog 53 3, fld Tryz.prog 53 4]) (by kernel_rfl) (by kernel_rfl) (by kernel_rfl) (eqF_cons' (a := .int .i64 x.Op) (b := .int .i64 y.Op) (by kernel_rfl) (pureSem_run (by kernel_rfl)) (pureSem_run (by kernel_rfl)) (eqI (k' := .i64) (x := x.Op) (y := y.Op) (by kernel_rfl)) (eqF_cons' (a := .int .i64 x.A) (b := .int .i64 y.A) (by kernel_rfl) (pureSem_run (by kernel_rfl)) (pureSem_run (by kernel_rfl)) (eqI (k' := .i64) (x := x.A) (y := y.A) (by kernel_rfl)) (eqF_cons' (a := .int .i64 x.B) (b := .int .i64 y.B) (by kernel_rfl) (pureSem_run (by kernel_rfl)) (pureSem_run (by kernel_rfl)) (eqI (k' := .i64) (x := x.B) (y := y.B) (by kernel_rfl)) (eqF_cons' (a := .agg (enc_api_Ref x.Ref).toArray) (b := .agg (enc_api_Ref y.Ref).toArray) (by kernel_rfl) (pureSem_run (by kernel_rfl)) (pureSem_run (by kernel_rfl)) (eq_api_Ref x.Ref y.Ref) (eqF_cons' (a := .int .i64 x.Value) (b := .int .i64 y.Value) (by kernel_rfl) (pureSem_run (by kernel_rfl)) (pureSem_run (by kernel_rfl)) (eqI (k' := .i64) (x := x.Value) (y := y.Value) (by kernel_rfl)) eqF_nil)))))
  rw [h]
  congr 1
  obtain ⟨x0, x1, x2, x3, x4⟩ := x
  obtain ⟨y0, y1, y2, y3, y4⟩ := y
  simp only [api_Node.mk.injEq]
  rw [Bool.eq_iff_iff]
  simp [ba_beq]
theorem x_eql_api_Node {w : World} {l : List Value} {o : Oper} {ty : TypeId} {a b : Operand} {x y : api_Node} (hx : evL l a = .agg (enc_api_Node x).toArray) (hy : evL l b = .agg (enc_api_Node y).toArray) (ho : o.op = .binOp .eql 53 a b ty) :
    (execOp (evL l) o).run Tryz.prog w = .ok (.value (.bool (decide (x = y)))) w := x_eqlS hx hy (by kernel_rfl) (eq_api_Node (d := 9997) x y) ho
theorem x_neq_api_Node {w : World} {l : List Value} {o : Oper} {ty : TypeId} {a b : Operand} {x y : api_Node} (hx : evL l a = .agg (enc_api_Node x).toArray) (hy : evL l b = .agg (enc_api_Node y).toArray) (ho : o.op = .binOp .neq 53 a b ty) :
    (execOp (evL l) o).run Tryz.prog w = .ok (.value (.bool (!(decide (x = y))))) w := x_neqS hx hy (by kernel_rfl) (eq_api_Node (d := 9997) x y) ho
end Go.Proofs.YtdcdpigneonedaaGreatDoor.K
