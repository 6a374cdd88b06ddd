import Derived.Test.YtcjaknnihjcajaaGreatS
import Derived.Test.YtcjaknnihjcajaaGreatProg
set_option linter.unusedVariables false
set_option linter.unusedSimpArgs false
set_option maxRecDepth 100000
namespace Go.Proofs.YtcjaknnihjcajaaGreat.K
open Go Go.RowKit
theorem eq_api_Ref {w : World} {d : Nat} (x y : api_Ref) : (Op.equalIn (d + 2) 40 (.agg (enc_api_Ref x).toArray) (.agg (enc_api_Ref y).toArray)).run Tryz.prog w = .ok (decide (x = y)) w := by
 have h : (Op.equalIn (d + 2) 40 (.agg (enc_api_Ref x).toArray) (.agg (enc_api_Ref y).toArray)).run Tryz.prog w = .ok (x.Thread == y.Thread && (x.Name == y.Name && true)) w :=
  eqS (fs := [fld Tryz.prog 40 0, fld Tryz.prog 40 1]) (by kernel_rfl) (by kernel_rfl) (by kernel_rfl) (eqF_cons' (a := .int .i64 x.Thread) (b := .int .i64 y.Thread) (by kernel_rfl) (pureSem_run (by kernel_rfl)) (pureSem_run (by kernel_rfl)) (eqI (k' := .i64) (x := x.Thread) (y := y.Thread) (by kernel_rfl)) (eqF_cons' (a := .string x.Name) (b := .string y.Name) (by kernel_rfl) (pureSem_run (by kernel_rfl)) (pureSem_run (by kernel_rfl)) (eqStr (x := x.Name) (y := y.Name) (by kernel_rfl)) eqF_nil))
 rw [h]
 congr 1
 obtain ⟨x0, x1⟩ := x
 obtain ⟨y0, y1⟩ := y
 simp only [api_Ref.mk.injEq]
 rw [Bool.eq_iff_iff]
 simp [ba_beq]
theorem x_eql_api_Ref {w : World} {l : List Value} {o : Oper} {ty : TypeId} {a b : Operand} {x y : api_Ref} (hx : evL l a = .agg (enc_api_Ref x).toArray) (hy : evL l b = .agg (enc_api_Ref y).toArray) (ho : o.op = .binOp .eql 40 a b ty) :
  (execOp (evL l) o).run Tryz.prog w = .ok (.value (.bool (decide (x = y)))) w := x_eqlS hx hy (by kernel_rfl) (eq_api_Ref (d := 9998) x y) ho
theorem x_neq_api_Ref {w : World} {l : List Value} {o : Oper} {ty : TypeId} {a b : Operand} {x y : api_Ref} (hx : evL l a = .agg (enc_api_Ref x).toArray) (hy : evL l b = .agg (enc_api_Ref y).toArray) (ho : o.op = .binOp .neq 40 a b ty) :
  (execOp (evL l) o).run Tryz.prog w = .ok (.value (.bool (!(decide (x = y))))) w := x_neqS hx hy (by kernel_rfl) (eq_api_Ref (d := 9998) x y) ho
theorem eq_api_Node {w : World} {d : Nat} (x y : api_Node) : (Op.equalIn (d + 3) 96 (.agg (enc_api_Node x).toArray) (.agg (enc_api_Node y).toArray)).run Tryz.prog w = .ok (decide (x = y)) w := by
 have h : (Op.equalIn (d + 3) 96 (.agg (enc_api_Node x).toArray) (.agg (enc_api_Node y).toArray)).run Tryz.prog w = .ok (x.Op == y.Op && (x.A == y.A && (x.B == y.B && (decide (x.Ref = y.Ref) && (x.Value == y.Value && true))))) w :=
  eqS (fs := [fld Tryz.prog 96 0, fld Tryz.prog 96 1, fld Tryz.prog 96 2, fld Tryz.prog 96 3, fld Tryz.prog 96 4]) (by kernel_rfl) (by kernel_rfl) (by kernel_rfl) (eqF_cons' (a := .int .i64 x.Op) (b := .int .i64 y.Op) (by kernel_rfl) (pureSem_run (by kernel_rfl)) (pureSem_run (by kernel_rfl)) (eqI (k' := .i64) (x := x.Op) (y := y.Op) (by kernel_rfl)) (eqF_cons' (a := .int .i64 x.A) (b := .int .i64 y.A) (by kernel_rfl) (pureSem_run (by kernel_rfl)) (pureSem_run (by kernel_rfl)) (eqI (k' := .i64) (x := x.A) (y := y.A) (by kernel_rfl)) (eqF_cons' (a := .int .i64 x.B) (b := .int .i64 y.B) (by kernel_rfl) (pureSem_run (by kernel_rfl)) (pureSem_run (by kernel_rfl)) (eqI (k' := .i64) (x := x.B) (y := y.B) (by kernel_rfl)) (eqF_cons' (a := .agg (enc_api_Ref x.Ref).toArray) (b := .agg (enc_api_Ref y.Ref).toArray) (by kernel_rfl) (pureSem_run (by kernel_rfl)) (pureSem_run (by kernel_rfl)) (eq_api_Ref x.Ref y.Ref) (eqF_cons' (a := .int .i64 x.Value) (b := .int .i64 y.Value) (by kernel_rfl) (pureSem_run (by kernel_rfl)) (pureSem_run (by kernel_rfl)) (eqI (k' := .i64) (x := x.Value) (y := y.Value) (by kernel_rfl)) eqF_nil)))))
 rw [h]
 congr 1
 obtain ⟨x0, x1, x2, x3, x4⟩ := x
 obtain ⟨y0, y1, y2, y3, y4⟩ := y
 simp only [api_Node.mk.injEq]
 rw [Bool.eq_iff_iff]
 simp [ba_beq]
theorem x_eql_api_Node {w : World} {l : List Value} {o : Oper} {ty : TypeId} {a b : Operand} {x y : api_Node} (hx : evL l a = .agg (enc_api_Node x).toArray) (hy : evL l b = .agg (enc_api_Node y).toArray) (ho : o.op = .binOp .eql 96 a b ty) :
  (execOp (evL l) o).run Tryz.prog w = .ok (.value (.bool (decide (x = y)))) w := x_eqlS hx hy (by kernel_rfl) (eq_api_Node (d := 9997) x y) ho
end Go.Proofs.YtcjaknnihjcajaaGreat.K
