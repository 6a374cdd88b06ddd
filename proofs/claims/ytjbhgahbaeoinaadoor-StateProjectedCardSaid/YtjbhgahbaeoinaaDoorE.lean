import Derived.Test.YtjbhgahbaeoinaaDoorS
import Derived.Test.YtjbhgahbaeoinaaDoorProg
set_option linter.unusedVariables false
set_option linter.unusedSimpArgs false
set_option maxRecDepth 100000
namespace Go.Proofs.YtjbhgahbaeoinaaDoor.K
open Go Go.RowKit
theorem eq_api_Final {w : World} {d : Nat} (x y : api_Final) : (Op.equalIn (d + 3) 24 (.agg (enc_api_Final x).toArray) (.agg (enc_api_Final y).toArray)).run Tryd.prog w = .ok (decide (x = y)) w := by
  have h : (Op.equalIn (d + 3) 24 (.agg (enc_api_Final x).toArray) (.agg (enc_api_Final y).toArray)).run Tryd.prog w = .ok (x.N == y.N && (decide (x.V = y.V) && true)) w :=
    eqS (fs := [fld Tryd.prog 24 0, fld Tryd.prog 24 1]) (by kernel_rfl) (by kernel_rfl) (by kernel_rfl) (eqF_cons' (a := .int .i64 x.N) (b := .int .i64 y.N) (by kernel_rfl) (pureSem_run (by kernel_rfl)) (pureSem_run (by kernel_rfl)) (eqI (k' := .i64) (x := x.N) (y := y.N) (by kernel_rfl)) (eqF_cons' (a := .agg (encV (encI .i64) x.V).toArray) (b := .agg (encV (encI .i64) y.V).toArray) (by kernel_rfl) (part_arr (n := 48) (pre := [.int .i64 x.N]) (mid := (encV (encI .i64)) x.V) (post := []) (by kernel_rfl) (by kernel_rfl) (by simp [enc_api_Final]) (Eq.trans (b := 1) (by simp [encI, encB, encS]) (by kernel_rfl)) ((len_encV (len_encI .i64)) _)) (part_arr (n := 48) (pre := [.int .i64 y.N]) (mid := (encV (encI .i64)) y.V) (post := []) (by kernel_rfl) (by kernel_rfl) (by simp [enc_api_Final]) (Eq.trans (b := 1) (by simp [encI, encB, encS]) (by kernel_rfl)) ((len_encV (len_encI .i64)) _)) (eqArr (e := 2) (k' := .i64) (by kernel_rfl) (by kernel_rfl) (by kernel_rfl) (by kernel_rfl) x.V y.V) eqF_nil))
  rw [h]
  congr 1
  obtain ⟨x0, x1⟩ := x
  obtain ⟨y0, y1⟩ := y
  simp only [api_Final.mk.injEq]
  rw [Bool.eq_iff_iff]
  simp [ba_beq]
theorem x_eql_api_Final {w : World} {l : List Value} {o : Oper} {ty : TypeId} {a b : Operand} {x y : api_Final} (hx : evL l a = .agg (enc_api_Final x).toArray) (hy : evL l b = .agg (enc_api_Final y).toArray) (ho : o.op = .binOp .eql 24 a b ty) :
    (execOp (evL l) o).run Tryd.prog w = .ok (.value (.bool (decide (x = y)))) w := x_eqlS hx hy (by kernel_rfl) (eq_api_Final (d := 9997) x y) ho
theorem x_neq_api_Final {w : World} {l : List Value} {o : Oper} {ty : TypeId} {a b : Operand} {x y : api_Final} (hx : evL l a = .agg (enc_api_Final x).toArray) (hy : evL l b = .agg (enc_api_Final y).toArray) (ho : o.op = .binOp .neq 24 a b ty) :
    (execOp (evL l) o).run Tryd.prog w = .ok (.value (.bool (!(decide (x = y))))) w := x_neqS hx hy (by kernel_rfl) (eq_api_Final (d := 9997) x y) ho
theorem eq_api_Ref {w : World} {d : Nat} (x y : api_Ref) : (Op.equalIn (d + 2) 51 (.agg (enc_api_Ref x).toArray) (.agg (enc_api_Ref y).toArray)).run Tryd.prog w = .ok (decide (x = y)) w := by
  have h : (Op.equalIn (d + 2) 51 (.agg (enc_api_Ref x).toArray) (.agg (enc_api_Ref y).toArray)).run Tryd.prog w = .ok (x.Thread == y.Thread && (x.Name == y.Name && true)) w :=
    eqS (fs := [fld Tryd.prog 51 0, fld Tryd.prog 51 1]) (by kernel_rfl) (by kernel_rfl) (by kernel_rfl) (eqF_cons' (a := .int .i64 x.Thread) (b := .int .i64 y.Thread) (by kernel_rfl) (pureSem_run (by kernel_rfl)) (pureSem_run (by kernel_rfl)) (eqI (k' := .i64) (x := x.Thread) (y := y.Thread) (by kernel_rfl)) (eqF_cons' (a := .string x.Name) (b := .string y.Name) (by kernel_rfl) (pureSem_run (by kernel_rfl)) (pureSem_run (by kernel_rfl)) (eqStr (x := x.Name) (y := y.Name) (by kernel_rfl)) eqF_nil))
  rw [h]
  congr 1
  obtain ⟨x0, x1⟩ := x
  obtain ⟨y0, y1⟩ := y
  simp only [api_Ref.mk.injEq]
  rw [Bool.eq_iff_iff]
  simp [ba_beq]
theorem x_eql_api_Ref {w : World} {l : List Value} {o : Oper} {ty : TypeId} {a b : Operand} {x y : api_Ref} (hx : evL l a = .agg (enc_api_Ref x).toArray) (hy : evL l b = .agg (enc_api_Ref y).toArray) (ho : o.op = .binOp .eql 51 a b ty) :
    (execOp (evL l) o).run Tryd.prog w = .ok (.value (.bool (decide (x = y)))) w := x_eqlS hx hy (by kernel_rfl) (eq_api_Ref (d := 9998) x y) ho
theorem x_neq_api_Ref {w : World} {l : List Value} {o : Oper} {ty : TypeId} {a b : Operand} {x y : api_Ref} (hx : evL l a = .agg (enc_api_Ref x).toArray) (hy : evL l b = .agg (enc_api_Ref y).toArray) (ho : o.op = .binOp .neq 51 a b ty) :
    (execOp (evL l) o).run Tryd.prog w = .ok (.value (.bool (!(decide (x = y))))) w := x_neqS hx hy (by kernel_rfl) (eq_api_Ref (d := 9998) x y) ho
end Go.Proofs.YtjbhgahbaeoinaaDoor.K
