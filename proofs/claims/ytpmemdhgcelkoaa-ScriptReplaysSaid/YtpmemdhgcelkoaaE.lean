import Derived.Test.YtpmemdhgcelkoaaS
import Derived.Test.YtpmemdhgcelkoaaProg
set_option linter.unusedVariables false
set_option linter.unusedSimpArgs false
set_option maxRecDepth 100000
namespace Go.Proofs.Ytpmemdhgcelkoaa.K
open Go Go.RowKit
theorem eq_api_Pick {w : World} {d : Nat} (x y : api_Pick) : (Op.equalIn (d + 2) 39 (.agg (enc_api_Pick x).toArray) (.agg (enc_api_Pick y).toArray)).run Try.prog w = .ok (decide (x = y)) w := by
  have h : (Op.equalIn (d + 2) 39 (.agg (enc_api_Pick x).toArray) (.agg (enc_api_Pick y).toArray)).run Try.prog w = .ok (x.Thread == y.Thread && (x.Kind == y.Kind && (x.Loc == y.Loc && true))) w :=
    eqS (fs := [fld Try.prog 39 0, fld Try.prog 39 1, fld Try.prog 39 2]) (by kernel_rfl) (by kernel_rfl) (by kernel_rfl) (eqF_cons' (a := .int .i64 x.Thread) (b := .int .i64 y.Thread) (by kernel_rfl) (pureSem_run (by kernel_rfl)) (pureSem_run (by kernel_rfl)) (eqI (k' := .i64) (x := x.Thread) (y := y.Thread) (by kernel_rfl)) (eqF_cons' (a := .int .i64 x.Kind) (b := .int .i64 y.Kind) (by kernel_rfl) (pureSem_run (by kernel_rfl)) (pureSem_run (by kernel_rfl)) (eqI (k' := .i64) (x := x.Kind) (y := y.Kind) (by kernel_rfl)) (eqF_cons' (a := .int .i64 x.Loc) (b := .int .i64 y.Loc) (by kernel_rfl) (pureSem_run (by kernel_rfl)) (pureSem_run (by kernel_rfl)) (eqI (k' := .i64) (x := x.Loc) (y := y.Loc) (by kernel_rfl)) eqF_nil)))
  rw [h]
  congr 1
  obtain ⟨x0, x1, x2⟩ := x
  obtain ⟨y0, y1, y2⟩ := y
  simp only [api_Pick.mk.injEq]
  rw [Bool.eq_iff_iff]
  simp [ba_beq]
theorem x_eql_api_Pick {w : World} {l : List Value} {o : Oper} {ty : TypeId} {a b : Operand} {x y : api_Pick} (hx : evL l a = .agg (enc_api_Pick x).toArray) (hy : evL l b = .agg (enc_api_Pick y).toArray) (ho : o.op = .binOp .eql 39 a b ty) :
    (execOp (evL l) o).run Try.prog w = .ok (.value (.bool (decide (x = y)))) w := x_eqlS hx hy (by kernel_rfl) (eq_api_Pick (d := 9998) x y) ho
theorem x_neq_api_Pick {w : World} {l : List Value} {o : Oper} {ty : TypeId} {a b : Operand} {x y : api_Pick} (hx : evL l a = .agg (enc_api_Pick x).toArray) (hy : evL l b = .agg (enc_api_Pick y).toArray) (ho : o.op = .binOp .neq 39 a b ty) :
    (execOp (evL l) o).run Try.prog w = .ok (.value (.bool (!(decide (x = y))))) w := x_neqS hx hy (by kernel_rfl) (eq_api_Pick (d := 9998) x y) ho
theorem eq_api_Final {w : World} {d : Nat} (x y : api_Final) : (Op.equalIn (d + 3) 46 (.agg (enc_api_Final x).toArray) (.agg (enc_api_Final y).toArray)).run Try.prog w = .ok (decide (x = y)) w := by
  have h : (Op.equalIn (d + 3) 46 (.agg (enc_api_Final x).toArray) (.agg (enc_api_Final y).toArray)).run Try.prog w = .ok (x.N == y.N && (decide (x.V = y.V) && true)) w :=
    eqS (fs := [fld Try.prog 46 0, fld Try.prog 46 1]) (by kernel_rfl) (by kernel_rfl) (by kernel_rfl) (eqF_cons' (a := .int .i64 x.N) (b := .int .i64 y.N) (by kernel_rfl) (pureSem_run (by kernel_rfl)) (pureSem_run (by kernel_rfl)) (eqI (k' := .i64) (x := x.N) (y := y.N) (by kernel_rfl)) (eqF_cons' (a := .agg (encV (encI .i64) x.V).toArray) (b := .agg (encV (encI .i64) y.V).toArray) (by kernel_rfl) (part_arr (n := 48) (pre := [.int .i64 x.N]) (mid := (encV (encI .i64)) x.V) (post := []) (by kernel_rfl) (by kernel_rfl) (by simp [enc_api_Final]) (Eq.trans (b := 1) (by simp [encI, encB, encS]) (by kernel_rfl)) ((len_encV (len_encI .i64)) _)) (part_arr (n := 48) (pre := [.int .i64 y.N]) (mid := (encV (encI .i64)) y.V) (post := []) (by kernel_rfl) (by kernel_rfl) (by simp [enc_api_Final]) (Eq.trans (b := 1) (by simp [encI, encB, encS]) (by kernel_rfl)) ((len_encV (len_encI .i64)) _)) (eqArr (e := 2) (k' := .i64) (by kernel_rfl) (by kernel_rfl) (by kernel_rfl) (by kernel_rfl) x.V y.V) eqF_nil))
  rw [h]
  congr 1
  obtain ⟨x0, x1⟩ := x
  obtain ⟨y0, y1⟩ := y
  simp only [api_Final.mk.injEq]
  rw [Bool.eq_iff_iff]
  simp [ba_beq]
theorem x_eql_api_Final {w : World} {l : List Value} {o : Oper} {ty : TypeId} {a b : Operand} {x y : api_Final} (hx : evL l a = .agg (enc_api_Final x).toArray) (hy : evL l b = .agg (enc_api_Final y).toArray) (ho : o.op = .binOp .eql 46 a b ty) :
    (execOp (evL l) o).run Try.prog w = .ok (.value (.bool (decide (x = y)))) w := x_eqlS hx hy (by kernel_rfl) (eq_api_Final (d := 9997) x y) ho
theorem x_neq_api_Final {w : World} {l : List Value} {o : Oper} {ty : TypeId} {a b : Operand} {x y : api_Final} (hx : evL l a = .agg (enc_api_Final x).toArray) (hy : evL l b = .agg (enc_api_Final y).toArray) (ho : o.op = .binOp .neq 46 a b ty) :
    (execOp (evL l) o).run Try.prog w = .ok (.value (.bool (!(decide (x = y))))) w := x_neqS hx hy (by kernel_rfl) (eq_api_Final (d := 9997) x y) ho
end Go.Proofs.Ytpmemdhgcelkoaa.K
