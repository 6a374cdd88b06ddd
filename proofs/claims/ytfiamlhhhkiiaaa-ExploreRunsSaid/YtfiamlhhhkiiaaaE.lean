import Derived.Test.YtfiamlhhhkiiaaaS
import Derived.Test.YtfiamlhhhkiiaaaProg
set_option linter.unusedVariables false
set_option linter.unusedSimpArgs false
set_option maxRecDepth 100000
namespace Go.Proofs.Ytfiamlhhhkiiaaa.K
open Go Go.RowKit
theorem eq_api_Tally {w : World} {d : Nat} (x y : api_Tally) : (Op.equalIn (d + 2) 70 (.agg (enc_api_Tally x).toArray) (.agg (enc_api_Tally y).toArray)).run Try.prog w = .ok (decide (x = y)) w := by
  have h : (Op.equalIn (d + 2) 70 (.agg (enc_api_Tally x).toArray) (.agg (enc_api_Tally y).toArray)).run Try.prog w = .ok (x.States == y.States && (x.Moves == y.Moves && (x.Ends == y.Ends && (x.Stuck == y.Stuck && true)))) w :=
    eqS (fs := [fld Try.prog 70 0, fld Try.prog 70 1, fld Try.prog 70 2, fld Try.prog 70 3]) (by kernel_rfl) (by kernel_rfl) (by kernel_rfl) (eqF_cons' (a := .int .i64 x.States) (b := .int .i64 y.States) (by kernel_rfl) (pureSem_run (by kernel_rfl)) (pureSem_run (by kernel_rfl)) (eqI (k' := .i64) (x := x.States) (y := y.States) (by kernel_rfl)) (eqF_cons' (a := .int .i64 x.Moves) (b := .int .i64 y.Moves) (by kernel_rfl) (pureSem_run (by kernel_rfl)) (pureSem_run (by kernel_rfl)) (eqI (k' := .i64) (x := x.Moves) (y := y.Moves) (by kernel_rfl)) (eqF_cons' (a := .int .i64 x.Ends) (b := .int .i64 y.Ends) (by kernel_rfl) (pureSem_run (by kernel_rfl)) (pureSem_run (by kernel_rfl)) (eqI (k' := .i64) (x := x.Ends) (y := y.Ends) (by kernel_rfl)) (eqF_cons' (a := .int .i64 x.Stuck) (b := .int .i64 y.Stuck) (by kernel_rfl) (pureSem_run (by kernel_rfl)) (pureSem_run (by kernel_rfl)) (eqI (k' := .i64) (x := x.Stuck) (y := y.Stuck) (by kernel_rfl)) eqF_nil))))
  rw [h]
  congr 1
  obtain ⟨x0, x1, x2, x3⟩ := x
  obtain ⟨y0, y1, y2, y3⟩ := y
  simp only [api_Tally.mk.injEq]
  rw [Bool.eq_iff_iff]
  simp [ba_beq]
theorem x_eql_api_Tally {w : World} {l : List Value} {o : Oper} {ty : TypeId} {a b : Operand} {x y : api_Tally} (hx : evL l a = .agg (enc_api_Tally x).toArray) (hy : evL l b = .agg (enc_api_Tally y).toArray) (ho : o.op = .binOp .eql 70 a b ty) :
    (execOp (evL l) o).run Try.prog w = .ok (.value (.bool (decide (x = y)))) w := x_eqlS hx hy (by kernel_rfl) (eq_api_Tally (d := 9998) x y) ho
theorem x_neq_api_Tally {w : World} {l : List Value} {o : Oper} {ty : TypeId} {a b : Operand} {x y : api_Tally} (hx : evL l a = .agg (enc_api_Tally x).toArray) (hy : evL l b = .agg (enc_api_Tally y).toArray) (ho : o.op = .binOp .neq 70 a b ty) :
    (execOp (evL l) o).run Try.prog w = .ok (.value (.bool (!(decide (x = y))))) w := x_neqS hx hy (by kernel_rfl) (eq_api_Tally (d := 9998) x y) ho
theorem eq_api_Final {w : World} {d : Nat} (x y : api_Final) : (Op.equalIn (d + 3) 84 (.agg (enc_api_Final x).toArray) (.agg (enc_api_Final y).toArray)).run Try.prog w = .ok (decide (x = y)) w := by
  have h : (Op.equalIn (d + 3) 84 (.agg (enc_api_Final x).toArray) (.agg (enc_api_Final y).toArray)).run Try.prog w = .ok (x.N == y.N && (decide (x.V = y.V) && true)) w :=
    eqS (fs := [fld Try.prog 84 0, fld Try.prog 84 1]) (by kernel_rfl) (by kernel_rfl) (by kernel_rfl) (eqF_cons' (a := .int .i64 x.N) (b := .int .i64 y.N) (by kernel_rfl) (pureSem_run (by kernel_rfl)) (pureSem_run (by kernel_rfl)) (eqI (k' := .i64) (x := x.N) (y := y.N) (by kernel_rfl)) (eqF_cons' (a := .agg (encV (encI .i64) x.V).toArray) (b := .agg (encV (encI .i64) y.V).toArray) (by kernel_rfl) (part_arr (n := 48) (pre := [.int .i64 x.N]) (mid := (encV (encI .i64)) x.V) (post := []) (by kernel_rfl) (by kernel_rfl) (by simp [enc_api_Final]) (Eq.trans (b := 1) (by simp [encI, encB, encS]) (by kernel_rfl)) ((len_encV (len_encI .i64)) _)) (part_arr (n := 48) (pre := [.int .i64 y.N]) (mid := (encV (encI .i64)) y.V) (post := []) (by kernel_rfl) (by kernel_rfl) (by simp [enc_api_Final]) (Eq.trans (b := 1) (by simp [encI, encB, encS]) (by kernel_rfl)) ((len_encV (len_encI .i64)) _)) (eqArr (e := 2) (k' := .i64) (by kernel_rfl) (by kernel_rfl) (by kernel_rfl) (by kernel_rfl) x.V y.V) eqF_nil))
  rw [h]
  congr 1
  obtain ⟨x0, x1⟩ := x
  obtain ⟨y0, y1⟩ := y
  simp only [api_Final.mk.injEq]
  rw [Bool.eq_iff_iff]
  simp [ba_beq]
theorem x_eql_api_Final {w : World} {l : List Value} {o : Oper} {ty : TypeId} {a b : Operand} {x y : api_Final} (hx : evL l a = .agg (enc_api_Final x).toArray) (hy : evL l b = .agg (enc_api_Final y).toArray) (ho : o.op = .binOp .eql 84 a b ty) :
    (execOp (evL l) o).run Try.prog w = .ok (.value (.bool (decide (x = y)))) w := x_eqlS hx hy (by kernel_rfl) (eq_api_Final (d := 9997) x y) ho
theorem x_neq_api_Final {w : World} {l : List Value} {o : Oper} {ty : TypeId} {a b : Operand} {x y : api_Final} (hx : evL l a = .agg (enc_api_Final x).toArray) (hy : evL l b = .agg (enc_api_Final y).toArray) (ho : o.op = .binOp .neq 84 a b ty) :
    (execOp (evL l) o).run Try.prog w = .ok (.value (.bool (!(decide (x = y))))) w := x_neqS hx hy (by kernel_rfl) (eq_api_Final (d := 9997) x y) ho
theorem eq_api_Pick {w : World} {d : Nat} (x y : api_Pick) : (Op.equalIn (d + 2) 88 (.agg (enc_api_Pick x).toArray) (.agg (enc_api_Pick y).toArray)).run Try.prog w = .ok (decide (x = y)) w := by
  have h : (Op.equalIn (d + 2) 88 (.agg (enc_api_Pick x).toArray) (.agg (enc_api_Pick y).toArray)).run Try.prog w = .ok (x.Thread == y.Thread && (x.Kind == y.Kind && (x.Loc == y.Loc && true))) w :=
    eqS (fs := [fld Try.prog 88 0, fld Try.prog 88 1, fld Try.prog 88 2]) (by kernel_rfl) (by kernel_rfl) (by kernel_rfl) (eqF_cons' (a := .int .i64 x.Thread) (b := .int .i64 y.Thread) (by kernel_rfl) (pureSem_run (by kernel_rfl)) (pureSem_run (by kernel_rfl)) (eqI (k' := .i64) (x := x.Thread) (y := y.Thread) (by kernel_rfl)) (eqF_cons' (a := .int .i64 x.Kind) (b := .int .i64 y.Kind) (by kernel_rfl) (pureSem_run (by kernel_rfl)) (pureSem_run (by kernel_rfl)) (eqI (k' := .i64) (x := x.Kind) (y := y.Kind) (by kernel_rfl)) (eqF_cons' (a := .int .i64 x.Loc) (b := .int .i64 y.Loc) (by kernel_rfl) (pureSem_run (by kernel_rfl)) (pureSem_run (by kernel_rfl)) (eqI (k' := .i64) (x := x.Loc) (y := y.Loc) (by kernel_rfl)) eqF_nil)))
  rw [h]
  congr 1
  obtain ⟨x0, x1, x2⟩ := x
  obtain ⟨y0, y1, y2⟩ := y
  simp only [api_Pick.mk.injEq]
  rw [Bool.eq_iff_iff]
  simp [ba_beq]
theorem x_eql_api_Pick {w : World} {l : List Value} {o : Oper} {ty : TypeId} {a b : Operand} {x y : api_Pick} (hx : evL l a = .agg (enc_api_Pick x).toArray) (hy : evL l b = .agg (enc_api_Pick y).toArray) (ho : o.op = .binOp .eql 88 a b ty) :
    (execOp (evL l) o).run Try.prog w = .ok (.value (.bool (decide (x = y)))) w := x_eqlS hx hy (by kernel_rfl) (eq_api_Pick (d := 9998) x y) ho
theorem x_neq_api_Pick {w : World} {l : List Value} {o : Oper} {ty : TypeId} {a b : Operand} {x y : api_Pick} (hx : evL l a = .agg (enc_api_Pick x).toArray) (hy : evL l b = .agg (enc_api_Pick y).toArray) (ho : o.op = .binOp .neq 88 a b ty) :
    (execOp (evL l) o).run Try.prog w = .ok (.value (.bool (!(decide (x = y))))) w := x_neqS hx hy (by kernel_rfl) (eq_api_Pick (d := 9998) x y) ho
theorem eq_weirref14_Move {w : World} {d : Nat} (x y : weirref14_Move) : (Op.equalIn (d + 3) 95 (.agg (enc_weirref14_Move x).toArray) (.agg (enc_weirref14_Move y).toArray)).run Try.prog w = .ok (decide (x = y)) w := by
  have h : (Op.equalIn (d + 3) 95 (.agg (enc_weirref14_Move x).toArray) (.agg (enc_weirref14_Move y).toArray)).run Try.prog w = .ok (x.To == y.To && (decide (x.Pick = y.Pick) && true)) w :=
    eqS (fs := [fld Try.prog 95 0, fld Try.prog 95 1]) (by kernel_rfl) (by kernel_rfl) (by kernel_rfl) (eqF_cons' (a := .int .i64 x.To) (b := .int .i64 y.To) (by kernel_rfl) (pureSem_run (by kernel_rfl)) (pureSem_run (by kernel_rfl)) (eqI (k' := .i64) (x := x.To) (y := y.To) (by kernel_rfl)) (eqF_cons' (a := .agg (enc_api_Pick x.Pick).toArray) (b := .agg (enc_api_Pick y.Pick).toArray) (by kernel_rfl) (pureSem_run (by kernel_rfl)) (pureSem_run (by kernel_rfl)) (eq_api_Pick x.Pick y.Pick) eqF_nil))
  rw [h]
  congr 1
  obtain ⟨x0, x1⟩ := x
  obtain ⟨y0, y1⟩ := y
  simp only [weirref14_Move.mk.injEq]
  rw [Bool.eq_iff_iff]
  simp [ba_beq]
theorem x_eql_weirref14_Move {w : World} {l : List Value} {o : Oper} {ty : TypeId} {a b : Operand} {x y : weirref14_Move} (hx : evL l a = .agg (enc_weirref14_Move x).toArray) (hy : evL l b = .agg (enc_weirref14_Move y).toArray) (ho : o.op = .binOp .eql 95 a b ty) :
    (execOp (evL l) o).run Try.prog w = .ok (.value (.bool (decide (x = y)))) w := x_eqlS hx hy (by kernel_rfl) (eq_weirref14_Move (d := 9997) x y) ho
theorem x_neq_weirref14_Move {w : World} {l : List Value} {o : Oper} {ty : TypeId} {a b : Operand} {x y : weirref14_Move} (hx : evL l a = .agg (enc_weirref14_Move x).toArray) (hy : evL l b = .agg (enc_weirref14_Move y).toArray) (ho : o.op = .binOp .neq 95 a b ty) :
    (execOp (evL l) o).run Try.prog w = .ok (.value (.bool (!(decide (x = y))))) w := x_neqS hx hy (by kernel_rfl) (eq_weirref14_Move (d := 9997) x y) ho
theorem eq_explore_visit {w : World} {d : Nat} (x y : explore_visit) : (Op.equalIn (d + 3) 102 (.agg (enc_explore_visit x).toArray) (.agg (enc_explore_visit y).toArray)).run Try.prog w = .ok (decide (x = y)) w := by
  have h : (Op.equalIn (d + 3) 102 (.agg (enc_explore_visit x).toArray) (.agg (enc_explore_visit y).toArray)).run Try.prog w = .ok (x.depth == y.depth && (x.from_ == y.from_ && (decide (x.by_ = y.by_) && true))) w :=
    eqS (fs := [fld Try.prog 102 0, fld Try.prog 102 1, fld Try.prog 102 2]) (by kernel_rfl) (by kernel_rfl) (by kernel_rfl) (eqF_cons' (a := .int .i64 x.depth) (b := .int .i64 y.depth) (by kernel_rfl) (pureSem_run (by kernel_rfl)) (pureSem_run (by kernel_rfl)) (eqI (k' := .i64) (x := x.depth) (y := y.depth) (by kernel_rfl)) (eqF_cons' (a := .string x.from_) (b := .string y.from_) (by kernel_rfl) (pureSem_run (by kernel_rfl)) (pureSem_run (by kernel_rfl)) (eqStr (x := x.from_) (y := y.from_) (by kernel_rfl)) (eqF_cons' (a := .agg (enc_api_Pick x.by_).toArray) (b := .agg (enc_api_Pick y.by_).toArray) (by kernel_rfl) (pureSem_run (by kernel_rfl)) (pureSem_run (by kernel_rfl)) (eq_api_Pick x.by_ y.by_) eqF_nil)))
  rw [h]
  congr 1
  obtain ⟨x0, x1, x2⟩ := x
  obtain ⟨y0, y1, y2⟩ := y
  simp only [explore_visit.mk.injEq]
  rw [Bool.eq_iff_iff]
  simp [ba_beq]
theorem x_eql_explore_visit {w : World} {l : List Value} {o : Oper} {ty : TypeId} {a b : Operand} {x y : explore_visit} (hx : evL l a = .agg (enc_explore_visit x).toArray) (hy : evL l b = .agg (enc_explore_visit y).toArray) (ho : o.op = .binOp .eql 102 a b ty) :
    (execOp (evL l) o).run Try.prog w = .ok (.value (.bool (decide (x = y)))) w := x_eqlS hx hy (by kernel_rfl) (eq_explore_visit (d := 9997) x y) ho
theorem x_neq_explore_visit {w : World} {l : List Value} {o : Oper} {ty : TypeId} {a b : Operand} {x y : explore_visit} (hx : evL l a = .agg (enc_explore_visit x).toArray) (hy : evL l b = .agg (enc_explore_visit y).toArray) (ho : o.op = .binOp .neq 102 a b ty) :
    (execOp (evL l) o).run Try.prog w = .ok (.value (.bool (!(decide (x = y))))) w := x_neqS hx hy (by kernel_rfl) (eq_explore_visit (d := 9997) x y) ho
theorem eq_explore_edge {w : World} {d : Nat} (x y : explore_edge) : (Op.equalIn (d + 3) 122 (.agg (enc_explore_edge x).toArray) (.agg (enc_explore_edge y).toArray)).run Try.prog w = .ok (decide (x = y)) w := by
  have h : (Op.equalIn (d + 3) 122 (.agg (enc_explore_edge x).toArray) (.agg (enc_explore_edge y).toArray)).run Try.prog w = .ok (decide (x.by_ = y.by_) && (x.to == y.to && true)) w :=
    eqS (fs := [fld Try.prog 122 0, fld Try.prog 122 1]) (by kernel_rfl) (by kernel_rfl) (by kernel_rfl) (eqF_cons' (a := .agg (enc_api_Pick x.by_).toArray) (b := .agg (enc_api_Pick y.by_).toArray) (by kernel_rfl) (pureSem_run (by kernel_rfl)) (pureSem_run (by kernel_rfl)) (eq_api_Pick x.by_ y.by_) (eqF_cons' (a := .string x.to) (b := .string y.to) (by kernel_rfl) (pureSem_run (by kernel_rfl)) (pureSem_run (by kernel_rfl)) (eqStr (x := x.to) (y := y.to) (by kernel_rfl)) eqF_nil))
  rw [h]
  congr 1
  obtain ⟨x0, x1⟩ := x
  obtain ⟨y0, y1⟩ := y
  simp only [explore_edge.mk.injEq]
  rw [Bool.eq_iff_iff]
  simp [ba_beq]
theorem x_eql_explore_edge {w : World} {l : List Value} {o : Oper} {ty : TypeId} {a b : Operand} {x y : explore_edge} (hx : evL l a = .agg (enc_explore_edge x).toArray) (hy : evL l b = .agg (enc_explore_edge y).toArray) (ho : o.op = .binOp .eql 122 a b ty) :
    (execOp (evL l) o).run Try.prog w = .ok (.value (.bool (decide (x = y)))) w := x_eqlS hx hy (by kernel_rfl) (eq_explore_edge (d := 9997) x y) ho
theorem x_neq_explore_edge {w : World} {l : List Value} {o : Oper} {ty : TypeId} {a b : Operand} {x y : explore_edge} (hx : evL l a = .agg (enc_explore_edge x).toArray) (hy : evL l b = .agg (enc_explore_edge y).toArray) (ho : o.op = .binOp .neq 122 a b ty) :
    (execOp (evL l) o).run Try.prog w = .ok (.value (.bool (!(decide (x = y))))) w := x_neqS hx hy (by kernel_rfl) (eq_explore_edge (d := 9997) x y) ho
end Go.Proofs.Ytfiamlhhhkiiaaa.K
