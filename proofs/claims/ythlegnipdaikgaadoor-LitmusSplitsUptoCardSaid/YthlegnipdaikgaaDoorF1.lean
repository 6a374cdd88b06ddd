/- The walk, part 1: each Go function as a plain Lean function, and that its call answers as that function says. No condition. -/
import Derived.Test.YthlegnipdaikgaaDoorE
import Derived.Test.YthlegnipdaikgaaDoorNG
import Derived.Test.YthlegnipdaikgaaDoorNV
set_option linter.unusedVariables false
set_option linter.unusedSimpArgs false
set_option maxRecDepth 100000
namespace Go.Proofs.YthlegnipdaikgaaDoor.K
open Go Go.RowKit
noncomputable section
noncomputable def cd7 (p : List Nat) : Code := sub (bodyOf Tryd.f7) p
def litmus_begins.f (a0 : ByteArray) (a1 : Int) : Option Bool :=
  (if 0 ≤ a1 ∧ a1 ≤ (a0.size : Int) then (if (a1 == 0) = true then (if (decide (((a0.extract a1.toNat a0.size).size : Int) > 3)) = true then (if 0 ≤ (3 : Int) ∧ (3 : Int) ≤ ((a0.extract a1.toNat a0.size).size : Int) then (if (seq ((a0.extract a1.toNat a0.size).extract 0 (3 : Int).toNat) (⟨#[88, 56, 54]⟩ : ByteArray)) = true then (if 0 ≤ (3 : Int) ∧ (3 : Int) < ((a0.extract a1.toNat a0.size).size : Int) then (if ((byt (a0.extract a1.toNat a0.size) (3 : Int)) == 32) = true then some (true) else (if 0 ≤ (3 : Int) ∧ (3 : Int) < ((a0.extract a1.toNat a0.size).size : Int) then (if ((byt (a0.extract a1.toNat a0.size) (3 : Int)) == 9) = true then some (true) else some (false)) else none)) else none) else some (false)) else none) else some (false)) else (if 0 ≤ (IntKind.i64.wrap (a1 - 1)) ∧ (IntKind.i64.wrap (a1 - 1)) < (a0.size : Int) then (if ((byt a0 (IntKind.i64.wrap (a1 - 1))) == 10) = true then (if (decide (((a0.extract a1.toNat a0.size).size : Int) > 3)) = true then (if 0 ≤ (3 : Int) ∧ (3 : Int) ≤ ((a0.extract a1.toNat a0.size).size : Int) then (if (seq ((a0.extract a1.toNat a0.size).extract 0 (3 : Int).toNat) (⟨#[88, 56, 54]⟩ : ByteArray)) = true then (if 0 ≤ (3 : Int) ∧ (3 : Int) < ((a0.extract a1.toNat a0.size).size : Int) then (if ((byt (a0.extract a1.toNat a0.size) (3 : Int)) == 32) = true then some (true) else (if 0 ≤ (3 : Int) ∧ (3 : Int) < ((a0.extract a1.toNat a0.size).size : Int) then (if ((byt (a0.extract a1.toNat a0.size) (3 : Int)) == 9) = true then some (true) else some (false)) else none)) else none) else some (false)) else none) else some (false)) else some (false)) else none)) else none)
set_option maxHeartbeats 16000000 in
theorem litmus_begins.ok (a0 : ByteArray) (a1 : Int) {w0 : World} {Z : Zm} {fs : List XObj} {w : World} (hS0 : St w0 Z (fs) w) {q0 : Bool} (hp0 : litmus_begins.f a0 a1 = some q0) :
    Calls Tryd.prog 7 #[.string a0, .int .i64 a1] w (fun e w' => e = .returned (.bool q0) ∧ St w0 Z (fs) w') := by
  refine calls_abs ?_; intro R hR
  unfold litmus_begins.f at hp0
  refine calls_of_runs (fn := Tryd.f7) (c := cd7 []) Tryd.func7 (by kernel_rfl) (al := [.string a0, .int .i64 a1]) rfl (n := 36) rfl ?_
  refine sx_run 8 (todo' := [.inRegion (opsOf (cd7 [1, 0])) [2, 3], .code (cd7 [1, 1])]) (us := [(4, .bool false), (6, .string a0), (7, .int .i64 a1)]) (by kernel_rfl) ?_
  obtain ⟨g1, hp2⟩ := ite_some hp0
  refine r_val (c := (cd7 [1, 0])) (i := 2) (d := (some 8)) (ty := 9) (op := .slice 9 (.tmp 6) (some (.tmp 7)) none none) (v := .string (a0.extract a1.toNat a0.size)) (by kernel_rfl) (by kernel_rfl) (fun o ho _ => x_cutStr_sn (k := .i64) (by kernel_rfl) (by kernel_rfl) (by kernel_rfl) g1 ho) ?_
  refine sx_split 6 (todo' := [.inRegion (opsOf (cd7 [1, 1, 0])) [2, 3, 4, 5, 6, 7, 8, 9, 10, 11, 12, 13, 14, 15, 16, 17, 18, 19, 20, 21, 22, 23, 24, 25, 26, 27, 28, 29], .code (cd7 [1, 1, 1])]) (us := [(5, .string (a0.extract a1.toNat a0.size)), (9, .int .i64 a1)]) (d := 10) (t := (a1 == 0)) (by kernel_rfl) (fun h3 => ?_) (fun h4 => ?_)
  ·skip
   have hp5 := ite_t hp2 h3
   refine sx_split 11 (todo' := [.inRegion (opsOf (cd7 [1, 1, 0])) [13, 14, 15, 16, 17, 18, 19, 20, 21, 22, 23, 24, 25, 26, 27, 28, 29], .code (cd7 [1, 1, 1])]) (us := [(11, .bool true), (12, undef), (13, undef), (14, undef), (15, undef), (16, undef), (17, .bool true), (18, .bool true), (19, .string (a0.extract a1.toNat a0.size)), (20, .int .i64 ((a0.extract a1.toNat a0.size).size : Int))]) (d := 21) (t := (decide (((a0.extract a1.toNat a0.size).size : Int) > 3))) (by kernel_rfl) (fun h6 => ?_) (fun h7 => ?_)
   ·skip
    have hp8 := ite_t hp5 h6
    refine sx_run 3 (todo' := [.inRegion (opsOf (cd7 [1, 1, 0])) [16, 17, 18, 19, 20, 21, 22, 23, 24, 25, 26, 27, 28, 29], .code (cd7 [1, 1, 1])]) (us := [(22, .bool true), (23, .bool true), (24, .string (a0.extract a1.toNat a0.size))]) (by kernel_rfl) ?_
    obtain ⟨g9, hp10⟩ := ite_some hp8
    refine r_val (c := (cd7 [1, 1, 0])) (i := 16) (d := (some 25)) (ty := 9) (op := .slice 9 (.tmp 24) none (some (.const (.int .i64 3))) none) (v := .string ((a0.extract a1.toNat a0.size).extract 0 (3 : Int).toNat)) (by kernel_rfl) (by kernel_rfl) (fun o ho _ => x_cutStr_ns (k := .i64) (by kernel_rfl) (by kernel_rfl) (by kernel_rfl) g9 ho) ?_
    refine sx_split 1 (todo' := [.inRegion (opsOf (cd7 [1, 1, 0])) [18, 19, 20, 21, 22, 23, 24, 25, 26, 27, 28, 29], .code (cd7 [1, 1, 1])]) (us := []) (d := 26) (t := (seq ((a0.extract a1.toNat a0.size).extract 0 (3 : Int).toNat) (⟨#[88, 56, 54]⟩ : ByteArray))) (by kernel_rfl) (fun h11 => ?_) (fun h12 => ?_)
    ·skip
     have hp13 := ite_t hp10 h11
     refine sx_run 3 (todo' := [.inRegion (opsOf (cd7 [1, 1, 0])) [21, 22, 23, 24, 25, 26, 27, 28, 29], .code (cd7 [1, 1, 1])]) (us := [(27, .bool true), (28, .bool true), (29, .string (a0.extract a1.toNat a0.size))]) (by kernel_rfl) ?_
     obtain ⟨g14, hp15⟩ := ite_some hp13
     refine r_val (c := (cd7 [1, 1, 0])) (i := 21) (d := (some 30)) (ty := 5) (op := .index 9 (.tmp 29) (.const (.int .i64 3))) (v := .int .u8 (byt (a0.extract a1.toNat a0.size) (3 : Int))) (by kernel_rfl) (by kernel_rfl) (fun o ho _ => x_indexStr (kk := .i64) (by kernel_rfl) (by kernel_rfl) (by kernel_rfl) g14.1 g14.2 ho) ?_
     refine sx_split 1 (todo' := [.inRegion (opsOf (cd7 [1, 1, 0])) [23, 24, 25, 26, 27, 28, 29], .code (cd7 [1, 1, 1])]) (us := []) (d := 31) (t := ((byt (a0.extract a1.toNat a0.size) (3 : Int)) == 32)) (by kernel_rfl) (fun h16 => ?_) (fun h17 => ?_)
     ·skip
      have hp18 := ite_t hp15 h16
      refine sx_run 8 (todo' := [.code (cd7 [1, 1, 1])]) (us := [(32, .bool true), (33, undef), (34, undef), (35, undef), (36, .bool true), (37, .bool true), (4, .bool true)]) (by kernel_rfl) ?_
      refine runs_ret (fn := Tryd.f7) (v := .bool true) Tryd.func7 (by kernel_rfl) ?_
      have hr19 := (Option.some.inj hp18)
      cases hr19
      exact hR _ _ ⟨rfl, hS0⟩
     ·skip
      have hp20 := ite_f hp15 h17
      refine sx_run 2 (todo' := [.inRegion (opsOf (cd7 [1, 1, 0])) [25, 26, 27, 28, 29], .code (cd7 [1, 1, 1])]) (us := [(32, .bool false), (33, .string (a0.extract a1.toNat a0.size))]) (by kernel_rfl) ?_
      obtain ⟨g21, hp22⟩ := ite_some hp20
      refine r_val (c := (cd7 [1, 1, 0])) (i := 25) (d := (some 34)) (ty := 5) (op := .index 9 (.tmp 33) (.const (.int .i64 3))) (v := .int .u8 (byt (a0.extract a1.toNat a0.size) (3 : Int))) (by kernel_rfl) (by kernel_rfl) (fun o ho _ => x_indexStr (kk := .i64) (by kernel_rfl) (by kernel_rfl) (by kernel_rfl) g21.1 g21.2 ho) ?_
      refine sx_split 1 (todo' := [.inRegion (opsOf (cd7 [1, 1, 0])) [27, 28, 29], .code (cd7 [1, 1, 1])]) (us := []) (d := 35) (t := ((byt (a0.extract a1.toNat a0.size) (3 : Int)) == 9)) (by kernel_rfl) (fun h23 => ?_) (fun h24 => ?_)
      ·skip
       have hp25 := ite_t hp22 h23
       refine sx_run 4 (todo' := [.code (cd7 [1, 1, 1])]) (us := [(36, .bool true), (37, .bool true), (4, .bool true)]) (by kernel_rfl) ?_
       refine runs_ret (fn := Tryd.f7) (v := .bool true) Tryd.func7 (by kernel_rfl) ?_
       have hr26 := (Option.some.inj hp25)
       cases hr26
       exact hR _ _ ⟨rfl, hS0⟩
      ·skip
       have hp27 := ite_f hp22 h24
       refine sx_run 4 (todo' := [.code (cd7 [1, 1, 1])]) (us := [(36, .bool false), (37, .bool false), (4, .bool false)]) (by kernel_rfl) ?_
       refine runs_ret (fn := Tryd.f7) (v := .bool false) Tryd.func7 (by kernel_rfl) ?_
       have hr28 := (Option.some.inj hp27)
       cases hr28
       exact hR _ _ ⟨rfl, hS0⟩
    ·skip
     have hp29 := ite_f hp10 h12
     refine sx_run 13 (todo' := [.code (cd7 [1, 1, 1])]) (us := [(27, .bool false), (28, .bool false), (29, undef), (30, undef), (31, undef), (32, undef), (33, undef), (34, undef), (35, undef), (36, undef), (37, .bool false), (4, .bool false)]) (by kernel_rfl) ?_
     refine runs_ret (fn := Tryd.f7) (v := .bool false) Tryd.func7 (by kernel_rfl) ?_
     have hr30 := (Option.some.inj hp29)
     cases hr30
     exact hR _ _ ⟨rfl, hS0⟩
   ·skip
    have hp31 := ite_f hp5 h7
    refine sx_run 18 (todo' := [.code (cd7 [1, 1, 1])]) (us := [(22, .bool false), (23, .bool false), (24, undef), (25, undef), (26, undef), (27, .bool false), (28, .bool false), (29, undef), (30, undef), (31, undef), (32, undef), (33, undef), (34, undef), (35, undef), (36, undef), (37, .bool false), (4, .bool false)]) (by kernel_rfl) ?_
    refine runs_ret (fn := Tryd.f7) (v := .bool false) Tryd.func7 (by kernel_rfl) ?_
    have hr32 := (Option.some.inj hp31)
    cases hr32
    exact hR _ _ ⟨rfl, hS0⟩
  ·skip
   have hp33 := ite_f hp2 h4
   refine sx_run 4 (todo' := [.inRegion (opsOf (cd7 [1, 1, 0])) [6, 7, 8, 9, 10, 11, 12, 13, 14, 15, 16, 17, 18, 19, 20, 21, 22, 23, 24, 25, 26, 27, 28, 29], .code (cd7 [1, 1, 1])]) (us := [(11, .bool false), (12, .string a0), (13, .int .i64 a1), (14, .int .i64 (IntKind.i64.wrap (a1 - 1)))]) (by kernel_rfl) ?_
   obtain ⟨g34, hp35⟩ := ite_some hp33
   refine r_val (c := (cd7 [1, 1, 0])) (i := 6) (d := (some 15)) (ty := 5) (op := .index 9 (.tmp 12) (.tmp 14)) (v := .int .u8 (byt a0 (IntKind.i64.wrap (a1 - 1)))) (by kernel_rfl) (by kernel_rfl) (fun o ho _ => x_indexStr (kk := .i64) (by kernel_rfl) (by kernel_rfl) (by kernel_rfl) g34.1 g34.2 ho) ?_
   refine sx_split 1 (todo' := [.inRegion (opsOf (cd7 [1, 1, 0])) [8, 9, 10, 11, 12, 13, 14, 15, 16, 17, 18, 19, 20, 21, 22, 23, 24, 25, 26, 27, 28, 29], .code (cd7 [1, 1, 1])]) (us := []) (d := 16) (t := ((byt a0 (IntKind.i64.wrap (a1 - 1))) == 10)) (by kernel_rfl) (fun h36 => ?_) (fun h37 => ?_)
   ·skip
    have hp38 := ite_t hp35 h36
    refine sx_split 5 (todo' := [.inRegion (opsOf (cd7 [1, 1, 0])) [13, 14, 15, 16, 17, 18, 19, 20, 21, 22, 23, 24, 25, 26, 27, 28, 29], .code (cd7 [1, 1, 1])]) (us := [(17, .bool true), (18, .bool true), (19, .string (a0.extract a1.toNat a0.size)), (20, .int .i64 ((a0.extract a1.toNat a0.size).size : Int))]) (d := 21) (t := (decide (((a0.extract a1.toNat a0.size).size : Int) > 3))) (by kernel_rfl) (fun h39 => ?_) (fun h40 => ?_)
    ·skip
     have hp41 := ite_t hp38 h39
     refine sx_run 3 (todo' := [.inRegion (opsOf (cd7 [1, 1, 0])) [16, 17, 18, 19, 20, 21, 22, 23, 24, 25, 26, 27, 28, 29], .code (cd7 [1, 1, 1])]) (us := [(22, .bool true), (23, .bool true), (24, .string (a0.extract a1.toNat a0.size))]) (by kernel_rfl) ?_
     obtain ⟨g42, hp43⟩ := ite_some hp41
     refine r_val (c := (cd7 [1, 1, 0])) (i := 16) (d := (some 25)) (ty := 9) (op := .slice 9 (.tmp 24) none (some (.const (.int .i64 3))) none) (v := .string ((a0.extract a1.toNat a0.size).extract 0 (3 : Int).toNat)) (by kernel_rfl) (by kernel_rfl) (fun o ho _ => x_cutStr_ns (k := .i64) (by kernel_rfl) (by kernel_rfl) (by kernel_rfl) g42 ho) ?_
     refine sx_split 1 (todo' := [.inRegion (opsOf (cd7 [1, 1, 0])) [18, 19, 20, 21, 22, 23, 24, 25, 26, 27, 28, 29], .code (cd7 [1, 1, 1])]) (us := []) (d := 26) (t := (seq ((a0.extract a1.toNat a0.size).extract 0 (3 : Int).toNat) (⟨#[88, 56, 54]⟩ : ByteArray))) (by kernel_rfl) (fun h44 => ?_) (fun h45 => ?_)
     ·skip
      have hp46 := ite_t hp43 h44
      refine sx_run 3 (todo' := [.inRegion (opsOf (cd7 [1, 1, 0])) [21, 22, 23, 24, 25, 26, 27, 28, 29], .code (cd7 [1, 1, 1])]) (us := [(27, .bool true), (28, .bool true), (29, .string (a0.extract a1.toNat a0.size))]) (by kernel_rfl) ?_
      obtain ⟨g47, hp48⟩ := ite_some hp46
      refine r_val (c := (cd7 [1, 1, 0])) (i := 21) (d := (some 30)) (ty := 5) (op := .index 9 (.tmp 29) (.const (.int .i64 3))) (v := .int .u8 (byt (a0.extract a1.toNat a0.size) (3 : Int))) (by kernel_rfl) (by kernel_rfl) (fun o ho _ => x_indexStr (kk := .i64) (by kernel_rfl) (by kernel_rfl) (by kernel_rfl) g47.1 g47.2 ho) ?_
      refine sx_split 1 (todo' := [.inRegion (opsOf (cd7 [1, 1, 0])) [23, 24, 25, 26, 27, 28, 29], .code (cd7 [1, 1, 1])]) (us := []) (d := 31) (t := ((byt (a0.extract a1.toNat a0.size) (3 : Int)) == 32)) (by kernel_rfl) (fun h49 => ?_) (fun h50 => ?_)
      ·skip
       have hp51 := ite_t hp48 h49
       refine sx_run 8 (todo' := [.code (cd7 [1, 1, 1])]) (us := [(32, .bool true), (33, undef), (34, undef), (35, undef), (36, .bool true), (37, .bool true), (4, .bool true)]) (by kernel_rfl) ?_
       refine runs_ret (fn := Tryd.f7) (v := .bool true) Tryd.func7 (by kernel_rfl) ?_
       have hr52 := (Option.some.inj hp51)
       cases hr52
       exact hR _ _ ⟨rfl, hS0⟩
      ·skip
       have hp53 := ite_f hp48 h50
       refine sx_run 2 (todo' := [.inRegion (opsOf (cd7 [1, 1, 0])) [25, 26, 27, 28, 29], .code (cd7 [1, 1, 1])]) (us := [(32, .bool false), (33, .string (a0.extract a1.toNat a0.size))]) (by kernel_rfl) ?_
       obtain ⟨g54, hp55⟩ := ite_some hp53
       refine r_val (c := (cd7 [1, 1, 0])) (i := 25) (d := (some 34)) (ty := 5) (op := .index 9 (.tmp 33) (.const (.int .i64 3))) (v := .int .u8 (byt (a0.extract a1.toNat a0.size) (3 : Int))) (by kernel_rfl) (by kernel_rfl) (fun o ho _ => x_indexStr (kk := .i64) (by kernel_rfl) (by kernel_rfl) (by kernel_rfl) g54.1 g54.2 ho) ?_
       refine sx_split 1 (todo' := [.inRegion (opsOf (cd7 [1, 1, 0])) [27, 28, 29], .code (cd7 [1, 1, 1])]) (us := []) (d := 35) (t := ((byt (a0.extract a1.toNat a0.size) (3 : Int)) == 9)) (by kernel_rfl) (fun h56 => ?_) (fun h57 => ?_)
       ·skip
        have hp58 := ite_t hp55 h56
        refine sx_run 4 (todo' := [.code (cd7 [1, 1, 1])]) (us := [(36, .bool true), (37, .bool true), (4, .bool true)]) (by kernel_rfl) ?_
        refine runs_ret (fn := Tryd.f7) (v := .bool true) Tryd.func7 (by kernel_rfl) ?_
        have hr59 := (Option.some.inj hp58)
        cases hr59
        exact hR _ _ ⟨rfl, hS0⟩
       ·skip
        have hp60 := ite_f hp55 h57
        refine sx_run 4 (todo' := [.code (cd7 [1, 1, 1])]) (us := [(36, .bool false), (37, .bool false), (4, .bool false)]) (by kernel_rfl) ?_
        refine runs_ret (fn := Tryd.f7) (v := .bool false) Tryd.func7 (by kernel_rfl) ?_
        have hr61 := (Option.some.inj hp60)
        cases hr61
        exact hR _ _ ⟨rfl, hS0⟩
     ·skip
      have hp62 := ite_f hp43 h45
      refine sx_run 13 (todo' := [.code (cd7 [1, 1, 1])]) (us := [(27, .bool false), (28, .bool false), (29, undef), (30, undef), (31, undef), (32, undef), (33, undef), (34, undef), (35, undef), (36, undef), (37, .bool false), (4, .bool false)]) (by kernel_rfl) ?_
      refine runs_ret (fn := Tryd.f7) (v := .bool false) Tryd.func7 (by kernel_rfl) ?_
      have hr63 := (Option.some.inj hp62)
      cases hr63
      exact hR _ _ ⟨rfl, hS0⟩
    ·skip
     have hp64 := ite_f hp38 h40
     refine sx_run 18 (todo' := [.code (cd7 [1, 1, 1])]) (us := [(22, .bool false), (23, .bool false), (24, undef), (25, undef), (26, undef), (27, .bool false), (28, .bool false), (29, undef), (30, undef), (31, undef), (32, undef), (33, undef), (34, undef), (35, undef), (36, undef), (37, .bool false), (4, .bool false)]) (by kernel_rfl) ?_
     refine runs_ret (fn := Tryd.f7) (v := .bool false) Tryd.func7 (by kernel_rfl) ?_
     have hr65 := (Option.some.inj hp64)
     cases hr65
     exact hR _ _ ⟨rfl, hS0⟩
   ·skip
    have hp66 := ite_f hp35 h37
    refine sx_run 23 (todo' := [.code (cd7 [1, 1, 1])]) (us := [(17, .bool false), (18, .bool false), (19, undef), (20, undef), (21, undef), (22, .bool false), (23, .bool false), (24, undef), (25, undef), (26, undef), (27, .bool false), (28, .bool false), (29, undef), (30, undef), (31, undef), (32, undef), (33, undef), (34, undef), (35, undef), (36, undef), (37, .bool false), (4, .bool false)]) (by kernel_rfl) ?_
    refine runs_ret (fn := Tryd.f7) (v := .bool false) Tryd.func7 (by kernel_rfl) ?_
    have hr67 := (Option.some.inj hp66)
    cases hr67
    exact hR _ _ ⟨rfl, hS0⟩

noncomputable def cd6 (p : List Nat) : Code := sub (bodyOf Tryd.f6) p
def litmus_Split_1.f (a0 : Int) (a1v : ByteArray) (a2v : Int) (a3v : List ByteArray) : Option (Int × (List ByteArray)) :=
  (if 0 ≤ a2v ∧ a2v ≤ a0 ∧ a0 ≤ (a1v.size : Int) then (litmus_begins.f a1v a2v >>= (fun t3 => (((if t3 = true then (if (a3v.length + ([(a1v.extract a2v.toNat a0.toNat)] : List ByteArray).length) * 16 ≤ 140737488355328 then some ((a3v ++ ([(a1v.extract a2v.toNat a0.toNat)] : List ByteArray))) else none) else (strings_Trim.f (a1v.extract a2v.toNat a0.toNat) (⟨#[32, 9, 10, 13]⟩ : ByteArray) >>= (fun t28 => (if (!seq t28 (⟨#[]⟩ : ByteArray)) = true then (if (a3v.length + ([(a1v.extract a2v.toNat a0.toNat)] : List ByteArray).length) * 16 ≤ 140737488355328 then some ((a3v ++ ([(a1v.extract a2v.toNat a0.toNat)] : List ByteArray))) else none) else some (a3v))))) : Option (List ByteArray)) >>= (fun t11 => some ((a0, t11)))))) else none)
set_option maxHeartbeats 16000000 in
theorem litmus_Split_1.ok (a0 : Int) (a1v : ByteArray) (a2v : Int) (a3v : List ByteArray) (ba1 : Nat) (ba2 : Nat) (ba3 : Nat) (Aa3v : Option Addr) (ca3v : Nat) {w0 : World} {Z : Zm} {fs : List XObj} {w : World} (hS0 : St w0 Z (xblk ba1 9 ([.string a1v]) :: xblk ba2 3 ([.int .i64 a2v]) :: xblk ba3 22 ([.slice Aa3v a3v.length ca3v]) :: xrow Aa3v ca3v 9 1 (a3v.flatMap encS) :: fs) w) (hE : Env Z) {q0 : Int} {q1 : List ByteArray} (hp0 : litmus_Split_1.f a0 a1v a2v a3v = some (q0, q1)) :
    Calls Tryd.prog 6 #[.int .i64 a0, .pointer (some ⟨ba1, 0, none⟩), .pointer (some ⟨ba2, 0, none⟩), .pointer (some ⟨ba3, 0, none⟩)] w (fun e w' => ∃ (QA0 : Option Addr) (Qc0 : Nat), e = .returned (.tuple #[]) ∧ St w0 Z (xrow QA0 Qc0 9 1 (q1.flatMap encS) :: xblk ba1 9 ([.string a1v]) :: xblk ba2 3 ([.int .i64 q0]) :: xblk ba3 22 ([.slice QA0 q1.length Qc0]) :: fs) w') := by
  refine calls_abs ?_; intro R hR
  unfold litmus_Split_1.f at hp0
  refine calls_of_runs (fn := Tryd.f6) (c := cd6 []) Tryd.func6 (by kernel_rfl) (al := [.int .i64 a0, .pointer (some ⟨ba1, 0, none⟩), .pointer (some ⟨ba2, 0, none⟩), .pointer (some ⟨ba3, 0, none⟩)]) rfl (n := 19) rfl ?_
  refine sx_run 3 (todo' := [.inRegion (opsOf (cd6 [0, 0])) [0, 1, 2, 3, 4], .code (cd6 [0, 1]), .code (cd6 [1])]) (us := []) (by kernel_rfl) ?_
  refine r_load (c := (cd6 [0, 0])) (i := 0) (d := (some 6)) (ty := 9) (t := 9) (x := (.tmp 1)) (p := ⟨ba1, 0, none⟩) (v := .string a1v) (by kernel_rfl) (by kernel_rfl) (by kernel_rfl) (loads_at 0 (hS0.blk 0 rfl) (by kernel_rfl) (by kernel_rfl)) ?_
  refine r_load (c := (cd6 [0, 0])) (i := 1) (d := (some 7)) (ty := 3) (t := 3) (x := (.tmp 2)) (p := ⟨ba2, 0, none⟩) (v := .int .i64 a2v) (by kernel_rfl) (by kernel_rfl) (by kernel_rfl) (loads_at 0 (hS0.blk 1 rfl) (by kernel_rfl) (by kernel_rfl)) ?_
  refine sx_run 1 (todo' := [.inRegion (opsOf (cd6 [0, 0])) [3, 4], .code (cd6 [0, 1]), .code (cd6 [1])]) (us := [(8, .int .i64 a0)]) (by kernel_rfl) ?_
  obtain ⟨g1, hp2⟩ := ite_some hp0
  refine r_val (c := (cd6 [0, 0])) (i := 3) (d := (some 9)) (ty := 9) (op := .slice 9 (.tmp 6) (some (.tmp 7)) (some (.tmp 8)) none) (v := .string (a1v.extract a2v.toNat a0.toNat)) (by kernel_rfl) (by kernel_rfl) (fun o ho _ => x_cutStr_ss (k := .i64) (k' := .i64) (by kernel_rfl) (by kernel_rfl) (by kernel_rfl) (by kernel_rfl) g1 ho) ?_
  refine sx_run 4 (todo' := [.inRegion (opsOf (cd6 [0, 1, 0])) [0, 1, 2, 3, 4, 5, 6, 7], .code (cd6 [0, 1, 1]), .code (cd6 [1])]) (us := [(5, .string (a1v.extract a2v.toNat a0.toNat))]) (by kernel_rfl) ?_
  refine r_load (c := (cd6 [0, 1, 0])) (i := 0) (d := (some 10)) (ty := 9) (t := 9) (x := (.tmp 1)) (p := ⟨ba1, 0, none⟩) (v := .string a1v) (by kernel_rfl) (by kernel_rfl) (by kernel_rfl) (loads_at 0 (hS0.blk 0 rfl) (by kernel_rfl) (by kernel_rfl)) ?_
  refine r_load (c := (cd6 [0, 1, 0])) (i := 1) (d := (some 11)) (ty := 3) (t := 3) (x := (.tmp 2)) (p := ⟨ba2, 0, none⟩) (v := .int .i64 a2v) (by kernel_rfl) (by kernel_rfl) (by kernel_rfl) (loads_at 0 (hS0.blk 1 rfl) (by kernel_rfl) (by kernel_rfl)) ?_
  obtain ⟨t3, hr4, hp5⟩ := bind_some' hp2
  refine r_call1 (c := (cd6 [0, 1, 0])) (i := 2) (d := (some 12)) (g := 7) (args := #[.string a1v, .int .i64 a2v]) (by kernel_rfl) (by kernel_rfl) (by kernel_rfl) (by kernel_rfl) (litmus_begins.ok a1v a2v hS0 hr4) ?_
  rintro _ w6 ⟨rfl, hS7⟩
  refine ⟨.bool t3, rfl, ?_⟩
  refine sx_run 1 (todo' := [.inRegion (opsOf (cd6 [0, 1, 0])) [4, 5, 6, 7], .code (cd6 [0, 1, 1]), .code (cd6 [1])]) (us := [(13, .bool t3)]) (by kernel_rfl) ?_
  obtain ⟨v8, hv9, hp10⟩ := bind_some' hp5
  have J17 : ∀ (t11 : List ByteArray) (he19 : t11 = v8) (l18 : List Value) (A12 : Option Addr) (c13 : Nat) (w15 : World) (hS16 : St w0 Z (xblk ba2 3 ([.int .i64 a2v]) :: xblk ba1 9 ([.string a1v]) :: xblk ba3 22 ([.slice A12 t11.length c13]) :: xrow A12 c13 9 1 (t11.flatMap encS) :: fs) w15), Runs Tryd.prog 6 [.code (cd6 [1])] (fill [some (.int .i64 a0), none, some (.pointer (some ⟨ba2, 0, none⟩)), none, none, none, none, none, none, none, none, none, none, none, none, none, none, none, none, none, none, none, none] l18) w15 R := by
   intro t11 he19 l18 A12 c13 w15 hS16
   subst he19
   try dsimp only at hp10
   refine sx_run 2 (todo' := [.inRegion (opsOf (cd6 [1])) [1]]) (us := [(22, .int .i64 a0)]) (by kernel_rfl) ?_
   refine r_store (c := (cd6 [1])) (i := 1) (d := none) (ty := 0) (t := 3) (x := (.tmp 2)) (y := (.tmp 22)) (b := ba2) (o := 0) (e := 3) (cs := [.int .i64 a2v]) (v := .int .i64 a0) (vs := [.int .i64 a0]) (cs' := [.int .i64 a0]) hS16 (by kernel_rfl) (by kernel_rfl) (by kernel_rfl) (by kernel_rfl) (by kernel_rfl) (by kernel_rfl) (by kernel_rfl) (Nat.le_of_ble_eq_true (by kernel_rfl)) (by kernel_rfl) ?_
   intro w20 hS21
   refine sx_run 1 (todo' := []) (us := []) (by kernel_rfl) ?_
   have hS22 := hS21.pick2
   have hS23 := hS22.pick1
   have hS24 := hS23.pick2
   have hS25 := hS24.pick3
   refine runs_end (fn := Tryd.f6) (v := .tuple #[]) Tryd.func6 (by kernel_rfl) ?_
   have hr26 := (Option.some.inj hp10)
   cases hr26
   exact hR _ _ ⟨A12, c13, rfl, hS25⟩
  cases t3
  ·skip
   have hp27 := ite_f hv9 rfl
   refine sx_run 1 (todo' := [.inRegion (opsOf (cd6 [0, 1, 0])) [5, 6, 7], .code (cd6 [0, 1, 1]), .code (cd6 [1])]) (us := [(14, .string (a1v.extract a2v.toNat a0.toNat))]) (by kernel_rfl) ?_
   obtain ⟨t28, hr29, hp30⟩ := bind_some' hp27
   refine r_call1 (c := (cd6 [0, 1, 0])) (i := 5) (d := (some 15)) (g := 8) (args := #[.string (a1v.extract a2v.toNat a0.toNat), .string (⟨#[32, 9, 10, 13]⟩ : ByteArray)]) (by kernel_rfl) (by kernel_rfl) (by kernel_rfl) (by kernel_rfl) (strings_Trim.ok (a1v.extract a2v.toNat a0.toNat) (⟨#[32, 9, 10, 13]⟩ : ByteArray) hS7 hE hr29) ?_
   rintro _ w31 ⟨rfl, hS32⟩
   refine ⟨.string t28, rfl, ?_⟩
   refine sx_split 1 (todo' := [.inRegion (opsOf (cd6 [0, 1, 0])) [7], .code (cd6 [0, 1, 1]), .code (cd6 [1])]) (us := []) (d := 16) (t := (!seq t28 (⟨#[]⟩ : ByteArray))) (by kernel_rfl) (fun h33 => ?_) (fun h34 => ?_)
   ·skip
    have hp35 := ite_t hp30 h33
    refine sx_run 4 (todo' := [.inRegion (opsOf (cd6 [0, 1, 1, 0])) [0, 1, 2, 3, 4], .code (cd6 [1])]) (us := [(17, .bool true)]) (by kernel_rfl) ?_
    refine r_load (c := (cd6 [0, 1, 1, 0])) (i := 0) (d := (some 18)) (ty := 22) (t := 22) (x := (.tmp 3)) (p := ⟨ba3, 0, none⟩) (v := .slice Aa3v a3v.length ca3v) (by kernel_rfl) (by kernel_rfl) (by kernel_rfl) (loads_at 0 (hS32.blk 2 rfl) (by kernel_rfl) (by kernel_rfl)) ?_
    refine sx_run 1 (todo' := [.inRegion (opsOf (cd6 [0, 1, 1, 0])) [2, 3, 4], .code (cd6 [1])]) (us := [(19, .string (a1v.extract a2v.toNat a0.toNat))]) (by kernel_rfl) ?_
    refine r_lit (c := (cd6 [0, 1, 1, 0])) (i := 2) (d := (some 20)) (ty := 22) (t := 22) (e := 9) (sz := 1) (n := 1) (parts := #[(0, (.tmp 19))]) (vs := [(0, .string (a1v.extract a2v.toNat a0.toNat))]) (z := zeroOf Tryd.prog 9) (cs' := ([(a1v.extract a2v.toNat a0.toNat)] : List ByteArray).flatMap encS) hS32 (by kernel_rfl) (by kernel_rfl) (by kernel_rfl) (by kernel_rfl) (by kernel_rfl) (by decide) (by decide) (by kernel_rfl) rfl (Parts.cons (c := [.string (a1v.extract a2v.toNat a0.toNat)]) (by kernel_rfl) rfl Parts.nil) rfl ?_
    intro b37 w38 hS39
    have hS40 := hS39.pick4
    obtain ⟨g41, hp42⟩ := ite_some hp35
    refine r_append (c := (cd6 [0, 1, 1, 0])) (i := 3) (d := (some 21)) (ty := 22) (enc := encS) (e := 9) (u := 9) (t := 22) (t2 := 22) (sz := 1) (cp := ca3v) (A := Aa3v) (bytes := 16) (xs := a3v) (ys := ([(a1v.extract a2v.toNat a0.toNat)] : List ByteArray)) (s := (.tmp 18)) (x := (.tmp 20)) (xv := .slice (some ⟨b37, 0, none⟩) ([(a1v.extract a2v.toNat a0.toNat)] : List ByteArray).length 1) (info := infoOf Tryd.prog 9) (z := zeroOf Tryd.prog 9) (ycs := ([(a1v.extract a2v.toNat a0.toNat)] : List ByteArray).flatMap encS) hS40 (by kernel_rfl) (by kernel_rfl) (by kernel_rfl) (by kernel_rfl) (by kernel_rfl) (.inl (by kernel_rfl)) (by kernel_rfl) (by kernel_rfl) (by kernel_rfl) (by kernel_rfl) (by kernel_rfl) (by omega) len_encS one_encS (src_row (hS40.row 1 rfl) (by omega) len_encS) rfl g41 (by omega) ?_
    intro A43 c44 w45 hS46
    have hS48 := hS46.pick4
    refine r_store (c := (cd6 [0, 1, 1, 0])) (i := 4) (d := none) (ty := 0) (t := 22) (x := (.tmp 3)) (y := (.tmp 21)) (b := ba3) (o := 0) (e := 22) (cs := [.slice Aa3v a3v.length ca3v]) (v := .slice A43 (a3v ++ ([(a1v.extract a2v.toNat a0.toNat)] : List ByteArray)).length c44) (vs := [.slice A43 (a3v ++ ([(a1v.extract a2v.toNat a0.toNat)] : List ByteArray)).length c44]) (cs' := [.slice A43 (a3v ++ ([(a1v.extract a2v.toNat a0.toNat)] : List ByteArray)).length c44]) hS48 (by kernel_rfl) (by kernel_rfl) (by kernel_rfl) (by kernel_rfl) (by kernel_rfl) (by kernel_rfl) (by kernel_rfl) (Nat.le_of_ble_eq_true (by kernel_rfl)) (by kernel_rfl) ?_
    intro w49 hS50
    refine sx_run 1 (todo' := [.code (cd6 [1])]) (us := []) (by kernel_rfl) ?_
    have hS51 := hS50.pick2
    have hS52 := hS51.drop
    have hS53 := hS52.pick1
    have hS54 := hS53.pick1
    have hS55 := hS54.pick2
    have hS56 := hS55.pick3
    refine Runs.fill (m := [some (.int .i64 a0), none, some (.pointer (some ⟨ba2, 0, none⟩)), none, none, none, none, none, none, none, none, none, none, none, none, none, none, none, none, none, none, none, none]) (by kernel_rfl) ?_
    exact J17 (a3v ++ ([(a1v.extract a2v.toNat a0.toNat)] : List ByteArray)) (Option.some.inj hp42) _ A43 c44 _ hS56
   ·skip
    have hp57 := ite_f hp30 h34
    refine sx_run 4 (todo' := [.code (cd6 [1])]) (us := [(17, .bool false)]) (by kernel_rfl) ?_
    have hS58 := hS32.pick3
    have hS59 := hS58.pick3
    have hS60 := hS59.pick2
    have hS61 := hS60.pick3
    refine Runs.fill (m := [some (.int .i64 a0), none, some (.pointer (some ⟨ba2, 0, none⟩)), none, none, none, none, none, none, none, none, none, none, none, none, none, none, none, none, none, none, none, none]) (by kernel_rfl) ?_
    exact J17 a3v (Option.some.inj hp57) _ Aa3v ca3v _ hS61
  ·skip
   have hp62 := ite_t hv9 rfl
   refine sx_run 7 (todo' := [.inRegion (opsOf (cd6 [0, 1, 1, 0])) [0, 1, 2, 3, 4], .code (cd6 [1])]) (us := [(14, undef), (15, undef), (16, undef), (17, .bool true)]) (by kernel_rfl) ?_
   refine r_load (c := (cd6 [0, 1, 1, 0])) (i := 0) (d := (some 18)) (ty := 22) (t := 22) (x := (.tmp 3)) (p := ⟨ba3, 0, none⟩) (v := .slice Aa3v a3v.length ca3v) (by kernel_rfl) (by kernel_rfl) (by kernel_rfl) (loads_at 0 (hS7.blk 2 rfl) (by kernel_rfl) (by kernel_rfl)) ?_
   refine sx_run 1 (todo' := [.inRegion (opsOf (cd6 [0, 1, 1, 0])) [2, 3, 4], .code (cd6 [1])]) (us := [(19, .string (a1v.extract a2v.toNat a0.toNat))]) (by kernel_rfl) ?_
   refine r_lit (c := (cd6 [0, 1, 1, 0])) (i := 2) (d := (some 20)) (ty := 22) (t := 22) (e := 9) (sz := 1) (n := 1) (parts := #[(0, (.tmp 19))]) (vs := [(0, .string (a1v.extract a2v.toNat a0.toNat))]) (z := zeroOf Tryd.prog 9) (cs' := ([(a1v.extract a2v.toNat a0.toNat)] : List ByteArray).flatMap encS) hS7 (by kernel_rfl) (by kernel_rfl) (by kernel_rfl) (by kernel_rfl) (by kernel_rfl) (by decide) (by decide) (by kernel_rfl) rfl (Parts.cons (c := [.string (a1v.extract a2v.toNat a0.toNat)]) (by kernel_rfl) rfl Parts.nil) rfl ?_
   intro b64 w65 hS66
   have hS67 := hS66.pick4
   obtain ⟨g68, hp69⟩ := ite_some hp62
   refine r_append (c := (cd6 [0, 1, 1, 0])) (i := 3) (d := (some 21)) (ty := 22) (enc := encS) (e := 9) (u := 9) (t := 22) (t2 := 22) (sz := 1) (cp := ca3v) (A := Aa3v) (bytes := 16) (xs := a3v) (ys := ([(a1v.extract a2v.toNat a0.toNat)] : List ByteArray)) (s := (.tmp 18)) (x := (.tmp 20)) (xv := .slice (some ⟨b64, 0, none⟩) ([(a1v.extract a2v.toNat a0.toNat)] : List ByteArray).length 1) (info := infoOf Tryd.prog 9) (z := zeroOf Tryd.prog 9) (ycs := ([(a1v.extract a2v.toNat a0.toNat)] : List ByteArray).flatMap encS) hS67 (by kernel_rfl) (by kernel_rfl) (by kernel_rfl) (by kernel_rfl) (by kernel_rfl) (.inl (by kernel_rfl)) (by kernel_rfl) (by kernel_rfl) (by kernel_rfl) (by kernel_rfl) (by kernel_rfl) (by omega) len_encS one_encS (src_row (hS67.row 1 rfl) (by omega) len_encS) rfl g68 (by omega) ?_
   intro A70 c71 w72 hS73
   have hS75 := hS73.pick4
   refine r_store (c := (cd6 [0, 1, 1, 0])) (i := 4) (d := none) (ty := 0) (t := 22) (x := (.tmp 3)) (y := (.tmp 21)) (b := ba3) (o := 0) (e := 22) (cs := [.slice Aa3v a3v.length ca3v]) (v := .slice A70 (a3v ++ ([(a1v.extract a2v.toNat a0.toNat)] : List ByteArray)).length c71) (vs := [.slice A70 (a3v ++ ([(a1v.extract a2v.toNat a0.toNat)] : List ByteArray)).length c71]) (cs' := [.slice A70 (a3v ++ ([(a1v.extract a2v.toNat a0.toNat)] : List ByteArray)).length c71]) hS75 (by kernel_rfl) (by kernel_rfl) (by kernel_rfl) (by kernel_rfl) (by kernel_rfl) (by kernel_rfl) (by kernel_rfl) (Nat.le_of_ble_eq_true (by kernel_rfl)) (by kernel_rfl) ?_
   intro w76 hS77
   refine sx_run 1 (todo' := [.code (cd6 [1])]) (us := []) (by kernel_rfl) ?_
   have hS78 := hS77.pick2
   have hS79 := hS78.drop
   have hS80 := hS79.pick1
   have hS81 := hS80.pick1
   have hS82 := hS81.pick2
   have hS83 := hS82.pick3
   refine Runs.fill (m := [some (.int .i64 a0), none, some (.pointer (some ⟨ba2, 0, none⟩)), none, none, none, none, none, none, none, none, none, none, none, none, none, none, none, none, none, none, none, none]) (by kernel_rfl) ?_
   exact J17 (a3v ++ ([(a1v.extract a2v.toNat a0.toNat)] : List ByteArray)) (Option.some.inj hp69) _ A70 c71 _ hS83

noncomputable def cd9 (p : List Nat) : Code := sub (bodyOf Tryd.f9) p
def slices_Clip___string_string.f (a0 : List ByteArray) : Option (List ByteArray) :=
  (if 0 ≤ (a0.length : Int) ∧ (a0.length : Int) ≤ (a0.length : Int) ∧ (a0.length : Int) ≤ (a0.length : Int) then some ((a0.take ((a0.length : Int).toNat))) else none)
set_option maxHeartbeats 16000000 in
theorem slices_Clip___string_string.ok (a0 : List ByteArray) (Aa0 : Option Addr) (ca0 : Nat) {w0 : World} {Z : Zm} {fs : List XObj} {w : World} (hS0 : St w0 Z (fs) w) (ha0 : SlZ (flat encS) 1 Z Aa0 ca0 a0) {q0 : List ByteArray} (hp0 : slices_Clip___string_string.f a0 = some q0) :
    Calls Tryd.prog 9 #[.slice Aa0 a0.length ca0] w (fun e w' => ∃ (QA0 : Option Addr) (Qc0 : Nat), e = .returned (.slice QA0 q0.length Qc0) ∧ St w0 Z (fs) w' ∧ SlZ (flat encS) 1 Z QA0 Qc0 q0) := by
  refine calls_abs ?_; intro R hR
  unfold slices_Clip___string_string.f at hp0
  refine calls_of_runs (fn := Tryd.f9) (c := cd9 []) Tryd.func9 (by kernel_rfl) (al := [.slice Aa0 a0.length ca0]) rfl (n := 8) rfl ?_
  refine sx_run 11 (todo' := [.inRegion (opsOf (cd9 [1, 0])) [5, 6], .code (cd9 [1, 1])]) (us := [(2, .slice none 0 0), (3, .slice Aa0 a0.length ca0), (4, .slice Aa0 a0.length ca0), (5, .int .i64 (a0.length : Int)), (6, .slice Aa0 a0.length ca0), (7, .int .i64 (a0.length : Int))]) (by kernel_rfl) ?_
  obtain ⟨g1, hp2⟩ := ite_some hp0
  obtain ⟨A3, c4, hr5, hs6⟩ := cutSlM ha0 ((a0.length : Int).toNat) ((a0.length : Int).toNat) (by omega) (by omega)
  refine r_val (c := (cd9 [1, 0])) (i := 5) (d := (some 8)) (ty := 22) (op := .slice 22 (.tmp 3) none (some (.tmp 5)) (some (.tmp 7))) (v := .slice A3 (a0.take ((a0.length : Int).toNat)).length c4) (by kernel_rfl) (by kernel_rfl) (fun o ho _ => x_cutSl_nss (e := 9) (sz := 1) (A := Aa0) (n := a0.length) (c := ca0) (k := .i64) (k' := .i64) (by kernel_rfl) (by kernel_rfl) (by kernel_rfl) (by kernel_rfl) (by kernel_rfl) g1 ha0.cap hr5 ho) ?_
  refine sx_run 2 (todo' := [.code (cd9 [1, 1])]) (us := [(2, .slice A3 (a0.take ((a0.length : Int).toNat)).length c4)]) (by kernel_rfl) ?_
  refine runs_ret (fn := Tryd.f9) (v := .slice A3 (a0.take ((a0.length : Int).toNat)).length c4) Tryd.func9 (by kernel_rfl) ?_
  have hr8 := (Option.some.inj hp2)
  cases hr8
  exact hR _ _ ⟨A3, c4, rfl, hS0, hs6⟩

noncomputable def cd4 (p : List Nat) : Code := sub (bodyOf Tryd.f4) p
def litmus_Split.l0 (a0 : ByteArray) (t58 : Int) (t59 : List ByteArray) (t63 : Int) : Option ((List ByteArray) × Int) :=
  (if (decide (t58 < (a0.size : Int))) = true then (litmus_begins.f a0 t58 >>= (fun t76 => (if t76 = true then (litmus_Split_1.f t58 a0 t63 t59 >>= (fun (t83, t84) => (litmus_Split.l0 a0 (IntKind.i64.wrap (t58 + 1)) t84 t83))) else (litmus_Split.l0 a0 (IntKind.i64.wrap (t58 + 1)) t59 t63)))) else some ((t59, t63)))
 partial_fixpoint
def litmus_Split.f (a0 : ByteArray) : Option (List ByteArray) :=
  (litmus_Split.l0 a0 1 [] 0 >>= (fun (t18, t22) => (litmus_Split_1.f (a0.size : Int) a0 t22 t18 >>= (fun (t28, t29) => (slices_Clip___string_string.f t29 >>= (fun t41 => some (t41)))))))
set_option maxHeartbeats 16000000 in
theorem litmus_Split.ok (a0 : ByteArray) {w0 : World} {Z : Zm} {fs : List XObj} {w : World} (hS0 : St w0 Z (fs) w) (hE : Env Z) {q0 : List ByteArray} (hp0 : litmus_Split.f a0 = some q0) :
    Calls Tryd.prog 4 #[.string a0] w (fun e w' => ∃ (QA0 : Option Addr) (Qc0 : Nat) (Z' : Zm), Zm.Le Z Z' ∧ e = .returned (.slice QA0 q0.length Qc0) ∧ St w0 Z' (fs) w' ∧ SlZ (flat encS) 1 Z' QA0 Qc0 q0) := by
  refine calls_abs ?_; intro R hR
  unfold litmus_Split.f at hp0
  refine calls_of_runs (fn := Tryd.f4) (c := cd4 []) Tryd.func4 (by kernel_rfl) (al := [.string a0]) rfl (n := 25) rfl ?_
  refine sx_run 2 (todo' := [.inRegion (opsOf (cd4 [0])) [0, 1], .code (cd4 [1])]) (us := []) (by kernel_rfl) ?_
  refine r_box (c := (cd4 [0])) (i := 0) (d := (some 1)) (ty := 0) (x := (.tmp 0)) (v := .string a0) (t := 9) (cs := [.string a0]) hS0 (by kernel_rfl) (by kernel_rfl) (by kernel_rfl) (by kernel_rfl) ?_
  intro b1 w2 hS3
  refine sx_run 4 (todo' := [.inRegion (opsOf (cd4 [1, 0])) [0], .code (cd4 [1, 1])]) (us := [(2, .slice none 0 0)]) (by kernel_rfl) ?_
  refine r_alloc (c := (cd4 [1, 0])) (i := 0) (d := (some 3)) (ty := 0) (z := .slice none 0 0) (t := 22) (cs := [.slice none 0 0]) hS3 (by kernel_rfl) (by kernel_rfl) (by kernel_rfl) (by kernel_rfl) ?_
  intro b5 w6 hS7
  refine sx_run 3 (todo' := [.inRegion (opsOf (cd4 [1, 1, 0])) [0, 1], .code (cd4 [1, 1, 1])]) (us := []) (by kernel_rfl) ?_
  refine r_alloc (c := (cd4 [1, 1, 0])) (i := 0) (d := (some 4)) (ty := 0) (z := .int .i64 0) (t := 3) (cs := [.int .i64 0]) hS7 (by kernel_rfl) (by kernel_rfl) (by kernel_rfl) (by kernel_rfl) ?_
  intro b9 w10 hS11
  refine r_store (c := (cd4 [1, 1, 0])) (i := 1) (d := none) (ty := 0) (t := 3) (x := (.tmp 4)) (y := (.const (.int .i64 0))) (b := b9) (o := 0) (e := 3) (cs := [.int .i64 0]) (v := .int .i64 0) (vs := [.int .i64 0]) (cs' := [.int .i64 0]) hS11 (by kernel_rfl) (by kernel_rfl) (by kernel_rfl) (by kernel_rfl) (by kernel_rfl) (by kernel_rfl) (by kernel_rfl) (Nat.le_of_ble_eq_true (by kernel_rfl)) (by kernel_rfl) ?_
  intro w13 hS14
  refine sx_run 13 (todo' := [.code (cd4 [1, 1, 1, 1, 0, 1, 0, 0]), .inLoop (cd4 [1, 1, 1, 1, 0, 1, 0, 0]), .inBlock 0, .code (cd4 [1, 1, 1, 1, 1])]) (us := [(7, .func (.func 6) #[] #[.pointer (some ⟨b1, 0, none⟩), .pointer (some ⟨b9, 0, none⟩), .pointer (some ⟨b5, 0, none⟩)]), (5, .func (.func 6) #[] #[.pointer (some ⟨b1, 0, none⟩), .pointer (some ⟨b9, 0, none⟩), .pointer (some ⟨b5, 0, none⟩)]), (6, .int .i64 1)]) (by kernel_rfl) ?_
  obtain ⟨v15, hv16, hp17⟩ := bind_some' hp0
  have J25 : ∀ (t18 : List ByteArray) (t22 : Int) (he27 : (t18, t22) = v15) (l26 : List Value) (A19 : Option Addr) (c20 : Nat) (w23 : World) (hS24 : St w0 Z (xblk b1 9 ([.string a0]) :: xblk b5 22 ([.slice A19 t18.length c20]) :: xrow A19 c20 9 1 (t18.flatMap encS) :: xblk b9 3 ([.int .i64 t22]) :: fs) w23), Runs Tryd.prog 4 [.code (cd4 [1, 1, 1, 1, 1])] (fill [none, some (.pointer (some ⟨b1, 0, none⟩)), none, some (.pointer (some ⟨b5, 0, none⟩)), none, some (.func (.func 6) #[] #[.pointer (some ⟨b1, 0, none⟩), .pointer (some ⟨b9, 0, none⟩), .pointer (some ⟨b5, 0, none⟩)]), none, none, none, none, none, none, none, none, none, none, none, none, none, none, none, none, none, none, none, none] l26) w23 R := by
   intro t18 t22 he27 l26 A19 c20 w23 hS24
   subst he27
   try dsimp only at hp17
   refine sx_run 3 (todo' := [.inRegion (opsOf (cd4 [1, 1, 1, 1, 1, 0])) [1, 2, 3], .code (cd4 [1, 1, 1, 1, 1, 1])]) (us := [(20, .func (.func 6) #[] #[.pointer (some ⟨b1, 0, none⟩), .pointer (some ⟨b9, 0, none⟩), .pointer (some ⟨b5, 0, none⟩)])]) (by kernel_rfl) ?_
   refine r_load (c := (cd4 [1, 1, 1, 1, 1, 0])) (i := 1) (d := (some 21)) (ty := 9) (t := 9) (x := (.tmp 1)) (p := ⟨b1, 0, none⟩) (v := .string a0) (by kernel_rfl) (by kernel_rfl) (by kernel_rfl) (loads_at 0 (hS24.blk 0 rfl) (by kernel_rfl) (by kernel_rfl)) ?_
   refine sx_run 1 (todo' := [.inRegion (opsOf (cd4 [1, 1, 1, 1, 1, 0])) [3], .code (cd4 [1, 1, 1, 1, 1, 1])]) (us := [(22, .int .i64 (a0.size : Int))]) (by kernel_rfl) ?_
   obtain ⟨⟨t28, t29⟩, hr32, hp33⟩ := bind_some' hp17
   try dsimp only at hp33
   have hS35 := hS24.pick2
   have hS36 := hS35.pick2
   have hS37 := hS36.pick3
   have hS38 := hS37.pick3
   refine r_call1 (c := (cd4 [1, 1, 1, 1, 1, 0])) (i := 3) (d := (some 23)) (g := 6) (args := #[.int .i64 (a0.size : Int), .pointer (some ⟨b1, 0, none⟩), .pointer (some ⟨b9, 0, none⟩), .pointer (some ⟨b5, 0, none⟩)]) (by kernel_rfl) (by kernel_rfl) (by kernel_rfl) (by kernel_rfl) (litmus_Split_1.ok (a0.size : Int) a0 t22 t18 b1 b9 b5 A19 c20 hS38 hE hr32) ?_
   rintro _ w39 ⟨Q30, Q31, rfl, hS40⟩
   refine ⟨.tuple #[], rfl, ?_⟩
   refine sx_run 3 (todo' := [.inRegion (opsOf (cd4 [1, 1, 1, 1, 1, 1, 0])) [0, 1, 2], .code (cd4 [1, 1, 1, 1, 1, 1, 1])]) (us := []) (by kernel_rfl) ?_
   refine r_load (c := (cd4 [1, 1, 1, 1, 1, 1, 0])) (i := 0) (d := (some 24)) (ty := 22) (t := 22) (x := (.tmp 3)) (p := ⟨b5, 0, none⟩) (v := .slice Q30 t29.length Q31) (by kernel_rfl) (by kernel_rfl) (by kernel_rfl) (loads_at 0 (hS40.blk 3 rfl) (by kernel_rfl) (by kernel_rfl)) ?_
   obtain ⟨t41, hr44, hp45⟩ := bind_some' hp33
   obtain ⟨Z47, hz48, hS49, hs50, -⟩ := hS40.lendrow len_encS (by omega)
   refine r_call1 (c := (cd4 [1, 1, 1, 1, 1, 1, 0])) (i := 1) (d := (some 25)) (g := 9) (args := #[.slice Q30 t29.length Q31]) (by kernel_rfl) (by kernel_rfl) (by kernel_rfl) (by kernel_rfl) (slices_Clip___string_string.ok t29 Q30 Q31 hS49 hs50 hr44) ?_
   rintro _ w51 ⟨Q42, Q43, rfl, hS52, hs53⟩
   refine ⟨.slice Q42 t41.length Q43, rfl, ?_⟩
   refine sx_run 2 (todo' := [.code (cd4 [1, 1, 1, 1, 1, 1, 1])]) (us := [(2, .slice Q42 t41.length Q43)]) (by kernel_rfl) ?_
   have hS54 := hS52.drop
   have hS55 := hS54.drop
   have hS56 := hS55.drop
   refine runs_ret (fn := Tryd.f4) (v := .slice Q42 t41.length Q43) Tryd.func4 (by kernel_rfl) ?_
   have hr57 := (Option.some.inj hp45)
   cases hr57
   exact hR _ _ ⟨Q42, Q43, Z47, hz48, rfl, hS56, hs53⟩
  have L72 : ∀ (t58 : Int) (t59 : List ByteArray) (t63 : Int) (e67 : ((List ByteArray) × Int)), litmus_Split.l0 a0 t58 t59 t63 = some e67 → e67 = v15 → ∀ (l66 : List Value) (A60 : Option Addr) (c61 : Nat) (w64 : World) (hS65 : St w0 Z (xblk b1 9 ([.string a0]) :: xblk b5 22 ([.slice A60 t59.length c61]) :: xrow A60 c61 9 1 (t59.flatMap encS) :: xblk b9 3 ([.int .i64 t63]) :: fs) w64), Runs Tryd.prog 4 [.code (cd4 [1, 1, 1, 1, 0, 1, 0, 0]), .inLoop (cd4 [1, 1, 1, 1, 0, 1, 0, 0]), .inBlock 0, .code (cd4 [1, 1, 1, 1, 1])] (fill [none, some (.pointer (some ⟨b1, 0, none⟩)), none, some (.pointer (some ⟨b5, 0, none⟩)), none, some (.func (.func 6) #[] #[.pointer (some ⟨b1, 0, none⟩), .pointer (some ⟨b9, 0, none⟩), .pointer (some ⟨b5, 0, none⟩)]), some (.int .i64 t58), none, none, none, none, none, none, none, none, none, none, none, none, none, none, none, none, none, none, none] l66) w64 R := by
   refine litmus_Split.l0.partial_correctness a0 (fun t58 t59 t63 e67 => e67 = v15 → ∀ (l66 : List Value) (A60 : Option Addr) (c61 : Nat) (w64 : World) (hS65 : St w0 Z (xblk b1 9 ([.string a0]) :: xblk b5 22 ([.slice A60 t59.length c61]) :: xrow A60 c61 9 1 (t59.flatMap encS) :: xblk b9 3 ([.int .i64 t63]) :: fs) w64), Runs Tryd.prog 4 [.code (cd4 [1, 1, 1, 1, 0, 1, 0, 0]), .inLoop (cd4 [1, 1, 1, 1, 0, 1, 0, 0]), .inBlock 0, .code (cd4 [1, 1, 1, 1, 1])] (fill [none, some (.pointer (some ⟨b1, 0, none⟩)), none, some (.pointer (some ⟨b5, 0, none⟩)), none, some (.func (.func 6) #[] #[.pointer (some ⟨b1, 0, none⟩), .pointer (some ⟨b9, 0, none⟩), .pointer (some ⟨b5, 0, none⟩)]), some (.int .i64 t58), none, none, none, none, none, none, none, none, none, none, none, none, none, none, none, none, none, none, none] l66) w64 R) ?_
   intro rec71 ih70 t58 t59 t63 e67 hb69 he68 l66 A60 c61 w64 hS65
   refine sx_run 4 (todo' := [.inRegion (opsOf (cd4 [1, 1, 1, 1, 0, 1, 0, 0, 0, 0])) [1, 2, 3], .code (cd4 [1, 1, 1, 1, 0, 1, 0, 0, 0, 1]), .code (cd4 [1, 1, 1, 1, 0, 1, 0, 0, 1]), .inLoop (cd4 [1, 1, 1, 1, 0, 1, 0, 0]), .inBlock 0, .code (cd4 [1, 1, 1, 1, 1])]) (us := [(8, .int .i64 t58)]) (by kernel_rfl) ?_
   refine r_load (c := (cd4 [1, 1, 1, 1, 0, 1, 0, 0, 0, 0])) (i := 1) (d := (some 9)) (ty := 9) (t := 9) (x := (.tmp 1)) (p := ⟨b1, 0, none⟩) (v := .string a0) (by kernel_rfl) (by kernel_rfl) (by kernel_rfl) (loads_at 0 (hS65.blk 0 rfl) (by kernel_rfl) (by kernel_rfl)) ?_
   refine sx_split 2 (todo' := [.inRegion (opsOf (cd4 [1, 1, 1, 1, 0, 1, 0, 0, 0, 0])) [], .code (cd4 [1, 1, 1, 1, 0, 1, 0, 0, 0, 1]), .code (cd4 [1, 1, 1, 1, 0, 1, 0, 0, 1]), .inLoop (cd4 [1, 1, 1, 1, 0, 1, 0, 0]), .inBlock 0, .code (cd4 [1, 1, 1, 1, 1])]) (us := [(10, .int .i64 (a0.size : Int))]) (d := 11) (t := (decide (t58 < (a0.size : Int)))) (by kernel_rfl) (fun h73 => ?_) (fun h74 => ?_)
   ·skip
    have hp75 := ite_t hb69 h73
    refine sx_run 7 (todo' := [.inRegion (opsOf (cd4 [1, 1, 1, 1, 0, 1, 0, 0, 1, 0, 0, 0])) [0, 1, 2], .code (cd4 [1, 1, 1, 1, 0, 1, 0, 0, 1, 0, 0, 1]), .inBlock 1, .code (cd4 [1, 1, 1, 1, 0, 1, 0, 0, 1, 1]), .inLoop (cd4 [1, 1, 1, 1, 0, 1, 0, 0]), .inBlock 0, .code (cd4 [1, 1, 1, 1, 1])]) (us := []) (by kernel_rfl) ?_
    refine r_load (c := (cd4 [1, 1, 1, 1, 0, 1, 0, 0, 1, 0, 0, 0])) (i := 0) (d := (some 14)) (ty := 9) (t := 9) (x := (.tmp 1)) (p := ⟨b1, 0, none⟩) (v := .string a0) (by kernel_rfl) (by kernel_rfl) (by kernel_rfl) (loads_at 0 (hS65.blk 0 rfl) (by kernel_rfl) (by kernel_rfl)) ?_
    refine sx_run 1 (todo' := [.inRegion (opsOf (cd4 [1, 1, 1, 1, 0, 1, 0, 0, 1, 0, 0, 0])) [2], .code (cd4 [1, 1, 1, 1, 0, 1, 0, 0, 1, 0, 0, 1]), .inBlock 1, .code (cd4 [1, 1, 1, 1, 0, 1, 0, 0, 1, 1]), .inLoop (cd4 [1, 1, 1, 1, 0, 1, 0, 0]), .inBlock 0, .code (cd4 [1, 1, 1, 1, 1])]) (us := [(15, .int .i64 t58)]) (by kernel_rfl) ?_
    obtain ⟨t76, hr77, hp78⟩ := bind_some' hp75
    refine r_call1 (c := (cd4 [1, 1, 1, 1, 0, 1, 0, 0, 1, 0, 0, 0])) (i := 2) (d := (some 16)) (g := 7) (args := #[.string a0, .int .i64 t58]) (by kernel_rfl) (by kernel_rfl) (by kernel_rfl) (by kernel_rfl) (litmus_begins.ok a0 t58 hS65 hr77) ?_
    rintro _ w79 ⟨rfl, hS80⟩
    refine ⟨.bool t76, rfl, ?_⟩
    refine sx_run 1 (todo' := [.code (cd4 [1, 1, 1, 1, 0, 1, 0, 0, 1, 0, 0, 1]), .inBlock 1, .code (cd4 [1, 1, 1, 1, 0, 1, 0, 0, 1, 1]), .inLoop (cd4 [1, 1, 1, 1, 0, 1, 0, 0]), .inBlock 0, .code (cd4 [1, 1, 1, 1, 1])]) (us := []) (by kernel_rfl) ?_
    cases t76
    ·skip
     have hp81 := ite_f hp78 rfl
     refine sx_run 8 (todo' := [.inLoop (cd4 [1, 1, 1, 1, 0, 1, 0, 0]), .inBlock 0, .code (cd4 [1, 1, 1, 1, 1])]) (us := [(12, .int .i64 t58), (13, .int .i64 (IntKind.i64.wrap (t58 + 1))), (6, .int .i64 (IntKind.i64.wrap (t58 + 1)))]) (by kernel_rfl) ?_
     refine sx_run 1 (todo' := [.code (cd4 [1, 1, 1, 1, 0, 1, 0, 0]), .inLoop (cd4 [1, 1, 1, 1, 0, 1, 0, 0]), .inBlock 0, .code (cd4 [1, 1, 1, 1, 1])]) (us := []) (by kernel_rfl) ?_
     refine Runs.fill (m := [none, some (.pointer (some ⟨b1, 0, none⟩)), none, some (.pointer (some ⟨b5, 0, none⟩)), none, some (.func (.func 6) #[] #[.pointer (some ⟨b1, 0, none⟩), .pointer (some ⟨b9, 0, none⟩), .pointer (some ⟨b5, 0, none⟩)]), some (.int .i64 (IntKind.i64.wrap (t58 + 1))), none, none, none, none, none, none, none, none, none, none, none, none, none, none, none, none, none, none, none]) (by kernel_rfl) ?_
     exact ih70 (IntKind.i64.wrap (t58 + 1)) t59 t63 _ hp81 he68 _ A60 c61 _ hS80
    ·skip
     have hp82 := ite_t hp78 rfl
     refine sx_run 4 (todo' := [.inRegion (opsOf (cd4 [1, 1, 1, 1, 0, 1, 0, 0, 1, 0, 0, 1, 0])) [2], .inBlock 1, .code (cd4 [1, 1, 1, 1, 0, 1, 0, 0, 1, 1]), .inLoop (cd4 [1, 1, 1, 1, 0, 1, 0, 0]), .inBlock 0, .code (cd4 [1, 1, 1, 1, 1])]) (us := [(17, .func (.func 6) #[] #[.pointer (some ⟨b1, 0, none⟩), .pointer (some ⟨b9, 0, none⟩), .pointer (some ⟨b5, 0, none⟩)]), (18, .int .i64 t58)]) (by kernel_rfl) ?_
     obtain ⟨⟨t83, t84⟩, hr87, hp88⟩ := bind_some' hp82
     try dsimp only at hp88
     have hS90 := hS80.pick2
     have hS91 := hS90.pick2
     have hS92 := hS91.pick3
     have hS93 := hS92.pick3
     refine r_call1 (c := (cd4 [1, 1, 1, 1, 0, 1, 0, 0, 1, 0, 0, 1, 0])) (i := 2) (d := (some 19)) (g := 6) (args := #[.int .i64 t58, .pointer (some ⟨b1, 0, none⟩), .pointer (some ⟨b9, 0, none⟩), .pointer (some ⟨b5, 0, none⟩)]) (by kernel_rfl) (by kernel_rfl) (by kernel_rfl) (by kernel_rfl) (litmus_Split_1.ok t58 a0 t63 t59 b1 b9 b5 A60 c61 hS93 hE hr87) ?_
     rintro _ w94 ⟨Q85, Q86, rfl, hS95⟩
     refine ⟨.tuple #[], rfl, ?_⟩
     refine sx_run 7 (todo' := [.inLoop (cd4 [1, 1, 1, 1, 0, 1, 0, 0]), .inBlock 0, .code (cd4 [1, 1, 1, 1, 1])]) (us := [(12, .int .i64 t58), (13, .int .i64 (IntKind.i64.wrap (t58 + 1))), (6, .int .i64 (IntKind.i64.wrap (t58 + 1)))]) (by kernel_rfl) ?_
     have hS96 := hS95.pick2
     have hS97 := hS96.pick1
     have hS98 := hS97.pick3
     have hS99 := hS98.pick3
     refine sx_run 1 (todo' := [.code (cd4 [1, 1, 1, 1, 0, 1, 0, 0]), .inLoop (cd4 [1, 1, 1, 1, 0, 1, 0, 0]), .inBlock 0, .code (cd4 [1, 1, 1, 1, 1])]) (us := []) (by kernel_rfl) ?_
     refine Runs.fill (m := [none, some (.pointer (some ⟨b1, 0, none⟩)), none, some (.pointer (some ⟨b5, 0, none⟩)), none, some (.func (.func 6) #[] #[.pointer (some ⟨b1, 0, none⟩), .pointer (some ⟨b9, 0, none⟩), .pointer (some ⟨b5, 0, none⟩)]), some (.int .i64 (IntKind.i64.wrap (t58 + 1))), none, none, none, none, none, none, none, none, none, none, none, none, none, none, none, none, none, none, none]) (by kernel_rfl) ?_
     exact ih70 (IntKind.i64.wrap (t58 + 1)) t84 t83 _ hp88 he68 _ Q85 Q86 _ hS99
   ·skip
    have hp100 := ite_f hb69 h74
    refine sx_run 3 (todo' := [.code (cd4 [1, 1, 1, 1, 1])]) (us := []) (by kernel_rfl) ?_
    refine Runs.fill (m := [none, some (.pointer (some ⟨b1, 0, none⟩)), none, some (.pointer (some ⟨b5, 0, none⟩)), none, some (.func (.func 6) #[] #[.pointer (some ⟨b1, 0, none⟩), .pointer (some ⟨b9, 0, none⟩), .pointer (some ⟨b5, 0, none⟩)]), none, none, none, none, none, none, none, none, none, none, none, none, none, none, none, none, none, none, none, none]) (by kernel_rfl) ?_
    exact J25 t59 t63 ((Option.some.inj hp100).trans he68) _ A60 c61 _ hS65
  have hS102 := hS14.nilrow none 9 1
  have hS103 := hS102.pick1
  have hS104 := hS103.pick1
  have hS105 := hS104.pick2
  have hS106 := hS105.pick3
  refine Runs.fill (m := [none, some (.pointer (some ⟨b1, 0, none⟩)), none, some (.pointer (some ⟨b5, 0, none⟩)), none, some (.func (.func 6) #[] #[.pointer (some ⟨b1, 0, none⟩), .pointer (some ⟨b9, 0, none⟩), .pointer (some ⟨b5, 0, none⟩)]), some (.int .i64 1), none, none, none, none, none, none, none, none, none, none, none, none, none, none, none, none, none, none, none]) (by kernel_rfl) ?_
  exact L72 1 [] 0 _ hv16 rfl _ none 0 _ hS106

noncomputable def cd10 (p : List Nat) : Code := sub (bodyOf Tryd.f10) p
def weirref07_first.f (a0 : ByteArray) : Option Bool :=
  (if (decide ((a0.size : Int) ≥ 4)) = true then (if 0 ≤ (3 : Int) ∧ (3 : Int) ≤ (a0.size : Int) then (if (seq (a0.extract 0 (3 : Int).toNat) (⟨#[88, 56, 54]⟩ : ByteArray)) = true then (if 0 ≤ (3 : Int) ∧ (3 : Int) < (a0.size : Int) then (if ((byt a0 (3 : Int)) == 32) = true then some (true) else (if 0 ≤ (3 : Int) ∧ (3 : Int) < (a0.size : Int) then (if ((byt a0 (3 : Int)) == 9) = true then some (true) else some (false)) else none)) else none) else some (false)) else none) else some (false))
set_option maxHeartbeats 16000000 in
theorem weirref07_first.ok (a0 : ByteArray) {w0 : World} {Z : Zm} {fs : List XObj} {w : World} (hS0 : St w0 Z (fs) w) {q0 : Bool} (hp0 : weirref07_first.f a0 = some q0) :
    Calls Tryd.prog 10 #[.string a0] w (fun e w' => e = .returned (.bool q0) ∧ St w0 Z (fs) w') := by
  refine calls_abs ?_; intro R hR
  unfold weirref07_first.f at hp0
  refine calls_of_runs (fn := Tryd.f10) (c := cd10 []) Tryd.func10 (by kernel_rfl) (al := [.string a0]) rfl (n := 20) rfl ?_
  refine sx_split 9 (todo' := [.inRegion (opsOf (cd10 [1, 0])) [3, 4, 5, 6, 7, 8, 9, 10, 11, 12, 13, 14, 15, 16, 17, 18], .code (cd10 [1, 1])]) (us := [(2, .bool false), (3, .string a0), (4, .int .i64 (a0.size : Int))]) (d := 5) (t := (decide ((a0.size : Int) ≥ 4))) (by kernel_rfl) (fun h1 => ?_) (fun h2 => ?_)
  ·skip
   have hp3 := ite_t hp0 h1
   refine sx_run 2 (todo' := [.inRegion (opsOf (cd10 [1, 0])) [5, 6, 7, 8, 9, 10, 11, 12, 13, 14, 15, 16, 17, 18], .code (cd10 [1, 1])]) (us := [(6, .bool true), (7, .string a0)]) (by kernel_rfl) ?_
   obtain ⟨g4, hp5⟩ := ite_some hp3
   refine r_val (c := (cd10 [1, 0])) (i := 5) (d := (some 8)) (ty := 9) (op := .slice 9 (.tmp 7) none (some (.const (.int .i64 3))) none) (v := .string (a0.extract 0 (3 : Int).toNat)) (by kernel_rfl) (by kernel_rfl) (fun o ho _ => x_cutStr_ns (k := .i64) (by kernel_rfl) (by kernel_rfl) (by kernel_rfl) g4 ho) ?_
   refine sx_split 1 (todo' := [.inRegion (opsOf (cd10 [1, 0])) [7, 8, 9, 10, 11, 12, 13, 14, 15, 16, 17, 18], .code (cd10 [1, 1])]) (us := []) (d := 9) (t := (seq (a0.extract 0 (3 : Int).toNat) (⟨#[88, 56, 54]⟩ : ByteArray))) (by kernel_rfl) (fun h6 => ?_) (fun h7 => ?_)
   ·skip
    have hp8 := ite_t hp5 h6
    refine sx_run 3 (todo' := [.inRegion (opsOf (cd10 [1, 0])) [10, 11, 12, 13, 14, 15, 16, 17, 18], .code (cd10 [1, 1])]) (us := [(10, .bool true), (11, .bool true), (12, .string a0)]) (by kernel_rfl) ?_
    obtain ⟨g9, hp10⟩ := ite_some hp8
    refine r_val (c := (cd10 [1, 0])) (i := 10) (d := (some 13)) (ty := 5) (op := .index 9 (.tmp 12) (.const (.int .i64 3))) (v := .int .u8 (byt a0 (3 : Int))) (by kernel_rfl) (by kernel_rfl) (fun o ho _ => x_indexStr (kk := .i64) (by kernel_rfl) (by kernel_rfl) (by kernel_rfl) g9.1 g9.2 ho) ?_
    refine sx_split 1 (todo' := [.inRegion (opsOf (cd10 [1, 0])) [12, 13, 14, 15, 16, 17, 18], .code (cd10 [1, 1])]) (us := []) (d := 14) (t := ((byt a0 (3 : Int)) == 32)) (by kernel_rfl) (fun h11 => ?_) (fun h12 => ?_)
    ·skip
     have hp13 := ite_t hp10 h11
     refine sx_run 8 (todo' := [.code (cd10 [1, 1])]) (us := [(15, .bool true), (16, undef), (17, undef), (18, undef), (19, .bool true), (20, .bool true), (2, .bool true)]) (by kernel_rfl) ?_
     refine runs_ret (fn := Tryd.f10) (v := .bool true) Tryd.func10 (by kernel_rfl) ?_
     have hr14 := (Option.some.inj hp13)
     cases hr14
     exact hR _ _ ⟨rfl, hS0⟩
    ·skip
     have hp15 := ite_f hp10 h12
     refine sx_run 2 (todo' := [.inRegion (opsOf (cd10 [1, 0])) [14, 15, 16, 17, 18], .code (cd10 [1, 1])]) (us := [(15, .bool false), (16, .string a0)]) (by kernel_rfl) ?_
     obtain ⟨g16, hp17⟩ := ite_some hp15
     refine r_val (c := (cd10 [1, 0])) (i := 14) (d := (some 17)) (ty := 5) (op := .index 9 (.tmp 16) (.const (.int .i64 3))) (v := .int .u8 (byt a0 (3 : Int))) (by kernel_rfl) (by kernel_rfl) (fun o ho _ => x_indexStr (kk := .i64) (by kernel_rfl) (by kernel_rfl) (by kernel_rfl) g16.1 g16.2 ho) ?_
     refine sx_split 1 (todo' := [.inRegion (opsOf (cd10 [1, 0])) [16, 17, 18], .code (cd10 [1, 1])]) (us := []) (d := 18) (t := ((byt a0 (3 : Int)) == 9)) (by kernel_rfl) (fun h18 => ?_) (fun h19 => ?_)
     ·skip
      have hp20 := ite_t hp17 h18
      refine sx_run 4 (todo' := [.code (cd10 [1, 1])]) (us := [(19, .bool true), (20, .bool true), (2, .bool true)]) (by kernel_rfl) ?_
      refine runs_ret (fn := Tryd.f10) (v := .bool true) Tryd.func10 (by kernel_rfl) ?_
      have hr21 := (Option.some.inj hp20)
      cases hr21
      exact hR _ _ ⟨rfl, hS0⟩
     ·skip
      have hp22 := ite_f hp17 h19
      refine sx_run 4 (todo' := [.code (cd10 [1, 1])]) (us := [(19, .bool false), (20, .bool false), (2, .bool false)]) (by kernel_rfl) ?_
      refine runs_ret (fn := Tryd.f10) (v := .bool false) Tryd.func10 (by kernel_rfl) ?_
      have hr23 := (Option.some.inj hp22)
      cases hr23
      exact hR _ _ ⟨rfl, hS0⟩
   ·skip
    have hp24 := ite_f hp5 h7
    refine sx_run 13 (todo' := [.code (cd10 [1, 1])]) (us := [(10, .bool false), (11, .bool false), (12, undef), (13, undef), (14, undef), (15, undef), (16, undef), (17, undef), (18, undef), (19, undef), (20, .bool false), (2, .bool false)]) (by kernel_rfl) ?_
    refine runs_ret (fn := Tryd.f10) (v := .bool false) Tryd.func10 (by kernel_rfl) ?_
    have hr25 := (Option.some.inj hp24)
    cases hr25
    exact hR _ _ ⟨rfl, hS0⟩
  ·skip
   have hp26 := ite_f hp0 h2
   refine sx_run 17 (todo' := [.code (cd10 [1, 1])]) (us := [(6, .bool false), (7, undef), (8, undef), (9, undef), (10, .bool false), (11, .bool false), (12, undef), (13, undef), (14, undef), (15, undef), (16, undef), (17, undef), (18, undef), (19, undef), (20, .bool false), (2, .bool false)]) (by kernel_rfl) ?_
   refine runs_ret (fn := Tryd.f10) (v := .bool false) Tryd.func10 (by kernel_rfl) ?_
   have hr27 := (Option.some.inj hp26)
   cases hr27
   exact hR _ _ ⟨rfl, hS0⟩

noncomputable def cd11 (p : List Nat) : Code := sub (bodyOf Tryd.f11) p
def weirref07_empty.l0 (a0 : ByteArray) (t11 : Int) : Option (Sum Unit Bool) :=
  (if (decide (t11 < (a0.size : Int))) = true then (if 0 ≤ t11 ∧ t11 < (a0.size : Int) then (if ((byt a0 t11) != 32) = true then (if 0 ≤ t11 ∧ t11 < (a0.size : Int) then (if ((byt a0 t11) != 9) = true then (if 0 ≤ t11 ∧ t11 < (a0.size : Int) then (if ((byt a0 t11) != 10) = true then (if 0 ≤ t11 ∧ t11 < (a0.size : Int) then (if ((byt a0 t11) != 13) = true then some (.inr (false)) else (weirref07_empty.l0 a0 (IntKind.i64.wrap (t11 + 1)))) else none) else (weirref07_empty.l0 a0 (IntKind.i64.wrap (t11 + 1)))) else none) else (weirref07_empty.l0 a0 (IntKind.i64.wrap (t11 + 1)))) else none) else (weirref07_empty.l0 a0 (IntKind.i64.wrap (t11 + 1)))) else none) else some (.inl ()))
 partial_fixpoint
def weirref07_empty.f (a0 : ByteArray) : Option Bool :=
  (weirref07_empty.l0 a0 0 >>= (fun | .inl () => some (true) | .inr e => some e))
set_option maxHeartbeats 16000000 in
theorem weirref07_empty.ok (a0 : ByteArray) {w0 : World} {Z : Zm} {fs : List XObj} {w : World} (hS0 : St w0 Z (fs) w) {q0 : Bool} (hp0 : weirref07_empty.f a0 = some q0) :
    Calls Tryd.prog 11 #[.string a0] w (fun e w' => e = .returned (.bool q0) ∧ St w0 Z (fs) w') := by
  refine calls_abs ?_; intro R hR
  unfold weirref07_empty.f at hp0
  refine calls_of_runs (fn := Tryd.f11) (c := cd11 []) Tryd.func11 (by kernel_rfl) (al := [.string a0]) rfl (n := 31) rfl ?_
  refine sx_run 11 (todo' := [.code (cd11 [1, 0, 1, 0, 0]), .inLoop (cd11 [1, 0, 1, 0, 0]), .inBlock 0, .code (cd11 [1, 1])]) (us := [(2, .bool false), (3, .int .i64 0)]) (by kernel_rfl) ?_
  obtain ⟨v1, hv2, hp3⟩ := bind_some' hp0
  have hq6 : ∀ x, Sum.inr x = v1 → x = q0 := by intro x hx; subst hx; simpa using hp3
  have J7 : ∀ (he9 : Sum.inl () = v1) (l8 : List Value) (w4 : World) (hS5 : St w0 Z (fs) w4), Runs Tryd.prog 11 [.code (cd11 [1, 1])] (fill [none, none, none, none, none, none, none, none, none, none, none, none, none, none, none, none, none, none, none, none, none, none, none, none, none, none, none, none, none, none, none, none] l8) w4 R := by
   intro he9 l8 w4 hS5
   subst he9
   try dsimp only at hp3
   refine sx_run 4 (todo' := [.code (cd11 [1, 1, 1])]) (us := [(2, .bool true)]) (by kernel_rfl) ?_
   refine runs_ret (fn := Tryd.f11) (v := .bool true) Tryd.func11 (by kernel_rfl) ?_
   have hr10 := (Option.some.inj hp3)
   cases hr10
   exact hR _ _ ⟨rfl, hS5⟩
  have L20 : ∀ (t11 : Int) (e15 : Sum Unit Bool), weirref07_empty.l0 a0 t11 = some e15 → e15 = v1 → ∀ (l14 : List Value) (w12 : World) (hS13 : St w0 Z (fs) w12), Runs Tryd.prog 11 [.code (cd11 [1, 0, 1, 0, 0]), .inLoop (cd11 [1, 0, 1, 0, 0]), .inBlock 0, .code (cd11 [1, 1])] (fill [some (.string a0), none, none, some (.int .i64 t11), none, none, none, none, none, none, none, none, none, none, none, none, none, none, none, none, none, none, none, none, none, none, none, none, none, none, none, none] l14) w12 R := by
   refine weirref07_empty.l0.partial_correctness a0 (fun t11 e15 => e15 = v1 → ∀ (l14 : List Value) (w12 : World) (hS13 : St w0 Z (fs) w12), Runs Tryd.prog 11 [.code (cd11 [1, 0, 1, 0, 0]), .inLoop (cd11 [1, 0, 1, 0, 0]), .inBlock 0, .code (cd11 [1, 1])] (fill [some (.string a0), none, none, some (.int .i64 t11), none, none, none, none, none, none, none, none, none, none, none, none, none, none, none, none, none, none, none, none, none, none, none, none, none, none, none, none] l14) w12 R) ?_
   intro rec19 ih18 t11 e15 hb17 he16 l14 w12 hS13
   have hq21 : ∀ x, Sum.inr x = e15 → x = q0 := fun x hx => hq6 x (hx.trans he16)
   refine sx_split 7 (todo' := [.inRegion (opsOf (cd11 [1, 0, 1, 0, 0, 0, 0])) [], .code (cd11 [1, 0, 1, 0, 0, 0, 1]), .code (cd11 [1, 0, 1, 0, 0, 1]), .inLoop (cd11 [1, 0, 1, 0, 0]), .inBlock 0, .code (cd11 [1, 1])]) (us := [(4, .int .i64 t11), (5, .string a0), (6, .int .i64 (a0.size : Int))]) (d := 7) (t := (decide (t11 < (a0.size : Int)))) (by kernel_rfl) (fun h22 => ?_) (fun h23 => ?_)
   ·skip
    have hp24 := ite_t hb17 h22
    refine sx_run 9 (todo' := [.inRegion (opsOf (cd11 [1, 0, 1, 0, 0, 1, 0, 0, 0])) [2, 3, 4, 5, 6, 7, 8, 9, 10, 11, 12, 13, 14, 15, 16, 17, 18, 19, 20, 21], .code (cd11 [1, 0, 1, 0, 0, 1, 0, 0, 1]), .inBlock 1, .code (cd11 [1, 0, 1, 0, 0, 1, 1]), .inLoop (cd11 [1, 0, 1, 0, 0]), .inBlock 0, .code (cd11 [1, 1])]) (us := [(10, .string a0), (11, .int .i64 t11)]) (by kernel_rfl) ?_
    obtain ⟨g25, hp26⟩ := ite_some hp24
    refine r_val (c := (cd11 [1, 0, 1, 0, 0, 1, 0, 0, 0])) (i := 2) (d := (some 12)) (ty := 5) (op := .index 9 (.tmp 10) (.tmp 11)) (v := .int .u8 (byt a0 t11)) (by kernel_rfl) (by kernel_rfl) (fun o ho _ => x_indexStr (kk := .i64) (by kernel_rfl) (by kernel_rfl) (by kernel_rfl) g25.1 g25.2 ho) ?_
    refine sx_split 1 (todo' := [.inRegion (opsOf (cd11 [1, 0, 1, 0, 0, 1, 0, 0, 0])) [4, 5, 6, 7, 8, 9, 10, 11, 12, 13, 14, 15, 16, 17, 18, 19, 20, 21], .code (cd11 [1, 0, 1, 0, 0, 1, 0, 0, 1]), .inBlock 1, .code (cd11 [1, 0, 1, 0, 0, 1, 1]), .inLoop (cd11 [1, 0, 1, 0, 0]), .inBlock 0, .code (cd11 [1, 1])]) (us := []) (d := 13) (t := ((byt a0 t11) != 32)) (by kernel_rfl) (fun h27 => ?_) (fun h28 => ?_)
    ·skip
     have hp29 := ite_t hp26 h27
     refine sx_run 3 (todo' := [.inRegion (opsOf (cd11 [1, 0, 1, 0, 0, 1, 0, 0, 0])) [7, 8, 9, 10, 11, 12, 13, 14, 15, 16, 17, 18, 19, 20, 21], .code (cd11 [1, 0, 1, 0, 0, 1, 0, 0, 1]), .inBlock 1, .code (cd11 [1, 0, 1, 0, 0, 1, 1]), .inLoop (cd11 [1, 0, 1, 0, 0]), .inBlock 0, .code (cd11 [1, 1])]) (us := [(14, .bool true), (15, .string a0), (16, .int .i64 t11)]) (by kernel_rfl) ?_
     obtain ⟨g30, hp31⟩ := ite_some hp29
     refine r_val (c := (cd11 [1, 0, 1, 0, 0, 1, 0, 0, 0])) (i := 7) (d := (some 17)) (ty := 5) (op := .index 9 (.tmp 15) (.tmp 16)) (v := .int .u8 (byt a0 t11)) (by kernel_rfl) (by kernel_rfl) (fun o ho _ => x_indexStr (kk := .i64) (by kernel_rfl) (by kernel_rfl) (by kernel_rfl) g30.1 g30.2 ho) ?_
     refine sx_split 1 (todo' := [.inRegion (opsOf (cd11 [1, 0, 1, 0, 0, 1, 0, 0, 0])) [9, 10, 11, 12, 13, 14, 15, 16, 17, 18, 19, 20, 21], .code (cd11 [1, 0, 1, 0, 0, 1, 0, 0, 1]), .inBlock 1, .code (cd11 [1, 0, 1, 0, 0, 1, 1]), .inLoop (cd11 [1, 0, 1, 0, 0]), .inBlock 0, .code (cd11 [1, 1])]) (us := []) (d := 18) (t := ((byt a0 t11) != 9)) (by kernel_rfl) (fun h32 => ?_) (fun h33 => ?_)
     ·skip
      have hp34 := ite_t hp31 h32
      refine sx_run 4 (todo' := [.inRegion (opsOf (cd11 [1, 0, 1, 0, 0, 1, 0, 0, 0])) [13, 14, 15, 16, 17, 18, 19, 20, 21], .code (cd11 [1, 0, 1, 0, 0, 1, 0, 0, 1]), .inBlock 1, .code (cd11 [1, 0, 1, 0, 0, 1, 1]), .inLoop (cd11 [1, 0, 1, 0, 0]), .inBlock 0, .code (cd11 [1, 1])]) (us := [(19, .bool true), (20, .bool true), (21, .string a0), (22, .int .i64 t11)]) (by kernel_rfl) ?_
      obtain ⟨g35, hp36⟩ := ite_some hp34
      refine r_val (c := (cd11 [1, 0, 1, 0, 0, 1, 0, 0, 0])) (i := 13) (d := (some 23)) (ty := 5) (op := .index 9 (.tmp 21) (.tmp 22)) (v := .int .u8 (byt a0 t11)) (by kernel_rfl) (by kernel_rfl) (fun o ho _ => x_indexStr (kk := .i64) (by kernel_rfl) (by kernel_rfl) (by kernel_rfl) g35.1 g35.2 ho) ?_
      refine sx_split 1 (todo' := [.inRegion (opsOf (cd11 [1, 0, 1, 0, 0, 1, 0, 0, 0])) [15, 16, 17, 18, 19, 20, 21], .code (cd11 [1, 0, 1, 0, 0, 1, 0, 0, 1]), .inBlock 1, .code (cd11 [1, 0, 1, 0, 0, 1, 1]), .inLoop (cd11 [1, 0, 1, 0, 0]), .inBlock 0, .code (cd11 [1, 1])]) (us := []) (d := 24) (t := ((byt a0 t11) != 10)) (by kernel_rfl) (fun h37 => ?_) (fun h38 => ?_)
      ·skip
       have hp39 := ite_t hp36 h37
       refine sx_run 4 (todo' := [.inRegion (opsOf (cd11 [1, 0, 1, 0, 0, 1, 0, 0, 0])) [19, 20, 21], .code (cd11 [1, 0, 1, 0, 0, 1, 0, 0, 1]), .inBlock 1, .code (cd11 [1, 0, 1, 0, 0, 1, 1]), .inLoop (cd11 [1, 0, 1, 0, 0]), .inBlock 0, .code (cd11 [1, 1])]) (us := [(25, .bool true), (26, .bool true), (27, .string a0), (28, .int .i64 t11)]) (by kernel_rfl) ?_
       obtain ⟨g40, hp41⟩ := ite_some hp39
       refine r_val (c := (cd11 [1, 0, 1, 0, 0, 1, 0, 0, 0])) (i := 19) (d := (some 29)) (ty := 5) (op := .index 9 (.tmp 27) (.tmp 28)) (v := .int .u8 (byt a0 t11)) (by kernel_rfl) (by kernel_rfl) (fun o ho _ => x_indexStr (kk := .i64) (by kernel_rfl) (by kernel_rfl) (by kernel_rfl) g40.1 g40.2 ho) ?_
       refine sx_split 1 (todo' := [.inRegion (opsOf (cd11 [1, 0, 1, 0, 0, 1, 0, 0, 0])) [21], .code (cd11 [1, 0, 1, 0, 0, 1, 0, 0, 1]), .inBlock 1, .code (cd11 [1, 0, 1, 0, 0, 1, 1]), .inLoop (cd11 [1, 0, 1, 0, 0]), .inBlock 0, .code (cd11 [1, 1])]) (us := []) (d := 30) (t := ((byt a0 t11) != 13)) (by kernel_rfl) (fun h42 => ?_) (fun h43 => ?_)
       ·skip
        have hp44 := ite_t hp41 h42
        refine sx_run 7 (todo' := [.code (cd11 [1, 0, 1, 0, 0, 1, 0, 0, 1, 0, 1]), .inBlock 1, .code (cd11 [1, 0, 1, 0, 0, 1, 1]), .inLoop (cd11 [1, 0, 1, 0, 0]), .inBlock 0, .code (cd11 [1, 1])]) (us := [(31, .bool true), (2, .bool false)]) (by kernel_rfl) ?_
        refine runs_ret (fn := Tryd.f11) (v := .bool false) Tryd.func11 (by kernel_rfl) ?_
        have hr45 := (hq21 _ (Option.some.inj hp44))
        cases hr45
        exact hR _ _ ⟨rfl, hS13⟩
       ·skip
        have hp46 := ite_f hp41 h43
        refine sx_run 10 (todo' := [.inLoop (cd11 [1, 0, 1, 0, 0]), .inBlock 0, .code (cd11 [1, 1])]) (us := [(31, .bool false), (8, .int .i64 t11), (9, .int .i64 (IntKind.i64.wrap (t11 + 1))), (3, .int .i64 (IntKind.i64.wrap (t11 + 1)))]) (by kernel_rfl) ?_
        refine sx_run 1 (todo' := [.code (cd11 [1, 0, 1, 0, 0]), .inLoop (cd11 [1, 0, 1, 0, 0]), .inBlock 0, .code (cd11 [1, 1])]) (us := []) (by kernel_rfl) ?_
        refine Runs.fill (m := [some (.string a0), none, none, some (.int .i64 (IntKind.i64.wrap (t11 + 1))), none, none, none, none, none, none, none, none, none, none, none, none, none, none, none, none, none, none, none, none, none, none, none, none, none, none, none, none]) (by kernel_rfl) ?_
        exact ih18 (IntKind.i64.wrap (t11 + 1)) _ hp46 he16 _ _ hS13
      ·skip
       have hp47 := ite_f hp36 h38
       refine sx_run 16 (todo' := [.inLoop (cd11 [1, 0, 1, 0, 0]), .inBlock 0, .code (cd11 [1, 1])]) (us := [(25, .bool false), (26, .bool false), (27, undef), (28, undef), (29, undef), (30, undef), (31, .bool false), (8, .int .i64 t11), (9, .int .i64 (IntKind.i64.wrap (t11 + 1))), (3, .int .i64 (IntKind.i64.wrap (t11 + 1)))]) (by kernel_rfl) ?_
       refine sx_run 1 (todo' := [.code (cd11 [1, 0, 1, 0, 0]), .inLoop (cd11 [1, 0, 1, 0, 0]), .inBlock 0, .code (cd11 [1, 1])]) (us := []) (by kernel_rfl) ?_
       refine Runs.fill (m := [some (.string a0), none, none, some (.int .i64 (IntKind.i64.wrap (t11 + 1))), none, none, none, none, none, none, none, none, none, none, none, none, none, none, none, none, none, none, none, none, none, none, none, none, none, none, none, none]) (by kernel_rfl) ?_
       exact ih18 (IntKind.i64.wrap (t11 + 1)) _ hp47 he16 _ _ hS13
     ·skip
      have hp48 := ite_f hp31 h33
      refine sx_run 22 (todo' := [.inLoop (cd11 [1, 0, 1, 0, 0]), .inBlock 0, .code (cd11 [1, 1])]) (us := [(19, .bool false), (20, .bool false), (21, undef), (22, undef), (23, undef), (24, undef), (25, .bool false), (26, .bool false), (27, undef), (28, undef), (29, undef), (30, undef), (31, .bool false), (8, .int .i64 t11), (9, .int .i64 (IntKind.i64.wrap (t11 + 1))), (3, .int .i64 (IntKind.i64.wrap (t11 + 1)))]) (by kernel_rfl) ?_
      refine sx_run 1 (todo' := [.code (cd11 [1, 0, 1, 0, 0]), .inLoop (cd11 [1, 0, 1, 0, 0]), .inBlock 0, .code (cd11 [1, 1])]) (us := []) (by kernel_rfl) ?_
      refine Runs.fill (m := [some (.string a0), none, none, some (.int .i64 (IntKind.i64.wrap (t11 + 1))), none, none, none, none, none, none, none, none, none, none, none, none, none, none, none, none, none, none, none, none, none, none, none, none, none, none, none, none]) (by kernel_rfl) ?_
      exact ih18 (IntKind.i64.wrap (t11 + 1)) _ hp48 he16 _ _ hS13
    ·skip
     have hp49 := ite_f hp26 h28
     refine sx_run 27 (todo' := [.inLoop (cd11 [1, 0, 1, 0, 0]), .inBlock 0, .code (cd11 [1, 1])]) (us := [(14, .bool false), (15, undef), (16, undef), (17, undef), (18, undef), (19, .bool false), (20, .bool false), (21, undef), (22, undef), (23, undef), (24, undef), (25, .bool false), (26, .bool false), (27, undef), (28, undef), (29, undef), (30, undef), (31, .bool false), (8, .int .i64 t11), (9, .int .i64 (IntKind.i64.wrap (t11 + 1))), (3, .int .i64 (IntKind.i64.wrap (t11 + 1)))]) (by kernel_rfl) ?_
     refine sx_run 1 (todo' := [.code (cd11 [1, 0, 1, 0, 0]), .inLoop (cd11 [1, 0, 1, 0, 0]), .inBlock 0, .code (cd11 [1, 1])]) (us := []) (by kernel_rfl) ?_
     refine Runs.fill (m := [some (.string a0), none, none, some (.int .i64 (IntKind.i64.wrap (t11 + 1))), none, none, none, none, none, none, none, none, none, none, none, none, none, none, none, none, none, none, none, none, none, none, none, none, none, none, none, none]) (by kernel_rfl) ?_
     exact ih18 (IntKind.i64.wrap (t11 + 1)) _ hp49 he16 _ _ hS13
   ·skip
    have hp50 := ite_f hb17 h23
    refine sx_run 3 (todo' := [.code (cd11 [1, 1])]) (us := []) (by kernel_rfl) ?_
    refine Runs.fill (m := [none, none, none, none, none, none, none, none, none, none, none, none, none, none, none, none, none, none, none, none, none, none, none, none, none, none, none, none, none, none, none, none]) (by kernel_rfl) ?_
    exact J7 ((Option.some.inj hp50).trans he16) _ _ hS13
  refine Runs.fill (m := [some (.string a0), none, none, some (.int .i64 0), none, none, none, none, none, none, none, none, none, none, none, none, none, none, none, none, none, none, none, none, none, none, none, none, none, none, none, none]) (by kernel_rfl) ?_
  exact L20 0 _ hv2 rfl _ _ hS0

noncomputable def cd5 (p : List Nat) : Code := sub (bodyOf Tryd.f5) p
def weirref07_Split.l0 (a0 : ByteArray) (t14 : List ByteArray) (t18 : Int) (t19 : Int) : Option (List ByteArray) :=
  (if (decide (t19 ≤ (a0.size : Int))) = true then (((if (decide ((IntKind.i64.wrap (t19 + 4)) ≤ (a0.size : Int))) = true then (if 0 ≤ t19 ∧ t19 ≤ (IntKind.i64.wrap (t19 + 3)) ∧ (IntKind.i64.wrap (t19 + 3)) ≤ (a0.size : Int) then (if (seq (a0.extract t19.toNat (IntKind.i64.wrap (t19 + 3)).toNat) (⟨#[88, 56, 54]⟩ : ByteArray)) = true then (if 0 ≤ (IntKind.i64.wrap (t19 + 3)) ∧ (IntKind.i64.wrap (t19 + 3)) < (a0.size : Int) then (if ((byt a0 (IntKind.i64.wrap (t19 + 3))) == 32) = true then (if (t19 == 0) = true then some (true) else (if 0 ≤ (IntKind.i64.wrap (t19 - 1)) ∧ (IntKind.i64.wrap (t19 - 1)) < (a0.size : Int) then (if ((byt a0 (IntKind.i64.wrap (t19 - 1))) == 10) = true then some (true) else some (false)) else none)) else (if 0 ≤ (IntKind.i64.wrap (t19 + 3)) ∧ (IntKind.i64.wrap (t19 + 3)) < (a0.size : Int) then (if ((byt a0 (IntKind.i64.wrap (t19 + 3))) == 9) = true then (if (t19 == 0) = true then some (true) else (if 0 ≤ (IntKind.i64.wrap (t19 - 1)) ∧ (IntKind.i64.wrap (t19 - 1)) < (a0.size : Int) then (if ((byt a0 (IntKind.i64.wrap (t19 - 1))) == 10) = true then some (true) else some (false)) else none)) else some (false)) else none)) else none) else some (false)) else none) else some (false)) : Option Bool) >>= (fun t35 => (((if (!t35) = true then (if (decide (t19 < (a0.size : Int))) = true then ((weirref07_Split.l0 a0 t14 t18 (IntKind.i64.wrap (t19 + 1))) >>= fun e => some (.inr (e))) else some (.inl ())) else some (.inl ())) : Option (Sum Unit (List ByteArray))) >>= (fun | .inl () => (if (decide (t19 > t18)) = true then (if (decide (t18 > 0)) = true then (if 0 ≤ t18 ∧ t18 ≤ t19 ∧ t19 ≤ (a0.size : Int) then (if (t14.length + ([(a0.extract t18.toNat t19.toNat)] : List ByteArray).length) * 16 ≤ 140737488355328 then (weirref07_Split.l0 a0 (t14 ++ ([(a0.extract t18.toNat t19.toNat)] : List ByteArray)) t19 (IntKind.i64.wrap (t19 + 1))) else none) else none) else (weirref07_first.f a0 >>= (fun t73 => (if t73 = true then (if 0 ≤ t18 ∧ t18 ≤ t19 ∧ t19 ≤ (a0.size : Int) then (if (t14.length + ([(a0.extract t18.toNat t19.toNat)] : List ByteArray).length) * 16 ≤ 140737488355328 then (weirref07_Split.l0 a0 (t14 ++ ([(a0.extract t18.toNat t19.toNat)] : List ByteArray)) t19 (IntKind.i64.wrap (t19 + 1))) else none) else none) else (if 0 ≤ t18 ∧ t18 ≤ t19 ∧ t19 ≤ (a0.size : Int) then (weirref07_empty.f (a0.extract t18.toNat t19.toNat) >>= (fun t81 => (if (!t81) = true then (if 0 ≤ t18 ∧ t18 ≤ t19 ∧ t19 ≤ (a0.size : Int) then (if (t14.length + ([(a0.extract t18.toNat t19.toNat)] : List ByteArray).length) * 16 ≤ 140737488355328 then (weirref07_Split.l0 a0 (t14 ++ ([(a0.extract t18.toNat t19.toNat)] : List ByteArray)) t19 (IntKind.i64.wrap (t19 + 1))) else none) else none) else (weirref07_Split.l0 a0 t14 t19 (IntKind.i64.wrap (t19 + 1)))))) else none))))) else (weirref07_Split.l0 a0 t14 t19 (IntKind.i64.wrap (t19 + 1)))) | .inr e => some e)))) else some (t14))
 partial_fixpoint
def weirref07_Split.f (a0 : ByteArray) : Option (List ByteArray) :=
  (weirref07_Split.l0 a0 [] 0 0 >>= (fun t4 => some (t4)))
set_option maxHeartbeats 16000000 in
theorem weirref07_Split.ok (a0 : ByteArray) {w0 : World} {Z : Zm} {fs : List XObj} {w : World} (hS0 : St w0 Z (fs) w) {q0 : List ByteArray} (hp0 : weirref07_Split.f a0 = some q0) :
    Calls Tryd.prog 5 #[.string a0] w (fun e w' => ∃ (QA0 : Option Addr) (Qc0 : Nat), e = .returned (.slice QA0 q0.length Qc0) ∧ St w0 Z (xrow QA0 Qc0 9 1 (q0.flatMap encS) :: fs) w') := by
  refine calls_abs ?_; intro R hR
  unfold weirref07_Split.f at hp0
  refine calls_of_runs (fn := Tryd.f5) (c := cd5 []) Tryd.func5 (by kernel_rfl) (al := [.string a0]) rfl (n := 86) rfl ?_
  refine sx_run 19 (todo' := [.code (cd5 [1, 1, 1, 0, 1, 0, 0]), .inLoop (cd5 [1, 1, 1, 0, 1, 0, 0]), .inBlock 0, .code (cd5 [1, 1, 1, 1])]) (us := [(2, .slice none 0 0), (3, .slice none 0 0), (4, .int .i64 0), (5, .int .i64 0)]) (by kernel_rfl) ?_
  obtain ⟨v1, hv2, hp3⟩ := bind_some' hp0
  have J10 : ∀ (t4 : List ByteArray) (he12 : t4 = v1) (l11 : List Value) (A5 : Option Addr) (c6 : Nat) (w8 : World) (hS9 : St w0 Z (xrow A5 c6 9 1 (t4.flatMap encS) :: fs) w8), Runs Tryd.prog 5 [.code (cd5 [1, 1, 1, 1])] (fill [none, none, none, some (.slice A5 t4.length c6), none, none, none, none, none, none, none, none, none, none, none, none, none, none, none, none, none, none, none, none, none, none, none, none, none, none, none, none, none, none, none, none, none, none, none, none, none, none, none, none, none, none, none, none, none, none, none, none, none, none, none, none, none, none, none, none, none, none, none, none, none, none, none, none, none, none, none, none, none, none, none, none, none, none, none, none, none, none, none, none, none, none, none] l11) w8 R := by
   intro t4 he12 l11 A5 c6 w8 hS9
   subst he12
   try dsimp only at hp3
   refine sx_run 5 (todo' := [.code (cd5 [1, 1, 1, 1, 1])]) (us := [(86, .slice A5 t4.length c6), (2, .slice A5 t4.length c6)]) (by kernel_rfl) ?_
   refine runs_ret (fn := Tryd.f5) (v := .slice A5 t4.length c6) Tryd.func5 (by kernel_rfl) ?_
   have hr13 := (Option.some.inj hp3)
   cases hr13
   exact hR _ _ ⟨A5, c6, rfl, hS9⟩
  have L28 : ∀ (t14 : List ByteArray) (t18 : Int) (t19 : Int) (e23 : (List ByteArray)), weirref07_Split.l0 a0 t14 t18 t19 = some e23 → e23 = v1 → ∀ (l22 : List Value) (A15 : Option Addr) (c16 : Nat) (w20 : World) (hS21 : St w0 Z (xrow A15 c16 9 1 (t14.flatMap encS) :: fs) w20), Runs Tryd.prog 5 [.code (cd5 [1, 1, 1, 0, 1, 0, 0]), .inLoop (cd5 [1, 1, 1, 0, 1, 0, 0]), .inBlock 0, .code (cd5 [1, 1, 1, 1])] (fill [some (.string a0), none, none, some (.slice A15 t14.length c16), some (.int .i64 t18), some (.int .i64 t19), none, none, none, none, none, none, none, none, none, none, none, none, none, none, none, none, none, none, none, none, none, none, none, none, none, none, none, none, none, none, none, none, none, none, none, none, none, none, none, none, none, none, none, none, none, none, none, none, none, none, none, none, none, none, none, none, none, none, none, none, none, none, none, none, none, none, none, none, none, none, none, none, none, none, none, none, none, none, none, none, none] l22) w20 R := by
   refine weirref07_Split.l0.partial_correctness a0 (fun t14 t18 t19 e23 => e23 = v1 → ∀ (l22 : List Value) (A15 : Option Addr) (c16 : Nat) (w20 : World) (hS21 : St w0 Z (xrow A15 c16 9 1 (t14.flatMap encS) :: fs) w20), Runs Tryd.prog 5 [.code (cd5 [1, 1, 1, 0, 1, 0, 0]), .inLoop (cd5 [1, 1, 1, 0, 1, 0, 0]), .inBlock 0, .code (cd5 [1, 1, 1, 1])] (fill [some (.string a0), none, none, some (.slice A15 t14.length c16), some (.int .i64 t18), some (.int .i64 t19), none, none, none, none, none, none, none, none, none, none, none, none, none, none, none, none, none, none, none, none, none, none, none, none, none, none, none, none, none, none, none, none, none, none, none, none, none, none, none, none, none, none, none, none, none, none, none, none, none, none, none, none, none, none, none, none, none, none, none, none, none, none, none, none, none, none, none, none, none, none, none, none, none, none, none, none, none, none, none, none, none] l22) w20 R) ?_
   intro rec27 ih26 t14 t18 t19 e23 hb25 he24 l22 A15 c16 w20 hS21
   refine sx_split 7 (todo' := [.inRegion (opsOf (cd5 [1, 1, 1, 0, 1, 0, 0, 0, 0])) [], .code (cd5 [1, 1, 1, 0, 1, 0, 0, 0, 1]), .code (cd5 [1, 1, 1, 0, 1, 0, 0, 1]), .inLoop (cd5 [1, 1, 1, 0, 1, 0, 0]), .inBlock 0, .code (cd5 [1, 1, 1, 1])]) (us := [(7, .int .i64 t19), (8, .string a0), (9, .int .i64 (a0.size : Int))]) (d := 10) (t := (decide (t19 ≤ (a0.size : Int)))) (by kernel_rfl) (fun h29 => ?_) (fun h30 => ?_)
   ·skip
    have hp31 := ite_t hb25 h29
    obtain ⟨v32, hv33, hp34⟩ := bind_some' hp31
    have J38 : ∀ (t35 : Bool) (he40 : t35 = v32) (l39 : List Value) (w36 : World) (hS37 : St w0 Z (xrow A15 c16 9 1 (t14.flatMap encS) :: fs) w36), Runs Tryd.prog 5 [.code (cd5 [1, 1, 1, 0, 1, 0, 0, 1, 0, 0, 1, 0, 0]), .code (cd5 [1, 1, 1, 0, 1, 0, 0, 1, 0, 0, 1, 0, 1]), .code (cd5 [1, 1, 1, 0, 1, 0, 0, 1, 0, 0, 1, 1]), .inBlock 1, .code (cd5 [1, 1, 1, 0, 1, 0, 0, 1, 1]), .inLoop (cd5 [1, 1, 1, 0, 1, 0, 0]), .inBlock 0, .code (cd5 [1, 1, 1, 1])] (fill [some (.string a0), none, none, some (.slice A15 t14.length c16), some (.int .i64 t18), some (.int .i64 t19), some (.bool t35), none, none, none, none, none, none, none, none, none, none, none, none, none, none, none, none, none, none, none, none, none, none, none, none, none, none, none, none, none, none, none, none, none, none, none, none, none, none, none, none, none, none, none, none, none, none, none, none, none, none, none, none, none, none, none, none, none, none, none, none, none, none, none, none, none, none, none, none, none, none, none, none, none, none, none, none, none, none, none, none] l39) w36 R := by
     intro t35 he40 l39 w36 hS37
     subst he40
     try dsimp only at hp34
     obtain ⟨v41, hv42, hp43⟩ := bind_some' hp34
     have hq46 : ∀ x, Sum.inr x = v41 → x = e23 := by intro x hx; subst hx; simpa using hp43
     have J47 : ∀ (he49 : Sum.inl () = v41) (l48 : List Value) (w44 : World) (hS45 : St w0 Z (xrow A15 c16 9 1 (t14.flatMap encS) :: fs) w44), Runs Tryd.prog 5 [.code (cd5 [1, 1, 1, 0, 1, 0, 0, 1, 0, 0, 1, 1]), .inBlock 1, .code (cd5 [1, 1, 1, 0, 1, 0, 0, 1, 1]), .inLoop (cd5 [1, 1, 1, 0, 1, 0, 0]), .inBlock 0, .code (cd5 [1, 1, 1, 1])] (fill [some (.string a0), none, none, some (.slice A15 t14.length c16), some (.int .i64 t18), some (.int .i64 t19), none, none, none, none, none, none, none, none, none, none, none, none, none, none, none, none, none, none, none, none, none, none, none, none, none, none, none, none, none, none, none, none, none, none, none, none, none, none, none, none, none, none, none, none, none, none, none, none, none, none, none, none, none, none, none, none, none, none, none, none, none, none, none, none, none, none, none, none, none, none, none, none, none, none, none, none, none, none, none, none, none] l48) w44 R := by
      intro he49 l48 w44 hS45
      subst he49
      try dsimp only at hp43
      refine sx_split 6 (todo' := [.inRegion (opsOf (cd5 [1, 1, 1, 0, 1, 0, 0, 1, 0, 0, 1, 1, 0, 0])) [3, 4, 5, 6, 7, 8, 9, 10, 11, 12, 13, 14, 15, 16, 17, 18], .code (cd5 [1, 1, 1, 0, 1, 0, 0, 1, 0, 0, 1, 1, 0, 1]), .code (cd5 [1, 1, 1, 0, 1, 0, 0, 1, 0, 0, 1, 1, 1]), .inBlock 1, .code (cd5 [1, 1, 1, 0, 1, 0, 0, 1, 1]), .inLoop (cd5 [1, 1, 1, 0, 1, 0, 0]), .inBlock 0, .code (cd5 [1, 1, 1, 1])]) (us := [(59, .int .i64 t19), (60, .int .i64 t18)]) (d := 61) (t := (decide (t19 > t18))) (by kernel_rfl) (fun h50 => ?_) (fun h51 => ?_)
      ·skip
       have hp52 := ite_t hp43 h50
       refine sx_split 3 (todo' := [.inRegion (opsOf (cd5 [1, 1, 1, 0, 1, 0, 0, 1, 0, 0, 1, 1, 0, 0])) [6, 7, 8, 9, 10, 11, 12, 13, 14, 15, 16, 17, 18], .code (cd5 [1, 1, 1, 0, 1, 0, 0, 1, 0, 0, 1, 1, 0, 1]), .code (cd5 [1, 1, 1, 0, 1, 0, 0, 1, 0, 0, 1, 1, 1]), .inBlock 1, .code (cd5 [1, 1, 1, 0, 1, 0, 0, 1, 1]), .inLoop (cd5 [1, 1, 1, 0, 1, 0, 0]), .inBlock 0, .code (cd5 [1, 1, 1, 1])]) (us := [(62, .bool true), (63, .int .i64 t18)]) (d := 64) (t := (decide (t18 > 0))) (by kernel_rfl) (fun h53 => ?_) (fun h54 => ?_)
       ·skip
        have hp55 := ite_t hp52 h53
        refine sx_run 20 (todo' := [.inRegion (opsOf (cd5 [1, 1, 1, 0, 1, 0, 0, 1, 0, 0, 1, 1, 0, 1, 0])) [4, 5, 6, 7], .code (cd5 [1, 1, 1, 0, 1, 0, 0, 1, 0, 0, 1, 1, 1]), .inBlock 1, .code (cd5 [1, 1, 1, 0, 1, 0, 0, 1, 1]), .inLoop (cd5 [1, 1, 1, 0, 1, 0, 0]), .inBlock 0, .code (cd5 [1, 1, 1, 1])]) (us := [(65, .bool true), (66, undef), (67, undef), (68, .bool true), (69, .bool true), (70, undef), (71, undef), (72, undef), (73, undef), (74, undef), (75, undef), (76, .bool true), (77, .bool true), (78, .slice A15 t14.length c16), (79, .string a0), (80, .int .i64 t18), (81, .int .i64 t19)]) (by kernel_rfl) ?_
        obtain ⟨g56, hp57⟩ := ite_some hp55
        refine r_val (c := (cd5 [1, 1, 1, 0, 1, 0, 0, 1, 0, 0, 1, 1, 0, 1, 0])) (i := 4) (d := (some 82)) (ty := 9) (op := .slice 9 (.tmp 79) (some (.tmp 80)) (some (.tmp 81)) none) (v := .string (a0.extract t18.toNat t19.toNat)) (by kernel_rfl) (by kernel_rfl) (fun o ho _ => x_cutStr_ss (k := .i64) (k' := .i64) (by kernel_rfl) (by kernel_rfl) (by kernel_rfl) (by kernel_rfl) g56 ho) ?_
        refine r_lit (c := (cd5 [1, 1, 1, 0, 1, 0, 0, 1, 0, 0, 1, 1, 0, 1, 0])) (i := 5) (d := (some 83)) (ty := 22) (t := 22) (e := 9) (sz := 1) (n := 1) (parts := #[(0, (.tmp 82))]) (vs := [(0, .string (a0.extract t18.toNat t19.toNat))]) (z := zeroOf Tryd.prog 9) (cs' := ([(a0.extract t18.toNat t19.toNat)] : List ByteArray).flatMap encS) hS45 (by kernel_rfl) (by kernel_rfl) (by kernel_rfl) (by kernel_rfl) (by kernel_rfl) (by decide) (by decide) (by kernel_rfl) rfl (Parts.cons (c := [.string (a0.extract t18.toNat t19.toNat)]) (by kernel_rfl) rfl Parts.nil) rfl ?_
        intro b59 w60 hS61
        have hS62 := hS61.pick1
        obtain ⟨g63, hp64⟩ := ite_some hp57
        refine r_append (c := (cd5 [1, 1, 1, 0, 1, 0, 0, 1, 0, 0, 1, 1, 0, 1, 0])) (i := 6) (d := (some 84)) (ty := 22) (enc := encS) (e := 9) (u := 9) (t := 22) (t2 := 22) (sz := 1) (cp := c16) (A := A15) (bytes := 16) (xs := t14) (ys := ([(a0.extract t18.toNat t19.toNat)] : List ByteArray)) (s := (.tmp 78)) (x := (.tmp 83)) (xv := .slice (some ⟨b59, 0, none⟩) ([(a0.extract t18.toNat t19.toNat)] : List ByteArray).length 1) (info := infoOf Tryd.prog 9) (z := zeroOf Tryd.prog 9) (ycs := ([(a0.extract t18.toNat t19.toNat)] : List ByteArray).flatMap encS) hS62 (by kernel_rfl) (by kernel_rfl) (by kernel_rfl) (by kernel_rfl) (by kernel_rfl) (.inl (by kernel_rfl)) (by kernel_rfl) (by kernel_rfl) (by kernel_rfl) (by kernel_rfl) (by kernel_rfl) (by omega) len_encS one_encS (src_row (hS62.row 1 rfl) (by omega) len_encS) rfl g63 (by omega) ?_
        intro A65 c66 w67 hS68
        refine sx_run 12 (todo' := [.inLoop (cd5 [1, 1, 1, 0, 1, 0, 0]), .inBlock 0, .code (cd5 [1, 1, 1, 1])]) (us := [(3, .slice A65 (t14 ++ ([(a0.extract t18.toNat t19.toNat)] : List ByteArray)).length c66), (85, .int .i64 t19), (4, .int .i64 t19), (11, .int .i64 t19), (12, .int .i64 (IntKind.i64.wrap (t19 + 1))), (5, .int .i64 (IntKind.i64.wrap (t19 + 1)))]) (by kernel_rfl) ?_
        have hS70 := hS68.pick1
        have hS71 := hS70.drop
        refine sx_run 1 (todo' := [.code (cd5 [1, 1, 1, 0, 1, 0, 0]), .inLoop (cd5 [1, 1, 1, 0, 1, 0, 0]), .inBlock 0, .code (cd5 [1, 1, 1, 1])]) (us := []) (by kernel_rfl) ?_
        refine Runs.fill (m := [some (.string a0), none, none, some (.slice A65 (t14 ++ ([(a0.extract t18.toNat t19.toNat)] : List ByteArray)).length c66), some (.int .i64 t19), some (.int .i64 (IntKind.i64.wrap (t19 + 1))), none, none, none, none, none, none, none, none, none, none, none, none, none, none, none, none, none, none, none, none, none, none, none, none, none, none, none, none, none, none, none, none, none, none, none, none, none, none, none, none, none, none, none, none, none, none, none, none, none, none, none, none, none, none, none, none, none, none, none, none, none, none, none, none, none, none, none, none, none, none, none, none, none, none, none, none, none, none, none, none, none]) (by kernel_rfl) ?_
        exact ih26 (t14 ++ ([(a0.extract t18.toNat t19.toNat)] : List ByteArray)) t19 (IntKind.i64.wrap (t19 + 1)) _ hp64 he24 _ A65 c66 _ hS71
       ·skip
        have hp72 := ite_f hp52 h54
        refine sx_run 2 (todo' := [.inRegion (opsOf (cd5 [1, 1, 1, 0, 1, 0, 0, 1, 0, 0, 1, 1, 0, 0])) [8, 9, 10, 11, 12, 13, 14, 15, 16, 17, 18], .code (cd5 [1, 1, 1, 0, 1, 0, 0, 1, 0, 0, 1, 1, 0, 1]), .code (cd5 [1, 1, 1, 0, 1, 0, 0, 1, 0, 0, 1, 1, 1]), .inBlock 1, .code (cd5 [1, 1, 1, 0, 1, 0, 0, 1, 1]), .inLoop (cd5 [1, 1, 1, 0, 1, 0, 0]), .inBlock 0, .code (cd5 [1, 1, 1, 1])]) (us := [(65, .bool false), (66, .string a0)]) (by kernel_rfl) ?_
        obtain ⟨t73, hr74, hp75⟩ := bind_some' hp72
        refine r_call1 (c := (cd5 [1, 1, 1, 0, 1, 0, 0, 1, 0, 0, 1, 1, 0, 0])) (i := 8) (d := (some 67)) (g := 10) (args := #[.string a0]) (by kernel_rfl) (by kernel_rfl) (by kernel_rfl) (by kernel_rfl) (weirref07_first.ok a0 hS45 hr74) ?_
        rintro _ w76 ⟨rfl, hS77⟩
        refine ⟨.bool t73, rfl, ?_⟩
        refine sx_run 2 (todo' := [.inRegion (opsOf (cd5 [1, 1, 1, 0, 1, 0, 0, 1, 0, 0, 1, 1, 0, 0])) [11, 12, 13, 14, 15, 16, 17, 18], .code (cd5 [1, 1, 1, 0, 1, 0, 0, 1, 0, 0, 1, 1, 0, 1]), .code (cd5 [1, 1, 1, 0, 1, 0, 0, 1, 0, 0, 1, 1, 1]), .inBlock 1, .code (cd5 [1, 1, 1, 0, 1, 0, 0, 1, 1]), .inLoop (cd5 [1, 1, 1, 0, 1, 0, 0]), .inBlock 0, .code (cd5 [1, 1, 1, 1])]) (us := [(68, .bool t73), (69, .bool t73)]) (by kernel_rfl) ?_
        cases t73
        ·skip
         have hp78 := ite_f hp75 rfl
         refine sx_run 3 (todo' := [.inRegion (opsOf (cd5 [1, 1, 1, 0, 1, 0, 0, 1, 0, 0, 1, 1, 0, 0])) [14, 15, 16, 17, 18], .code (cd5 [1, 1, 1, 0, 1, 0, 0, 1, 0, 0, 1, 1, 0, 1]), .code (cd5 [1, 1, 1, 0, 1, 0, 0, 1, 0, 0, 1, 1, 1]), .inBlock 1, .code (cd5 [1, 1, 1, 0, 1, 0, 0, 1, 1]), .inLoop (cd5 [1, 1, 1, 0, 1, 0, 0]), .inBlock 0, .code (cd5 [1, 1, 1, 1])]) (us := [(70, .string a0), (71, .int .i64 t18), (72, .int .i64 t19)]) (by kernel_rfl) ?_
         obtain ⟨g79, hp80⟩ := ite_some hp78
         refine r_val (c := (cd5 [1, 1, 1, 0, 1, 0, 0, 1, 0, 0, 1, 1, 0, 0])) (i := 14) (d := (some 73)) (ty := 9) (op := .slice 9 (.tmp 70) (some (.tmp 71)) (some (.tmp 72)) none) (v := .string (a0.extract t18.toNat t19.toNat)) (by kernel_rfl) (by kernel_rfl) (fun o ho _ => x_cutStr_ss (k := .i64) (k' := .i64) (by kernel_rfl) (by kernel_rfl) (by kernel_rfl) (by kernel_rfl) g79 ho) ?_
         obtain ⟨t81, hr82, hp83⟩ := bind_some' hp80
         refine r_call1 (c := (cd5 [1, 1, 1, 0, 1, 0, 0, 1, 0, 0, 1, 1, 0, 0])) (i := 15) (d := (some 74)) (g := 11) (args := #[.string (a0.extract t18.toNat t19.toNat)]) (by kernel_rfl) (by kernel_rfl) (by kernel_rfl) (by kernel_rfl) (weirref07_empty.ok (a0.extract t18.toNat t19.toNat) hS77 hr82) ?_
         rintro _ w84 ⟨rfl, hS85⟩
         refine ⟨.bool t81, rfl, ?_⟩
         refine sx_split 1 (todo' := [.inRegion (opsOf (cd5 [1, 1, 1, 0, 1, 0, 0, 1, 0, 0, 1, 1, 0, 0])) [17, 18], .code (cd5 [1, 1, 1, 0, 1, 0, 0, 1, 0, 0, 1, 1, 0, 1]), .code (cd5 [1, 1, 1, 0, 1, 0, 0, 1, 0, 0, 1, 1, 1]), .inBlock 1, .code (cd5 [1, 1, 1, 0, 1, 0, 0, 1, 1]), .inLoop (cd5 [1, 1, 1, 0, 1, 0, 0]), .inBlock 0, .code (cd5 [1, 1, 1, 1])]) (us := []) (d := 75) (t := (!t81)) (by kernel_rfl) (fun h86 => ?_) (fun h87 => ?_)
         ·skip
          have hp88 := ite_t hp83 h86
          refine sx_run 9 (todo' := [.inRegion (opsOf (cd5 [1, 1, 1, 0, 1, 0, 0, 1, 0, 0, 1, 1, 0, 1, 0])) [4, 5, 6, 7], .code (cd5 [1, 1, 1, 0, 1, 0, 0, 1, 0, 0, 1, 1, 1]), .inBlock 1, .code (cd5 [1, 1, 1, 0, 1, 0, 0, 1, 1]), .inLoop (cd5 [1, 1, 1, 0, 1, 0, 0]), .inBlock 0, .code (cd5 [1, 1, 1, 1])]) (us := [(76, .bool true), (77, .bool true), (78, .slice A15 t14.length c16), (79, .string a0), (80, .int .i64 t18), (81, .int .i64 t19)]) (by kernel_rfl) ?_
          obtain ⟨g89, hp90⟩ := ite_some hp88
          refine r_val (c := (cd5 [1, 1, 1, 0, 1, 0, 0, 1, 0, 0, 1, 1, 0, 1, 0])) (i := 4) (d := (some 82)) (ty := 9) (op := .slice 9 (.tmp 79) (some (.tmp 80)) (some (.tmp 81)) none) (v := .string (a0.extract t18.toNat t19.toNat)) (by kernel_rfl) (by kernel_rfl) (fun o ho _ => x_cutStr_ss (k := .i64) (k' := .i64) (by kernel_rfl) (by kernel_rfl) (by kernel_rfl) (by kernel_rfl) g89 ho) ?_
          refine r_lit (c := (cd5 [1, 1, 1, 0, 1, 0, 0, 1, 0, 0, 1, 1, 0, 1, 0])) (i := 5) (d := (some 83)) (ty := 22) (t := 22) (e := 9) (sz := 1) (n := 1) (parts := #[(0, (.tmp 82))]) (vs := [(0, .string (a0.extract t18.toNat t19.toNat))]) (z := zeroOf Tryd.prog 9) (cs' := ([(a0.extract t18.toNat t19.toNat)] : List ByteArray).flatMap encS) hS85 (by kernel_rfl) (by kernel_rfl) (by kernel_rfl) (by kernel_rfl) (by kernel_rfl) (by decide) (by decide) (by kernel_rfl) rfl (Parts.cons (c := [.string (a0.extract t18.toNat t19.toNat)]) (by kernel_rfl) rfl Parts.nil) rfl ?_
          intro b92 w93 hS94
          have hS95 := hS94.pick1
          obtain ⟨g96, hp97⟩ := ite_some hp90
          refine r_append (c := (cd5 [1, 1, 1, 0, 1, 0, 0, 1, 0, 0, 1, 1, 0, 1, 0])) (i := 6) (d := (some 84)) (ty := 22) (enc := encS) (e := 9) (u := 9) (t := 22) (t2 := 22) (sz := 1) (cp := c16) (A := A15) (bytes := 16) (xs := t14) (ys := ([(a0.extract t18.toNat t19.toNat)] : List ByteArray)) (s := (.tmp 78)) (x := (.tmp 83)) (xv := .slice (some ⟨b92, 0, none⟩) ([(a0.extract t18.toNat t19.toNat)] : List ByteArray).length 1) (info := infoOf Tryd.prog 9) (z := zeroOf Tryd.prog 9) (ycs := ([(a0.extract t18.toNat t19.toNat)] : List ByteArray).flatMap encS) hS95 (by kernel_rfl) (by kernel_rfl) (by kernel_rfl) (by kernel_rfl) (by kernel_rfl) (.inl (by kernel_rfl)) (by kernel_rfl) (by kernel_rfl) (by kernel_rfl) (by kernel_rfl) (by kernel_rfl) (by omega) len_encS one_encS (src_row (hS95.row 1 rfl) (by omega) len_encS) rfl g96 (by omega) ?_
          intro A98 c99 w100 hS101
          refine sx_run 12 (todo' := [.inLoop (cd5 [1, 1, 1, 0, 1, 0, 0]), .inBlock 0, .code (cd5 [1, 1, 1, 1])]) (us := [(3, .slice A98 (t14 ++ ([(a0.extract t18.toNat t19.toNat)] : List ByteArray)).length c99), (85, .int .i64 t19), (4, .int .i64 t19), (11, .int .i64 t19), (12, .int .i64 (IntKind.i64.wrap (t19 + 1))), (5, .int .i64 (IntKind.i64.wrap (t19 + 1)))]) (by kernel_rfl) ?_
          have hS103 := hS101.pick1
          have hS104 := hS103.drop
          refine sx_run 1 (todo' := [.code (cd5 [1, 1, 1, 0, 1, 0, 0]), .inLoop (cd5 [1, 1, 1, 0, 1, 0, 0]), .inBlock 0, .code (cd5 [1, 1, 1, 1])]) (us := []) (by kernel_rfl) ?_
          refine Runs.fill (m := [some (.string a0), none, none, some (.slice A98 (t14 ++ ([(a0.extract t18.toNat t19.toNat)] : List ByteArray)).length c99), some (.int .i64 t19), some (.int .i64 (IntKind.i64.wrap (t19 + 1))), none, none, none, none, none, none, none, none, none, none, none, none, none, none, none, none, none, none, none, none, none, none, none, none, none, none, none, none, none, none, none, none, none, none, none, none, none, none, none, none, none, none, none, none, none, none, none, none, none, none, none, none, none, none, none, none, none, none, none, none, none, none, none, none, none, none, none, none, none, none, none, none, none, none, none, none, none, none, none, none, none]) (by kernel_rfl) ?_
          exact ih26 (t14 ++ ([(a0.extract t18.toNat t19.toNat)] : List ByteArray)) t19 (IntKind.i64.wrap (t19 + 1)) _ hp97 he24 _ A98 c99 _ hS104
         ·skip
          have hp105 := ite_f hp83 h87
          refine sx_run 15 (todo' := [.inLoop (cd5 [1, 1, 1, 0, 1, 0, 0]), .inBlock 0, .code (cd5 [1, 1, 1, 1])]) (us := [(76, .bool false), (77, .bool false), (85, .int .i64 t19), (4, .int .i64 t19), (11, .int .i64 t19), (12, .int .i64 (IntKind.i64.wrap (t19 + 1))), (5, .int .i64 (IntKind.i64.wrap (t19 + 1)))]) (by kernel_rfl) ?_
          refine sx_run 1 (todo' := [.code (cd5 [1, 1, 1, 0, 1, 0, 0]), .inLoop (cd5 [1, 1, 1, 0, 1, 0, 0]), .inBlock 0, .code (cd5 [1, 1, 1, 1])]) (us := []) (by kernel_rfl) ?_
          refine Runs.fill (m := [some (.string a0), none, none, some (.slice A15 t14.length c16), some (.int .i64 t19), some (.int .i64 (IntKind.i64.wrap (t19 + 1))), none, none, none, none, none, none, none, none, none, none, none, none, none, none, none, none, none, none, none, none, none, none, none, none, none, none, none, none, none, none, none, none, none, none, none, none, none, none, none, none, none, none, none, none, none, none, none, none, none, none, none, none, none, none, none, none, none, none, none, none, none, none, none, none, none, none, none, none, none, none, none, none, none, none, none, none, none, none, none, none, none]) (by kernel_rfl) ?_
          exact ih26 t14 t19 (IntKind.i64.wrap (t19 + 1)) _ hp105 he24 _ A15 c16 _ hS85
        ·skip
         have hp106 := ite_t hp75 rfl
         refine sx_run 15 (todo' := [.inRegion (opsOf (cd5 [1, 1, 1, 0, 1, 0, 0, 1, 0, 0, 1, 1, 0, 1, 0])) [4, 5, 6, 7], .code (cd5 [1, 1, 1, 0, 1, 0, 0, 1, 0, 0, 1, 1, 1]), .inBlock 1, .code (cd5 [1, 1, 1, 0, 1, 0, 0, 1, 1]), .inLoop (cd5 [1, 1, 1, 0, 1, 0, 0]), .inBlock 0, .code (cd5 [1, 1, 1, 1])]) (us := [(70, undef), (71, undef), (72, undef), (73, undef), (74, undef), (75, undef), (76, .bool true), (77, .bool true), (78, .slice A15 t14.length c16), (79, .string a0), (80, .int .i64 t18), (81, .int .i64 t19)]) (by kernel_rfl) ?_
         obtain ⟨g107, hp108⟩ := ite_some hp106
         refine r_val (c := (cd5 [1, 1, 1, 0, 1, 0, 0, 1, 0, 0, 1, 1, 0, 1, 0])) (i := 4) (d := (some 82)) (ty := 9) (op := .slice 9 (.tmp 79) (some (.tmp 80)) (some (.tmp 81)) none) (v := .string (a0.extract t18.toNat t19.toNat)) (by kernel_rfl) (by kernel_rfl) (fun o ho _ => x_cutStr_ss (k := .i64) (k' := .i64) (by kernel_rfl) (by kernel_rfl) (by kernel_rfl) (by kernel_rfl) g107 ho) ?_
         refine r_lit (c := (cd5 [1, 1, 1, 0, 1, 0, 0, 1, 0, 0, 1, 1, 0, 1, 0])) (i := 5) (d := (some 83)) (ty := 22) (t := 22) (e := 9) (sz := 1) (n := 1) (parts := #[(0, (.tmp 82))]) (vs := [(0, .string (a0.extract t18.toNat t19.toNat))]) (z := zeroOf Tryd.prog 9) (cs' := ([(a0.extract t18.toNat t19.toNat)] : List ByteArray).flatMap encS) hS77 (by kernel_rfl) (by kernel_rfl) (by kernel_rfl) (by kernel_rfl) (by kernel_rfl) (by decide) (by decide) (by kernel_rfl) rfl (Parts.cons (c := [.string (a0.extract t18.toNat t19.toNat)]) (by kernel_rfl) rfl Parts.nil) rfl ?_
         intro b110 w111 hS112
         have hS113 := hS112.pick1
         obtain ⟨g114, hp115⟩ := ite_some hp108
         refine r_append (c := (cd5 [1, 1, 1, 0, 1, 0, 0, 1, 0, 0, 1, 1, 0, 1, 0])) (i := 6) (d := (some 84)) (ty := 22) (enc := encS) (e := 9) (u := 9) (t := 22) (t2 := 22) (sz := 1) (cp := c16) (A := A15) (bytes := 16) (xs := t14) (ys := ([(a0.extract t18.toNat t19.toNat)] : List ByteArray)) (s := (.tmp 78)) (x := (.tmp 83)) (xv := .slice (some ⟨b110, 0, none⟩) ([(a0.extract t18.toNat t19.toNat)] : List ByteArray).length 1) (info := infoOf Tryd.prog 9) (z := zeroOf Tryd.prog 9) (ycs := ([(a0.extract t18.toNat t19.toNat)] : List ByteArray).flatMap encS) hS113 (by kernel_rfl) (by kernel_rfl) (by kernel_rfl) (by kernel_rfl) (by kernel_rfl) (.inl (by kernel_rfl)) (by kernel_rfl) (by kernel_rfl) (by kernel_rfl) (by kernel_rfl) (by kernel_rfl) (by omega) len_encS one_encS (src_row (hS113.row 1 rfl) (by omega) len_encS) rfl g114 (by omega) ?_
         intro A116 c117 w118 hS119
         refine sx_run 12 (todo' := [.inLoop (cd5 [1, 1, 1, 0, 1, 0, 0]), .inBlock 0, .code (cd5 [1, 1, 1, 1])]) (us := [(3, .slice A116 (t14 ++ ([(a0.extract t18.toNat t19.toNat)] : List ByteArray)).length c117), (85, .int .i64 t19), (4, .int .i64 t19), (11, .int .i64 t19), (12, .int .i64 (IntKind.i64.wrap (t19 + 1))), (5, .int .i64 (IntKind.i64.wrap (t19 + 1)))]) (by kernel_rfl) ?_
         have hS121 := hS119.pick1
         have hS122 := hS121.drop
         refine sx_run 1 (todo' := [.code (cd5 [1, 1, 1, 0, 1, 0, 0]), .inLoop (cd5 [1, 1, 1, 0, 1, 0, 0]), .inBlock 0, .code (cd5 [1, 1, 1, 1])]) (us := []) (by kernel_rfl) ?_
         refine Runs.fill (m := [some (.string a0), none, none, some (.slice A116 (t14 ++ ([(a0.extract t18.toNat t19.toNat)] : List ByteArray)).length c117), some (.int .i64 t19), some (.int .i64 (IntKind.i64.wrap (t19 + 1))), none, none, none, none, none, none, none, none, none, none, none, none, none, none, none, none, none, none, none, none, none, none, none, none, none, none, none, none, none, none, none, none, none, none, none, none, none, none, none, none, none, none, none, none, none, none, none, none, none, none, none, none, none, none, none, none, none, none, none, none, none, none, none, none, none, none, none, none, none, none, none, none, none, none, none, none, none, none, none, none, none]) (by kernel_rfl) ?_
         exact ih26 (t14 ++ ([(a0.extract t18.toNat t19.toNat)] : List ByteArray)) t19 (IntKind.i64.wrap (t19 + 1)) _ hp115 he24 _ A116 c117 _ hS122
      ·skip
       have hp123 := ite_f hp43 h51
       refine sx_run 29 (todo' := [.inLoop (cd5 [1, 1, 1, 0, 1, 0, 0]), .inBlock 0, .code (cd5 [1, 1, 1, 1])]) (us := [(62, .bool false), (63, undef), (64, undef), (65, undef), (66, undef), (67, undef), (68, undef), (69, undef), (70, undef), (71, undef), (72, undef), (73, undef), (74, undef), (75, undef), (76, undef), (77, .bool false), (85, .int .i64 t19), (4, .int .i64 t19), (11, .int .i64 t19), (12, .int .i64 (IntKind.i64.wrap (t19 + 1))), (5, .int .i64 (IntKind.i64.wrap (t19 + 1)))]) (by kernel_rfl) ?_
       refine sx_run 1 (todo' := [.code (cd5 [1, 1, 1, 0, 1, 0, 0]), .inLoop (cd5 [1, 1, 1, 0, 1, 0, 0]), .inBlock 0, .code (cd5 [1, 1, 1, 1])]) (us := []) (by kernel_rfl) ?_
       refine Runs.fill (m := [some (.string a0), none, none, some (.slice A15 t14.length c16), some (.int .i64 t19), some (.int .i64 (IntKind.i64.wrap (t19 + 1))), none, none, none, none, none, none, none, none, none, none, none, none, none, none, none, none, none, none, none, none, none, none, none, none, none, none, none, none, none, none, none, none, none, none, none, none, none, none, none, none, none, none, none, none, none, none, none, none, none, none, none, none, none, none, none, none, none, none, none, none, none, none, none, none, none, none, none, none, none, none, none, none, none, none, none, none, none, none, none, none, none]) (by kernel_rfl) ?_
       exact ih26 t14 t19 (IntKind.i64.wrap (t19 + 1)) _ hp123 he24 _ A15 c16 _ hS45
     refine sx_split 3 (todo' := [.inRegion (opsOf (cd5 [1, 1, 1, 0, 1, 0, 0, 1, 0, 0, 1, 0, 0])) [2, 3, 4, 5, 6, 7], .code (cd5 [1, 1, 1, 0, 1, 0, 0, 1, 0, 0, 1, 0, 1]), .code (cd5 [1, 1, 1, 0, 1, 0, 0, 1, 0, 0, 1, 1]), .inBlock 1, .code (cd5 [1, 1, 1, 0, 1, 0, 0, 1, 1]), .inLoop (cd5 [1, 1, 1, 0, 1, 0, 0]), .inBlock 0, .code (cd5 [1, 1, 1, 1])]) (us := [(51, .bool t35)]) (d := 52) (t := (!t35)) (by kernel_rfl) (fun h124 => ?_) (fun h125 => ?_)
     ·skip
      have hp126 := ite_t hv42 h124
      refine sx_split 5 (todo' := [.inRegion (opsOf (cd5 [1, 1, 1, 0, 1, 0, 0, 1, 0, 0, 1, 0, 0])) [7], .code (cd5 [1, 1, 1, 0, 1, 0, 0, 1, 0, 0, 1, 0, 1]), .code (cd5 [1, 1, 1, 0, 1, 0, 0, 1, 0, 0, 1, 1]), .inBlock 1, .code (cd5 [1, 1, 1, 0, 1, 0, 0, 1, 1]), .inLoop (cd5 [1, 1, 1, 0, 1, 0, 0]), .inBlock 0, .code (cd5 [1, 1, 1, 1])]) (us := [(53, .bool true), (54, .int .i64 t19), (55, .string a0), (56, .int .i64 (a0.size : Int))]) (d := 57) (t := (decide (t19 < (a0.size : Int)))) (by kernel_rfl) (fun h127 => ?_) (fun h128 => ?_)
      ·skip
       have hp129 := ite_t hp126 h127
       refine sx_run 9 (todo' := [.inLoop (cd5 [1, 1, 1, 0, 1, 0, 0]), .inBlock 0, .code (cd5 [1, 1, 1, 1])]) (us := [(58, .bool true), (11, .int .i64 t19), (12, .int .i64 (IntKind.i64.wrap (t19 + 1))), (5, .int .i64 (IntKind.i64.wrap (t19 + 1)))]) (by kernel_rfl) ?_
       obtain ⟨x130, hx131, hy132⟩ := bind_some' hp129
       have hz133 := (hq46 _ (Option.some.inj hy132))
       subst hz133
       refine sx_run 1 (todo' := [.code (cd5 [1, 1, 1, 0, 1, 0, 0]), .inLoop (cd5 [1, 1, 1, 0, 1, 0, 0]), .inBlock 0, .code (cd5 [1, 1, 1, 1])]) (us := []) (by kernel_rfl) ?_
       refine Runs.fill (m := [some (.string a0), none, none, some (.slice A15 t14.length c16), some (.int .i64 t18), some (.int .i64 (IntKind.i64.wrap (t19 + 1))), none, none, none, none, none, none, none, none, none, none, none, none, none, none, none, none, none, none, none, none, none, none, none, none, none, none, none, none, none, none, none, none, none, none, none, none, none, none, none, none, none, none, none, none, none, none, none, none, none, none, none, none, none, none, none, none, none, none, none, none, none, none, none, none, none, none, none, none, none, none, none, none, none, none, none, none, none, none, none, none, none]) (by kernel_rfl) ?_
       exact ih26 t14 t18 (IntKind.i64.wrap (t19 + 1)) _ hx131 he24 _ A15 c16 _ hS37
      ·skip
       have hp134 := ite_f hp126 h128
       refine sx_run 4 (todo' := [.code (cd5 [1, 1, 1, 0, 1, 0, 0, 1, 0, 0, 1, 1]), .inBlock 1, .code (cd5 [1, 1, 1, 0, 1, 0, 0, 1, 1]), .inLoop (cd5 [1, 1, 1, 0, 1, 0, 0]), .inBlock 0, .code (cd5 [1, 1, 1, 1])]) (us := [(58, .bool false)]) (by kernel_rfl) ?_
       refine Runs.fill (m := [some (.string a0), none, none, some (.slice A15 t14.length c16), some (.int .i64 t18), some (.int .i64 t19), none, none, none, none, none, none, none, none, none, none, none, none, none, none, none, none, none, none, none, none, none, none, none, none, none, none, none, none, none, none, none, none, none, none, none, none, none, none, none, none, none, none, none, none, none, none, none, none, none, none, none, none, none, none, none, none, none, none, none, none, none, none, none, none, none, none, none, none, none, none, none, none, none, none, none, none, none, none, none, none, none]) (by kernel_rfl) ?_
       exact J47 (Option.some.inj hp134) _ _ hS37
     ·skip
      have hp135 := ite_f hv42 h125
      refine sx_run 9 (todo' := [.code (cd5 [1, 1, 1, 0, 1, 0, 0, 1, 0, 0, 1, 1]), .inBlock 1, .code (cd5 [1, 1, 1, 0, 1, 0, 0, 1, 1]), .inLoop (cd5 [1, 1, 1, 0, 1, 0, 0]), .inBlock 0, .code (cd5 [1, 1, 1, 1])]) (us := [(53, .bool false), (54, undef), (55, undef), (56, undef), (57, undef), (58, .bool false)]) (by kernel_rfl) ?_
      refine Runs.fill (m := [some (.string a0), none, none, some (.slice A15 t14.length c16), some (.int .i64 t18), some (.int .i64 t19), none, none, none, none, none, none, none, none, none, none, none, none, none, none, none, none, none, none, none, none, none, none, none, none, none, none, none, none, none, none, none, none, none, none, none, none, none, none, none, none, none, none, none, none, none, none, none, none, none, none, none, none, none, none, none, none, none, none, none, none, none, none, none, none, none, none, none, none, none, none, none, none, none, none, none, none, none, none, none, none, none]) (by kernel_rfl) ?_
      exact J47 (Option.some.inj hp135) _ _ hS37
    refine sx_split 12 (todo' := [.inRegion (opsOf (cd5 [1, 1, 1, 0, 1, 0, 0, 1, 0, 0, 0])) [5, 6, 7, 8, 9, 10, 11, 12, 13, 14, 15, 16, 17, 18, 19, 20, 21, 22, 23, 24, 25, 26, 27, 28, 29, 30, 31, 32, 33, 34, 35, 36, 37, 38], .code (cd5 [1, 1, 1, 0, 1, 0, 0, 1, 0, 0, 1]), .inBlock 1, .code (cd5 [1, 1, 1, 0, 1, 0, 0, 1, 1]), .inLoop (cd5 [1, 1, 1, 0, 1, 0, 0]), .inBlock 0, .code (cd5 [1, 1, 1, 1])]) (us := [(13, .int .i64 t19), (14, .int .i64 (IntKind.i64.wrap (t19 + 4))), (15, .string a0), (16, .int .i64 (a0.size : Int))]) (d := 17) (t := (decide ((IntKind.i64.wrap (t19 + 4)) ≤ (a0.size : Int)))) (by kernel_rfl) (fun h136 => ?_) (fun h137 => ?_)
    ·skip
     have hp138 := ite_t hv33 h136
     refine sx_run 5 (todo' := [.inRegion (opsOf (cd5 [1, 1, 1, 0, 1, 0, 0, 1, 0, 0, 0])) [10, 11, 12, 13, 14, 15, 16, 17, 18, 19, 20, 21, 22, 23, 24, 25, 26, 27, 28, 29, 30, 31, 32, 33, 34, 35, 36, 37, 38], .code (cd5 [1, 1, 1, 0, 1, 0, 0, 1, 0, 0, 1]), .inBlock 1, .code (cd5 [1, 1, 1, 0, 1, 0, 0, 1, 1]), .inLoop (cd5 [1, 1, 1, 0, 1, 0, 0]), .inBlock 0, .code (cd5 [1, 1, 1, 1])]) (us := [(18, .bool true), (19, .string a0), (20, .int .i64 t19), (21, .int .i64 t19), (22, .int .i64 (IntKind.i64.wrap (t19 + 3)))]) (by kernel_rfl) ?_
     obtain ⟨g139, hp140⟩ := ite_some hp138
     refine r_val (c := (cd5 [1, 1, 1, 0, 1, 0, 0, 1, 0, 0, 0])) (i := 10) (d := (some 23)) (ty := 9) (op := .slice 9 (.tmp 19) (some (.tmp 20)) (some (.tmp 22)) none) (v := .string (a0.extract t19.toNat (IntKind.i64.wrap (t19 + 3)).toNat)) (by kernel_rfl) (by kernel_rfl) (fun o ho _ => x_cutStr_ss (k := .i64) (k' := .i64) (by kernel_rfl) (by kernel_rfl) (by kernel_rfl) (by kernel_rfl) g139 ho) ?_
     refine sx_split 1 (todo' := [.inRegion (opsOf (cd5 [1, 1, 1, 0, 1, 0, 0, 1, 0, 0, 0])) [12, 13, 14, 15, 16, 17, 18, 19, 20, 21, 22, 23, 24, 25, 26, 27, 28, 29, 30, 31, 32, 33, 34, 35, 36, 37, 38], .code (cd5 [1, 1, 1, 0, 1, 0, 0, 1, 0, 0, 1]), .inBlock 1, .code (cd5 [1, 1, 1, 0, 1, 0, 0, 1, 1]), .inLoop (cd5 [1, 1, 1, 0, 1, 0, 0]), .inBlock 0, .code (cd5 [1, 1, 1, 1])]) (us := []) (d := 24) (t := (seq (a0.extract t19.toNat (IntKind.i64.wrap (t19 + 3)).toNat) (⟨#[88, 56, 54]⟩ : ByteArray))) (by kernel_rfl) (fun h141 => ?_) (fun h142 => ?_)
     ·skip
      have hp143 := ite_t hp140 h141
      refine sx_run 5 (todo' := [.inRegion (opsOf (cd5 [1, 1, 1, 0, 1, 0, 0, 1, 0, 0, 0])) [17, 18, 19, 20, 21, 22, 23, 24, 25, 26, 27, 28, 29, 30, 31, 32, 33, 34, 35, 36, 37, 38], .code (cd5 [1, 1, 1, 0, 1, 0, 0, 1, 0, 0, 1]), .inBlock 1, .code (cd5 [1, 1, 1, 0, 1, 0, 0, 1, 1]), .inLoop (cd5 [1, 1, 1, 0, 1, 0, 0]), .inBlock 0, .code (cd5 [1, 1, 1, 1])]) (us := [(25, .bool true), (26, .bool true), (27, .string a0), (28, .int .i64 t19), (29, .int .i64 (IntKind.i64.wrap (t19 + 3)))]) (by kernel_rfl) ?_
      obtain ⟨g144, hp145⟩ := ite_some hp143
      refine r_val (c := (cd5 [1, 1, 1, 0, 1, 0, 0, 1, 0, 0, 0])) (i := 17) (d := (some 30)) (ty := 5) (op := .index 9 (.tmp 27) (.tmp 29)) (v := .int .u8 (byt a0 (IntKind.i64.wrap (t19 + 3)))) (by kernel_rfl) (by kernel_rfl) (fun o ho _ => x_indexStr (kk := .i64) (by kernel_rfl) (by kernel_rfl) (by kernel_rfl) g144.1 g144.2 ho) ?_
      refine sx_split 1 (todo' := [.inRegion (opsOf (cd5 [1, 1, 1, 0, 1, 0, 0, 1, 0, 0, 0])) [19, 20, 21, 22, 23, 24, 25, 26, 27, 28, 29, 30, 31, 32, 33, 34, 35, 36, 37, 38], .code (cd5 [1, 1, 1, 0, 1, 0, 0, 1, 0, 0, 1]), .inBlock 1, .code (cd5 [1, 1, 1, 0, 1, 0, 0, 1, 1]), .inLoop (cd5 [1, 1, 1, 0, 1, 0, 0]), .inBlock 0, .code (cd5 [1, 1, 1, 1])]) (us := []) (d := 31) (t := ((byt a0 (IntKind.i64.wrap (t19 + 3))) == 32)) (by kernel_rfl) (fun h146 => ?_) (fun h147 => ?_)
      ·skip
       have hp148 := ite_t hp145 h146
       refine sx_split 11 (todo' := [.inRegion (opsOf (cd5 [1, 1, 1, 0, 1, 0, 0, 1, 0, 0, 0])) [30, 31, 32, 33, 34, 35, 36, 37, 38], .code (cd5 [1, 1, 1, 0, 1, 0, 0, 1, 0, 0, 1]), .inBlock 1, .code (cd5 [1, 1, 1, 0, 1, 0, 0, 1, 1]), .inLoop (cd5 [1, 1, 1, 0, 1, 0, 0]), .inBlock 0, .code (cd5 [1, 1, 1, 1])]) (us := [(32, .bool true), (33, undef), (34, undef), (35, undef), (36, undef), (37, undef), (38, .bool true), (39, .bool true), (40, .bool true), (41, .int .i64 t19)]) (d := 42) (t := (t19 == 0)) (by kernel_rfl) (fun h149 => ?_) (fun h150 => ?_)
       ·skip
        have hp151 := ite_t hp148 h149
        refine sx_run 12 (todo' := [.code (cd5 [1, 1, 1, 0, 1, 0, 0, 1, 0, 0, 1, 0, 0]), .code (cd5 [1, 1, 1, 0, 1, 0, 0, 1, 0, 0, 1, 0, 1]), .code (cd5 [1, 1, 1, 0, 1, 0, 0, 1, 0, 0, 1, 1]), .inBlock 1, .code (cd5 [1, 1, 1, 0, 1, 0, 0, 1, 1]), .inLoop (cd5 [1, 1, 1, 0, 1, 0, 0]), .inBlock 0, .code (cd5 [1, 1, 1, 1])]) (us := [(43, .bool true), (44, undef), (45, undef), (46, undef), (47, undef), (48, undef), (49, .bool true), (50, .bool true), (6, .bool true)]) (by kernel_rfl) ?_
        refine Runs.fill (m := [some (.string a0), none, none, some (.slice A15 t14.length c16), some (.int .i64 t18), some (.int .i64 t19), some (.bool true), none, none, none, none, none, none, none, none, none, none, none, none, none, none, none, none, none, none, none, none, none, none, none, none, none, none, none, none, none, none, none, none, none, none, none, none, none, none, none, none, none, none, none, none, none, none, none, none, none, none, none, none, none, none, none, none, none, none, none, none, none, none, none, none, none, none, none, none, none, none, none, none, none, none, none, none, none, none, none, none]) (by kernel_rfl) ?_
        exact J38 true (Option.some.inj hp151) _ _ hS21
       ·skip
        have hp152 := ite_f hp148 h150
        refine sx_run 4 (todo' := [.inRegion (opsOf (cd5 [1, 1, 1, 0, 1, 0, 0, 1, 0, 0, 0])) [34, 35, 36, 37, 38], .code (cd5 [1, 1, 1, 0, 1, 0, 0, 1, 0, 0, 1]), .inBlock 1, .code (cd5 [1, 1, 1, 0, 1, 0, 0, 1, 1]), .inLoop (cd5 [1, 1, 1, 0, 1, 0, 0]), .inBlock 0, .code (cd5 [1, 1, 1, 1])]) (us := [(43, .bool false), (44, .string a0), (45, .int .i64 t19), (46, .int .i64 (IntKind.i64.wrap (t19 - 1)))]) (by kernel_rfl) ?_
        obtain ⟨g153, hp154⟩ := ite_some hp152
        refine r_val (c := (cd5 [1, 1, 1, 0, 1, 0, 0, 1, 0, 0, 0])) (i := 34) (d := (some 47)) (ty := 5) (op := .index 9 (.tmp 44) (.tmp 46)) (v := .int .u8 (byt a0 (IntKind.i64.wrap (t19 - 1)))) (by kernel_rfl) (by kernel_rfl) (fun o ho _ => x_indexStr (kk := .i64) (by kernel_rfl) (by kernel_rfl) (by kernel_rfl) g153.1 g153.2 ho) ?_
        refine sx_split 1 (todo' := [.inRegion (opsOf (cd5 [1, 1, 1, 0, 1, 0, 0, 1, 0, 0, 0])) [36, 37, 38], .code (cd5 [1, 1, 1, 0, 1, 0, 0, 1, 0, 0, 1]), .inBlock 1, .code (cd5 [1, 1, 1, 0, 1, 0, 0, 1, 1]), .inLoop (cd5 [1, 1, 1, 0, 1, 0, 0]), .inBlock 0, .code (cd5 [1, 1, 1, 1])]) (us := []) (d := 48) (t := ((byt a0 (IntKind.i64.wrap (t19 - 1))) == 10)) (by kernel_rfl) (fun h155 => ?_) (fun h156 => ?_)
        ·skip
         have hp157 := ite_t hp154 h155
         refine sx_run 6 (todo' := [.code (cd5 [1, 1, 1, 0, 1, 0, 0, 1, 0, 0, 1, 0, 0]), .code (cd5 [1, 1, 1, 0, 1, 0, 0, 1, 0, 0, 1, 0, 1]), .code (cd5 [1, 1, 1, 0, 1, 0, 0, 1, 0, 0, 1, 1]), .inBlock 1, .code (cd5 [1, 1, 1, 0, 1, 0, 0, 1, 1]), .inLoop (cd5 [1, 1, 1, 0, 1, 0, 0]), .inBlock 0, .code (cd5 [1, 1, 1, 1])]) (us := [(49, .bool true), (50, .bool true), (6, .bool true)]) (by kernel_rfl) ?_
         refine Runs.fill (m := [some (.string a0), none, none, some (.slice A15 t14.length c16), some (.int .i64 t18), some (.int .i64 t19), some (.bool true), none, none, none, none, none, none, none, none, none, none, none, none, none, none, none, none, none, none, none, none, none, none, none, none, none, none, none, none, none, none, none, none, none, none, none, none, none, none, none, none, none, none, none, none, none, none, none, none, none, none, none, none, none, none, none, none, none, none, none, none, none, none, none, none, none, none, none, none, none, none, none, none, none, none, none, none, none, none, none, none]) (by kernel_rfl) ?_
         exact J38 true (Option.some.inj hp157) _ _ hS21
        ·skip
         have hp158 := ite_f hp154 h156
         refine sx_run 6 (todo' := [.code (cd5 [1, 1, 1, 0, 1, 0, 0, 1, 0, 0, 1, 0, 0]), .code (cd5 [1, 1, 1, 0, 1, 0, 0, 1, 0, 0, 1, 0, 1]), .code (cd5 [1, 1, 1, 0, 1, 0, 0, 1, 0, 0, 1, 1]), .inBlock 1, .code (cd5 [1, 1, 1, 0, 1, 0, 0, 1, 1]), .inLoop (cd5 [1, 1, 1, 0, 1, 0, 0]), .inBlock 0, .code (cd5 [1, 1, 1, 1])]) (us := [(49, .bool false), (50, .bool false), (6, .bool false)]) (by kernel_rfl) ?_
         refine Runs.fill (m := [some (.string a0), none, none, some (.slice A15 t14.length c16), some (.int .i64 t18), some (.int .i64 t19), some (.bool false), none, none, none, none, none, none, none, none, none, none, none, none, none, none, none, none, none, none, none, none, none, none, none, none, none, none, none, none, none, none, none, none, none, none, none, none, none, none, none, none, none, none, none, none, none, none, none, none, none, none, none, none, none, none, none, none, none, none, none, none, none, none, none, none, none, none, none, none, none, none, none, none, none, none, none, none, none, none, none, none]) (by kernel_rfl) ?_
         exact J38 false (Option.some.inj hp158) _ _ hS21
      ·skip
       have hp159 := ite_f hp145 h147
       refine sx_run 4 (todo' := [.inRegion (opsOf (cd5 [1, 1, 1, 0, 1, 0, 0, 1, 0, 0, 0])) [23, 24, 25, 26, 27, 28, 29, 30, 31, 32, 33, 34, 35, 36, 37, 38], .code (cd5 [1, 1, 1, 0, 1, 0, 0, 1, 0, 0, 1]), .inBlock 1, .code (cd5 [1, 1, 1, 0, 1, 0, 0, 1, 1]), .inLoop (cd5 [1, 1, 1, 0, 1, 0, 0]), .inBlock 0, .code (cd5 [1, 1, 1, 1])]) (us := [(32, .bool false), (33, .string a0), (34, .int .i64 t19), (35, .int .i64 (IntKind.i64.wrap (t19 + 3)))]) (by kernel_rfl) ?_
       obtain ⟨g160, hp161⟩ := ite_some hp159
       refine r_val (c := (cd5 [1, 1, 1, 0, 1, 0, 0, 1, 0, 0, 0])) (i := 23) (d := (some 36)) (ty := 5) (op := .index 9 (.tmp 33) (.tmp 35)) (v := .int .u8 (byt a0 (IntKind.i64.wrap (t19 + 3)))) (by kernel_rfl) (by kernel_rfl) (fun o ho _ => x_indexStr (kk := .i64) (by kernel_rfl) (by kernel_rfl) (by kernel_rfl) g160.1 g160.2 ho) ?_
       refine sx_split 1 (todo' := [.inRegion (opsOf (cd5 [1, 1, 1, 0, 1, 0, 0, 1, 0, 0, 0])) [25, 26, 27, 28, 29, 30, 31, 32, 33, 34, 35, 36, 37, 38], .code (cd5 [1, 1, 1, 0, 1, 0, 0, 1, 0, 0, 1]), .inBlock 1, .code (cd5 [1, 1, 1, 0, 1, 0, 0, 1, 1]), .inLoop (cd5 [1, 1, 1, 0, 1, 0, 0]), .inBlock 0, .code (cd5 [1, 1, 1, 1])]) (us := []) (d := 37) (t := ((byt a0 (IntKind.i64.wrap (t19 + 3))) == 9)) (by kernel_rfl) (fun h162 => ?_) (fun h163 => ?_)
       ·skip
        have hp164 := ite_t hp161 h162
        refine sx_split 5 (todo' := [.inRegion (opsOf (cd5 [1, 1, 1, 0, 1, 0, 0, 1, 0, 0, 0])) [30, 31, 32, 33, 34, 35, 36, 37, 38], .code (cd5 [1, 1, 1, 0, 1, 0, 0, 1, 0, 0, 1]), .inBlock 1, .code (cd5 [1, 1, 1, 0, 1, 0, 0, 1, 1]), .inLoop (cd5 [1, 1, 1, 0, 1, 0, 0]), .inBlock 0, .code (cd5 [1, 1, 1, 1])]) (us := [(38, .bool true), (39, .bool true), (40, .bool true), (41, .int .i64 t19)]) (d := 42) (t := (t19 == 0)) (by kernel_rfl) (fun h165 => ?_) (fun h166 => ?_)
        ·skip
         have hp167 := ite_t hp164 h165
         refine sx_run 12 (todo' := [.code (cd5 [1, 1, 1, 0, 1, 0, 0, 1, 0, 0, 1, 0, 0]), .code (cd5 [1, 1, 1, 0, 1, 0, 0, 1, 0, 0, 1, 0, 1]), .code (cd5 [1, 1, 1, 0, 1, 0, 0, 1, 0, 0, 1, 1]), .inBlock 1, .code (cd5 [1, 1, 1, 0, 1, 0, 0, 1, 1]), .inLoop (cd5 [1, 1, 1, 0, 1, 0, 0]), .inBlock 0, .code (cd5 [1, 1, 1, 1])]) (us := [(43, .bool true), (44, undef), (45, undef), (46, undef), (47, undef), (48, undef), (49, .bool true), (50, .bool true), (6, .bool true)]) (by kernel_rfl) ?_
         refine Runs.fill (m := [some (.string a0), none, none, some (.slice A15 t14.length c16), some (.int .i64 t18), some (.int .i64 t19), some (.bool true), none, none, none, none, none, none, none, none, none, none, none, none, none, none, none, none, none, none, none, none, none, none, none, none, none, none, none, none, none, none, none, none, none, none, none, none, none, none, none, none, none, none, none, none, none, none, none, none, none, none, none, none, none, none, none, none, none, none, none, none, none, none, none, none, none, none, none, none, none, none, none, none, none, none, none, none, none, none, none, none]) (by kernel_rfl) ?_
         exact J38 true (Option.some.inj hp167) _ _ hS21
        ·skip
         have hp168 := ite_f hp164 h166
         refine sx_run 4 (todo' := [.inRegion (opsOf (cd5 [1, 1, 1, 0, 1, 0, 0, 1, 0, 0, 0])) [34, 35, 36, 37, 38], .code (cd5 [1, 1, 1, 0, 1, 0, 0, 1, 0, 0, 1]), .inBlock 1, .code (cd5 [1, 1, 1, 0, 1, 0, 0, 1, 1]), .inLoop (cd5 [1, 1, 1, 0, 1, 0, 0]), .inBlock 0, .code (cd5 [1, 1, 1, 1])]) (us := [(43, .bool false), (44, .string a0), (45, .int .i64 t19), (46, .int .i64 (IntKind.i64.wrap (t19 - 1)))]) (by kernel_rfl) ?_
         obtain ⟨g169, hp170⟩ := ite_some hp168
         refine r_val (c := (cd5 [1, 1, 1, 0, 1, 0, 0, 1, 0, 0, 0])) (i := 34) (d := (some 47)) (ty := 5) (op := .index 9 (.tmp 44) (.tmp 46)) (v := .int .u8 (byt a0 (IntKind.i64.wrap (t19 - 1)))) (by kernel_rfl) (by kernel_rfl) (fun o ho _ => x_indexStr (kk := .i64) (by kernel_rfl) (by kernel_rfl) (by kernel_rfl) g169.1 g169.2 ho) ?_
         refine sx_split 1 (todo' := [.inRegion (opsOf (cd5 [1, 1, 1, 0, 1, 0, 0, 1, 0, 0, 0])) [36, 37, 38], .code (cd5 [1, 1, 1, 0, 1, 0, 0, 1, 0, 0, 1]), .inBlock 1, .code (cd5 [1, 1, 1, 0, 1, 0, 0, 1, 1]), .inLoop (cd5 [1, 1, 1, 0, 1, 0, 0]), .inBlock 0, .code (cd5 [1, 1, 1, 1])]) (us := []) (d := 48) (t := ((byt a0 (IntKind.i64.wrap (t19 - 1))) == 10)) (by kernel_rfl) (fun h171 => ?_) (fun h172 => ?_)
         ·skip
          have hp173 := ite_t hp170 h171
          refine sx_run 6 (todo' := [.code (cd5 [1, 1, 1, 0, 1, 0, 0, 1, 0, 0, 1, 0, 0]), .code (cd5 [1, 1, 1, 0, 1, 0, 0, 1, 0, 0, 1, 0, 1]), .code (cd5 [1, 1, 1, 0, 1, 0, 0, 1, 0, 0, 1, 1]), .inBlock 1, .code (cd5 [1, 1, 1, 0, 1, 0, 0, 1, 1]), .inLoop (cd5 [1, 1, 1, 0, 1, 0, 0]), .inBlock 0, .code (cd5 [1, 1, 1, 1])]) (us := [(49, .bool true), (50, .bool true), (6, .bool true)]) (by kernel_rfl) ?_
          refine Runs.fill (m := [some (.string a0), none, none, some (.slice A15 t14.length c16), some (.int .i64 t18), some (.int .i64 t19), some (.bool true), none, none, none, none, none, none, none, none, none, none, none, none, none, none, none, none, none, none, none, none, none, none, none, none, none, none, none, none, none, none, none, none, none, none, none, none, none, none, none, none, none, none, none, none, none, none, none, none, none, none, none, none, none, none, none, none, none, none, none, none, none, none, none, none, none, none, none, none, none, none, none, none, none, none, none, none, none, none, none, none]) (by kernel_rfl) ?_
          exact J38 true (Option.some.inj hp173) _ _ hS21
         ·skip
          have hp174 := ite_f hp170 h172
          refine sx_run 6 (todo' := [.code (cd5 [1, 1, 1, 0, 1, 0, 0, 1, 0, 0, 1, 0, 0]), .code (cd5 [1, 1, 1, 0, 1, 0, 0, 1, 0, 0, 1, 0, 1]), .code (cd5 [1, 1, 1, 0, 1, 0, 0, 1, 0, 0, 1, 1]), .inBlock 1, .code (cd5 [1, 1, 1, 0, 1, 0, 0, 1, 1]), .inLoop (cd5 [1, 1, 1, 0, 1, 0, 0]), .inBlock 0, .code (cd5 [1, 1, 1, 1])]) (us := [(49, .bool false), (50, .bool false), (6, .bool false)]) (by kernel_rfl) ?_
          refine Runs.fill (m := [some (.string a0), none, none, some (.slice A15 t14.length c16), some (.int .i64 t18), some (.int .i64 t19), some (.bool false), none, none, none, none, none, none, none, none, none, none, none, none, none, none, none, none, none, none, none, none, none, none, none, none, none, none, none, none, none, none, none, none, none, none, none, none, none, none, none, none, none, none, none, none, none, none, none, none, none, none, none, none, none, none, none, none, none, none, none, none, none, none, none, none, none, none, none, none, none, none, none, none, none, none, none, none, none, none, none, none]) (by kernel_rfl) ?_
          exact J38 false (Option.some.inj hp174) _ _ hS21
       ·skip
        have hp175 := ite_f hp161 h163
        refine sx_run 17 (todo' := [.code (cd5 [1, 1, 1, 0, 1, 0, 0, 1, 0, 0, 1, 0, 0]), .code (cd5 [1, 1, 1, 0, 1, 0, 0, 1, 0, 0, 1, 0, 1]), .code (cd5 [1, 1, 1, 0, 1, 0, 0, 1, 0, 0, 1, 1]), .inBlock 1, .code (cd5 [1, 1, 1, 0, 1, 0, 0, 1, 1]), .inLoop (cd5 [1, 1, 1, 0, 1, 0, 0]), .inBlock 0, .code (cd5 [1, 1, 1, 1])]) (us := [(38, .bool false), (39, .bool false), (40, .bool false), (41, undef), (42, undef), (43, undef), (44, undef), (45, undef), (46, undef), (47, undef), (48, undef), (49, undef), (50, .bool false), (6, .bool false)]) (by kernel_rfl) ?_
        refine Runs.fill (m := [some (.string a0), none, none, some (.slice A15 t14.length c16), some (.int .i64 t18), some (.int .i64 t19), some (.bool false), none, none, none, none, none, none, none, none, none, none, none, none, none, none, none, none, none, none, none, none, none, none, none, none, none, none, none, none, none, none, none, none, none, none, none, none, none, none, none, none, none, none, none, none, none, none, none, none, none, none, none, none, none, none, none, none, none, none, none, none, none, none, none, none, none, none, none, none, none, none, none, none, none, none, none, none, none, none, none, none]) (by kernel_rfl) ?_
        exact J38 false (Option.some.inj hp175) _ _ hS21
     ·skip
      have hp176 := ite_f hp140 h142
      refine sx_run 30 (todo' := [.code (cd5 [1, 1, 1, 0, 1, 0, 0, 1, 0, 0, 1, 0, 0]), .code (cd5 [1, 1, 1, 0, 1, 0, 0, 1, 0, 0, 1, 0, 1]), .code (cd5 [1, 1, 1, 0, 1, 0, 0, 1, 0, 0, 1, 1]), .inBlock 1, .code (cd5 [1, 1, 1, 0, 1, 0, 0, 1, 1]), .inLoop (cd5 [1, 1, 1, 0, 1, 0, 0]), .inBlock 0, .code (cd5 [1, 1, 1, 1])]) (us := [(25, .bool false), (26, .bool false), (27, undef), (28, undef), (29, undef), (30, undef), (31, undef), (32, undef), (33, undef), (34, undef), (35, undef), (36, undef), (37, undef), (38, undef), (39, .bool false), (40, .bool false), (41, undef), (42, undef), (43, undef), (44, undef), (45, undef), (46, undef), (47, undef), (48, undef), (49, undef), (50, .bool false), (6, .bool false)]) (by kernel_rfl) ?_
      refine Runs.fill (m := [some (.string a0), none, none, some (.slice A15 t14.length c16), some (.int .i64 t18), some (.int .i64 t19), some (.bool false), none, none, none, none, none, none, none, none, none, none, none, none, none, none, none, none, none, none, none, none, none, none, none, none, none, none, none, none, none, none, none, none, none, none, none, none, none, none, none, none, none, none, none, none, none, none, none, none, none, none, none, none, none, none, none, none, none, none, none, none, none, none, none, none, none, none, none, none, none, none, none, none, none, none, none, none, none, none, none, none]) (by kernel_rfl) ?_
      exact J38 false (Option.some.inj hp176) _ _ hS21
    ·skip
     have hp177 := ite_f hv33 h137
     refine sx_run 37 (todo' := [.code (cd5 [1, 1, 1, 0, 1, 0, 0, 1, 0, 0, 1, 0, 0]), .code (cd5 [1, 1, 1, 0, 1, 0, 0, 1, 0, 0, 1, 0, 1]), .code (cd5 [1, 1, 1, 0, 1, 0, 0, 1, 0, 0, 1, 1]), .inBlock 1, .code (cd5 [1, 1, 1, 0, 1, 0, 0, 1, 1]), .inLoop (cd5 [1, 1, 1, 0, 1, 0, 0]), .inBlock 0, .code (cd5 [1, 1, 1, 1])]) (us := [(18, .bool false), (19, undef), (20, undef), (21, undef), (22, undef), (23, undef), (24, undef), (25, .bool false), (26, .bool false), (27, undef), (28, undef), (29, undef), (30, undef), (31, undef), (32, undef), (33, undef), (34, undef), (35, undef), (36, undef), (37, undef), (38, undef), (39, .bool false), (40, .bool false), (41, undef), (42, undef), (43, undef), (44, undef), (45, undef), (46, undef), (47, undef), (48, undef), (49, undef), (50, .bool false), (6, .bool false)]) (by kernel_rfl) ?_
     refine Runs.fill (m := [some (.string a0), none, none, some (.slice A15 t14.length c16), some (.int .i64 t18), some (.int .i64 t19), some (.bool false), none, none, none, none, none, none, none, none, none, none, none, none, none, none, none, none, none, none, none, none, none, none, none, none, none, none, none, none, none, none, none, none, none, none, none, none, none, none, none, none, none, none, none, none, none, none, none, none, none, none, none, none, none, none, none, none, none, none, none, none, none, none, none, none, none, none, none, none, none, none, none, none, none, none, none, none, none, none, none, none]) (by kernel_rfl) ?_
     exact J38 false (Option.some.inj hp177) _ _ hS21
   ·skip
    have hp178 := ite_f hb25 h30
    refine sx_run 3 (todo' := [.code (cd5 [1, 1, 1, 1])]) (us := []) (by kernel_rfl) ?_
    refine Runs.fill (m := [none, none, none, some (.slice A15 t14.length c16), none, none, none, none, none, none, none, none, none, none, none, none, none, none, none, none, none, none, none, none, none, none, none, none, none, none, none, none, none, none, none, none, none, none, none, none, none, none, none, none, none, none, none, none, none, none, none, none, none, none, none, none, none, none, none, none, none, none, none, none, none, none, none, none, none, none, none, none, none, none, none, none, none, none, none, none, none, none, none, none, none, none, none]) (by kernel_rfl) ?_
    exact J10 t14 ((Option.some.inj hp178).trans he24) _ A15 c16 _ hS21
  have hS180 := hS0.nilrow none 9 1
  refine Runs.fill (m := [some (.string a0), none, none, some (.slice none 0 0), some (.int .i64 0), some (.int .i64 0), none, none, none, none, none, none, none, none, none, none, none, none, none, none, none, none, none, none, none, none, none, none, none, none, none, none, none, none, none, none, none, none, none, none, none, none, none, none, none, none, none, none, none, none, none, none, none, none, none, none, none, none, none, none, none, none, none, none, none, none, none, none, none, none, none, none, none, none, none, none, none, none, none, none, none, none, none, none, none, none, none]) (by kernel_rfl) ?_
  exact L28 [] 0 0 _ hv2 rfl _ none 0 _ hS180

noncomputable def cd3 (p : List Nat) : Code := sub (bodyOf Tryd.f3) p
def weirlaw07_LitmusSplits.l2 (a0 : ByteArray) (t1 : List ByteArray) (t63 : Int) (t64 : Int) : Option (Sum Unit Bool) :=
  (if (decide (t64 < (t1.length : Int))) = true then (if 0 ≤ t64 ∧ t64 < (t1.length : Int) then (if 0 ≤ t63 ∧ t63 ≤ (IntKind.i64.wrap (t63 + ((gt t1 t64).size : Int))) ∧ (IntKind.i64.wrap (t63 + ((gt t1 t64).size : Int))) ≤ (a0.size : Int) then (if 0 ≤ t64 ∧ t64 < (t1.length : Int) then (if (!seq (a0.extract t63.toNat (IntKind.i64.wrap (t63 + ((gt t1 t64).size : Int))).toNat) (gt t1 t64)) = true then some (.inr (false)) else (if 0 ≤ t64 ∧ t64 < (t1.length : Int) then (weirlaw07_LitmusSplits.l2 a0 t1 (IntKind.i64.wrap (t63 + ((gt t1 t64).size : Int))) (IntKind.i64.wrap (t64 + 1))) else none)) else none) else none) else none) else some (.inl ()))
 partial_fixpoint
def weirlaw07_LitmusSplits.l1 (a0 : ByteArray) (t30 : Int) (t109 : Int) : Option (Sum Unit Bool) :=
  (if (decide (t109 < (IntKind.i64.wrap ((a0.size : Int) - t30)))) = true then (if 0 ≤ t109 ∧ t109 < (a0.size : Int) then (if ((byt a0 t109) != 32) = true then (if 0 ≤ t109 ∧ t109 < (a0.size : Int) then (if ((byt a0 t109) != 9) = true then (if 0 ≤ t109 ∧ t109 < (a0.size : Int) then (if ((byt a0 t109) != 10) = true then (if 0 ≤ t109 ∧ t109 < (a0.size : Int) then (if ((byt a0 t109) != 13) = true then some (.inr (false)) else (weirlaw07_LitmusSplits.l1 a0 t30 (IntKind.i64.wrap (t109 + 1)))) else none) else (weirlaw07_LitmusSplits.l1 a0 t30 (IntKind.i64.wrap (t109 + 1)))) else none) else (weirlaw07_LitmusSplits.l1 a0 t30 (IntKind.i64.wrap (t109 + 1)))) else none) else (weirlaw07_LitmusSplits.l1 a0 t30 (IntKind.i64.wrap (t109 + 1)))) else none) else some (.inl ()))
 partial_fixpoint
def weirlaw07_LitmusSplits.l0 (t1 : List ByteArray) (t12 : List ByteArray) (t150 : Int) (t151 : Int) : Option (Sum Int Bool) :=
  (if (decide (t151 < (t1.length : Int))) = true then (if 0 ≤ t151 ∧ t151 < (t1.length : Int) then (if 0 ≤ t151 ∧ t151 < (t12.length : Int) then (if (!seq (gt t1 t151) (gt t12 t151)) = true then some (.inr (false)) else (if 0 ≤ t151 ∧ t151 < (t1.length : Int) then (if (seq (gt t1 t151) (⟨#[]⟩ : ByteArray)) = true then some (.inr (false)) else (if 0 ≤ t151 ∧ t151 < (t1.length : Int) then (weirlaw07_LitmusSplits.l0 t1 t12 (IntKind.i64.wrap (t150 + ((gt t1 t151).size : Int))) (IntKind.i64.wrap (t151 + 1))) else none)) else none)) else none) else none) else some (.inl t150))
 partial_fixpoint
def weirlaw07_LitmusSplits.f (a0 : ByteArray) : Option Bool :=
  (litmus_Split.f a0 >>= (fun t1 => (weirref07_Split.f a0 >>= (fun t12 => (if ((t1.length : Int) != (t12.length : Int)) = true then some (false) else (weirlaw07_LitmusSplits.l0 t1 t12 0 0 >>= (fun | .inl t30 => (if (decide (t30 > (a0.size : Int))) = true then some (false) else (weirlaw07_LitmusSplits.l1 a0 t30 0 >>= (fun | .inl () => (weirlaw07_LitmusSplits.l2 a0 t1 (IntKind.i64.wrap ((a0.size : Int) - t30)) 0 >>= (fun | .inl () => some (true) | .inr e => some e)) | .inr e => some e))) | .inr e => some e)))))))
set_option maxHeartbeats 16000000 in
theorem weirlaw07_LitmusSplits.ok (a0 : ByteArray) {w0 : World} {Z : Zm} {fs : List XObj} {w : World} (hS0 : St w0 Z (fs) w) (hE : Env Z) {q0 : Bool} (hp0 : weirlaw07_LitmusSplits.f a0 = some q0) :
    Calls Tryd.prog 3 #[.string a0] w (fun e w' => e = .returned (.bool q0) ∧ St w0 Z (fs) w') := by
  refine calls_abs ?_; intro R hR
  unfold weirlaw07_LitmusSplits.f at hp0
  refine calls_of_runs (fn := Tryd.f3) (c := cd3 []) Tryd.func3 (by kernel_rfl) (al := [.string a0]) rfl (n := 110) rfl ?_
  refine sx_run 7 (todo' := [.inRegion (opsOf (cd3 [1, 0])) [1, 2], .code (cd3 [1, 1])]) (us := [(2, .bool false), (10, .string a0)]) (by kernel_rfl) ?_
  obtain ⟨t1, hr4, hp5⟩ := bind_some' hp0
  refine r_call1 (c := (cd3 [1, 0])) (i := 1) (d := (some 11)) (g := 4) (args := #[.string a0]) (by kernel_rfl) (by kernel_rfl) (by kernel_rfl) (by kernel_rfl) (litmus_Split.ok a0 hS0 hE hr4) ?_
  rintro _ w7 ⟨Q2, Q3, Z9, hz10, rfl, hS8, hs11⟩
  refine ⟨.slice Q2 t1.length Q3, rfl, ?_⟩
  refine sx_run 5 (todo' := [.inRegion (opsOf (cd3 [1, 1, 0])) [1, 2], .code (cd3 [1, 1, 1])]) (us := [(3, .slice Q2 t1.length Q3), (12, .string a0)]) (by kernel_rfl) ?_
  obtain ⟨t12, hr15, hp16⟩ := bind_some' hp5
  refine r_call1 (c := (cd3 [1, 1, 0])) (i := 1) (d := (some 13)) (g := 5) (args := #[.string a0]) (by kernel_rfl) (by kernel_rfl) (by kernel_rfl) (by kernel_rfl) (weirref07_Split.ok a0 hS8 hr15) ?_
  rintro _ w18 ⟨Q13, Q14, rfl, hS19⟩
  refine ⟨.slice Q13 t12.length Q14, rfl, ?_⟩
  refine sx_split 10 (todo' := [.inRegion (opsOf (cd3 [1, 1, 1, 0, 0])) [], .code (cd3 [1, 1, 1, 0, 1]), .code (cd3 [1, 1, 1, 1])]) (us := [(4, .slice Q13 t12.length Q14), (14, .slice Q2 t1.length Q3), (15, .int .i64 (t1.length : Int)), (16, .slice Q13 t12.length Q14), (17, .int .i64 (t12.length : Int))]) (d := 18) (t := ((t1.length : Int) != (t12.length : Int))) (by kernel_rfl) (fun h20 => ?_) (fun h21 => ?_)
  ·skip
   have hp22 := ite_t hp16 h20
   refine sx_run 6 (todo' := [.code (cd3 [1, 1, 1, 0, 1, 0, 1]), .code (cd3 [1, 1, 1, 1])]) (us := [(2, .bool false)]) (by kernel_rfl) ?_
   have hS23 := hS19.drop
   have hS24 := hS23.less hz10
   refine runs_ret (fn := Tryd.f3) (v := .bool false) Tryd.func3 (by kernel_rfl) ?_
   have hr25 := (Option.some.inj hp22)
   cases hr25
   exact hR _ _ ⟨rfl, hS24⟩
  ·skip
   have hp26 := ite_f hp16 h21
   refine sx_run 14 (todo' := [.code (cd3 [1, 1, 1, 1, 1, 0, 1, 0, 0]), .inLoop (cd3 [1, 1, 1, 1, 1, 0, 1, 0, 0]), .inBlock 0, .code (cd3 [1, 1, 1, 1, 1, 1])]) (us := [(5, .int .i64 0), (6, .int .i64 0)]) (by kernel_rfl) ?_
   obtain ⟨v27, hv28, hp29⟩ := bind_some' hp26
   have hq33 : ∀ x, Sum.inr x = v27 → x = q0 := by intro x hx; subst hx; simpa using hp29
   have J34 : ∀ (t30 : Int) (he36 : Sum.inl t30 = v27) (l35 : List Value) (w31 : World) (hS32 : St w0 Z9 (fs) w31), Runs Tryd.prog 3 [.code (cd3 [1, 1, 1, 1, 1, 1])] (fill [some (.string a0), none, none, some (.slice Q2 t1.length Q3), none, some (.int .i64 t30), none, none, none, none, none, none, none, none, none, none, none, none, none, none, none, none, none, none, none, none, none, none, none, none, none, none, none, none, none, none, none, none, none, none, none, none, none, none, none, none, none, none, none, none, none, none, none, none, none, none, none, none, none, none, none, none, none, none, none, none, none, none, none, none, none, none, none, none, none, none, none, none, none, none, none, none, none, none, none, none, none, none, none, none, none, none, none, none, none, none, none, none, none, none, none, none, none, none, none, none, none, none, none, none, none] l35) w31 R := by
    intro t30 he36 l35 w31 hS32
    subst he36
    try dsimp only at hp29
    refine sx_split 7 (todo' := [.inRegion (opsOf (cd3 [1, 1, 1, 1, 1, 1, 0, 0])) [], .code (cd3 [1, 1, 1, 1, 1, 1, 0, 1]), .code (cd3 [1, 1, 1, 1, 1, 1, 1])]) (us := [(48, .int .i64 t30), (49, .string a0), (50, .int .i64 (a0.size : Int))]) (d := 51) (t := (decide (t30 > (a0.size : Int)))) (by kernel_rfl) (fun h37 => ?_) (fun h38 => ?_)
    ·skip
     have hp39 := ite_t hp29 h37
     refine sx_run 6 (todo' := [.code (cd3 [1, 1, 1, 1, 1, 1, 0, 1, 0, 1]), .code (cd3 [1, 1, 1, 1, 1, 1, 1])]) (us := [(2, .bool false)]) (by kernel_rfl) ?_
     have hS40 := hS32.less hz10
     refine runs_ret (fn := Tryd.f3) (v := .bool false) Tryd.func3 (by kernel_rfl) ?_
     have hr41 := (Option.some.inj hp39)
     cases hr41
     exact hR _ _ ⟨rfl, hS40⟩
    ·skip
     have hp42 := ite_f hp29 h38
     refine sx_run 18 (todo' := [.code (cd3 [1, 1, 1, 1, 1, 1, 1, 1, 0, 1, 0, 0]), .inLoop (cd3 [1, 1, 1, 1, 1, 1, 1, 1, 0, 1, 0, 0]), .inBlock 2, .code (cd3 [1, 1, 1, 1, 1, 1, 1, 1, 1])]) (us := [(52, .string a0), (53, .int .i64 (a0.size : Int)), (54, .int .i64 t30), (55, .int .i64 (IntKind.i64.wrap ((a0.size : Int) - t30))), (7, .int .i64 (IntKind.i64.wrap ((a0.size : Int) - t30))), (8, .int .i64 0)]) (by kernel_rfl) ?_
     obtain ⟨v43, hv44, hp45⟩ := bind_some' hp42
     have hq48 : ∀ x, Sum.inr x = v43 → x = q0 := by intro x hx; subst hx; simpa using hp45
     have J49 : ∀ (he51 : Sum.inl () = v43) (l50 : List Value) (w46 : World) (hS47 : St w0 Z9 (fs) w46), Runs Tryd.prog 3 [.code (cd3 [1, 1, 1, 1, 1, 1, 1, 1, 1])] (fill [some (.string a0), none, none, some (.slice Q2 t1.length Q3), none, none, none, some (.int .i64 (IntKind.i64.wrap ((a0.size : Int) - t30))), none, none, none, none, none, none, none, none, none, none, none, none, none, none, none, none, none, none, none, none, none, none, none, none, none, none, none, none, none, none, none, none, none, none, none, none, none, none, none, none, none, none, none, none, none, none, none, none, none, none, none, none, none, none, none, none, none, none, none, none, none, none, none, none, none, none, none, none, none, none, none, none, none, none, none, none, none, none, none, none, none, none, none, none, none, none, none, none, none, none, none, none, none, none, none, none, none, none, none, none, none, none, none] l50) w46 R := by
      intro he51 l50 w46 hS47
      subst he51
      try dsimp only at hp45
      refine sx_run 7 (todo' := [.code (cd3 [1, 1, 1, 1, 1, 1, 1, 1, 1, 0, 1, 0, 0]), .inLoop (cd3 [1, 1, 1, 1, 1, 1, 1, 1, 1, 0, 1, 0, 0]), .inBlock 4, .code (cd3 [1, 1, 1, 1, 1, 1, 1, 1, 1, 1])]) (us := [(9, .int .i64 0)]) (by kernel_rfl) ?_
      obtain ⟨v52, hv53, hp54⟩ := bind_some' hp45
      have hq57 : ∀ x, Sum.inr x = v52 → x = q0 := by intro x hx; subst hx; simpa using hp54
      have J58 : ∀ (he60 : Sum.inl () = v52) (l59 : List Value) (w55 : World) (hS56 : St w0 Z9 (fs) w55), Runs Tryd.prog 3 [.code (cd3 [1, 1, 1, 1, 1, 1, 1, 1, 1, 1])] (fill [none, none, none, none, none, none, none, none, none, none, none, none, none, none, none, none, none, none, none, none, none, none, none, none, none, none, none, none, none, none, none, none, none, none, none, none, none, none, none, none, none, none, none, none, none, none, none, none, none, none, none, none, none, none, none, none, none, none, none, none, none, none, none, none, none, none, none, none, none, none, none, none, none, none, none, none, none, none, none, none, none, none, none, none, none, none, none, none, none, none, none, none, none, none, none, none, none, none, none, none, none, none, none, none, none, none, none, none, none, none, none] l59) w55 R := by
       intro he60 l59 w55 hS56
       subst he60
       try dsimp only at hp54
       refine sx_run 4 (todo' := [.code (cd3 [1, 1, 1, 1, 1, 1, 1, 1, 1, 1, 1])]) (us := [(2, .bool true)]) (by kernel_rfl) ?_
       have hS61 := hS56.less hz10
       refine runs_ret (fn := Tryd.f3) (v := .bool true) Tryd.func3 (by kernel_rfl) ?_
       have hr62 := (Option.some.inj hp54)
       cases hr62
       exact hR _ _ ⟨rfl, hS61⟩
      have L73 : ∀ (t63 : Int) (t64 : Int) (e68 : Sum Unit Bool), weirlaw07_LitmusSplits.l2 a0 t1 t63 t64 = some e68 → e68 = v52 → ∀ (l67 : List Value) (w65 : World) (hS66 : St w0 Z9 (fs) w65), Runs Tryd.prog 3 [.code (cd3 [1, 1, 1, 1, 1, 1, 1, 1, 1, 0, 1, 0, 0]), .inLoop (cd3 [1, 1, 1, 1, 1, 1, 1, 1, 1, 0, 1, 0, 0]), .inBlock 4, .code (cd3 [1, 1, 1, 1, 1, 1, 1, 1, 1, 1])] (fill [some (.string a0), none, none, some (.slice Q2 t1.length Q3), none, none, none, some (.int .i64 t63), none, some (.int .i64 t64), none, none, none, none, none, none, none, none, none, none, none, none, none, none, none, none, none, none, none, none, none, none, none, none, none, none, none, none, none, none, none, none, none, none, none, none, none, none, none, none, none, none, none, none, none, none, none, none, none, none, none, none, none, none, none, none, none, none, none, none, none, none, none, none, none, none, none, none, none, none, none, none, none, none, none, none, none, none, none, none, none, none, none, none, none, none, none, none, none, none, none, none, none, none, none, none, none, none, none, none, none] l67) w65 R := by
       refine weirlaw07_LitmusSplits.l2.partial_correctness a0 t1 (fun t63 t64 e68 => e68 = v52 → ∀ (l67 : List Value) (w65 : World) (hS66 : St w0 Z9 (fs) w65), Runs Tryd.prog 3 [.code (cd3 [1, 1, 1, 1, 1, 1, 1, 1, 1, 0, 1, 0, 0]), .inLoop (cd3 [1, 1, 1, 1, 1, 1, 1, 1, 1, 0, 1, 0, 0]), .inBlock 4, .code (cd3 [1, 1, 1, 1, 1, 1, 1, 1, 1, 1])] (fill [some (.string a0), none, none, some (.slice Q2 t1.length Q3), none, none, none, some (.int .i64 t63), none, some (.int .i64 t64), none, none, none, none, none, none, none, none, none, none, none, none, none, none, none, none, none, none, none, none, none, none, none, none, none, none, none, none, none, none, none, none, none, none, none, none, none, none, none, none, none, none, none, none, none, none, none, none, none, none, none, none, none, none, none, none, none, none, none, none, none, none, none, none, none, none, none, none, none, none, none, none, none, none, none, none, none, none, none, none, none, none, none, none, none, none, none, none, none, none, none, none, none, none, none, none, none, none, none, none, none] l67) w65 R) ?_
       intro rec72 ih71 t63 t64 e68 hb70 he69 l67 w65 hS66
       have hq74 : ∀ x, Sum.inr x = e68 → x = q0 := fun x hx => hq57 x (hx.trans he69)
       refine sx_split 7 (todo' := [.inRegion (opsOf (cd3 [1, 1, 1, 1, 1, 1, 1, 1, 1, 0, 1, 0, 0, 0, 0])) [], .code (cd3 [1, 1, 1, 1, 1, 1, 1, 1, 1, 0, 1, 0, 0, 0, 1]), .code (cd3 [1, 1, 1, 1, 1, 1, 1, 1, 1, 0, 1, 0, 0, 1]), .inLoop (cd3 [1, 1, 1, 1, 1, 1, 1, 1, 1, 0, 1, 0, 0]), .inBlock 4, .code (cd3 [1, 1, 1, 1, 1, 1, 1, 1, 1, 1])]) (us := [(83, .int .i64 t64), (84, .slice Q2 t1.length Q3), (85, .int .i64 (t1.length : Int))]) (d := 86) (t := (decide (t64 < (t1.length : Int)))) (by kernel_rfl) (fun h75 => ?_) (fun h76 => ?_)
       ·skip
        have hp77 := ite_t hb70 h75
        refine sx_run 7 (todo' := [.code (cd3 [1, 1, 1, 1, 1, 1, 1, 1, 1, 0, 1, 0, 0, 1, 0, 0, 0, 0]), .code (cd3 [1, 1, 1, 1, 1, 1, 1, 1, 1, 0, 1, 0, 0, 1, 0, 0, 0, 1]), .code (cd3 [1, 1, 1, 1, 1, 1, 1, 1, 1, 0, 1, 0, 0, 1, 0, 0, 1]), .inBlock 5, .code (cd3 [1, 1, 1, 1, 1, 1, 1, 1, 1, 0, 1, 0, 0, 1, 1]), .inLoop (cd3 [1, 1, 1, 1, 1, 1, 1, 1, 1, 0, 1, 0, 0]), .inBlock 4, .code (cd3 [1, 1, 1, 1, 1, 1, 1, 1, 1, 1])]) (us := []) (by kernel_rfl) ?_
        refine r_quiet hS66 (c := (cd3 [1, 1, 1, 1, 1, 1, 1, 1, 1, 0, 1, 0, 0, 1, 0, 0, 0, 0])) (id := 23) (by kernel_rfl) (by kernel_rfl) (by kernel_rfl) (is := [0, 1, 2, 3, 4, 5, 6, 7, 8, 9, 10, 11, 12, 13, 14]) (by kernel_rfl) ?_
        refine q_run 5 (is' := [5, 6, 7, 8, 9, 10, 11, 12, 13, 14]) (us := [(89, .string a0), (90, .int .i64 t63), (91, .int .i64 t63), (92, .slice Q2 t1.length Q3), (93, .int .i64 t64)]) (by kernel_rfl) ?_
        obtain ⟨g78, hp79⟩ := ite_some hp77
        obtain ⟨b80, p81, hA82, hc83⟩ := hs11.atF g78.1 g78.2
        refine q_indexAddr (c := (cd3 [1, 1, 1, 1, 1, 1, 1, 1, 1, 0, 1, 0, 0, 1, 0, 0, 0, 0])) (i := 5) (d := (some 94)) (ty := 0) (t := 22) (e := 9) (n := t1.length) (cp := Q3) (sz := 1) (kk := .i64) (x := (.tmp 92)) (y := (.tmp 93)) (b := b80) (o' := p81) (j := t64) (by kernel_rfl) (by kernel_rfl) (slv (by kernel_rfl) hA82) (by kernel_rfl) (by kernel_rfl) (by kernel_rfl) g78.1 g78.2 ?_
        refine q_load (c := (cd3 [1, 1, 1, 1, 1, 1, 1, 1, 1, 0, 1, 0, 0, 1, 0, 0, 0, 0])) (i := 6) (d := (some 95)) (ty := 9) (t := 9) (x := (.tmp 94)) (p := ⟨b80, p81 + t64.toNat * 1, none⟩) (v := .string (gt t1 t64)) (by kernel_rfl) (by kernel_rfl) (by kernel_rfl) (fun w hC => (loads_at 0 (hc83.cells hC) (by kernel_rfl) (by kernel_rfl))) ?_
        refine q_run 2 (is' := [9, 10, 11, 12, 13, 14]) (us := [(96, .int .i64 ((gt t1 t64).size : Int)), (97, .int .i64 (IntKind.i64.wrap (t63 + ((gt t1 t64).size : Int))))]) (by kernel_rfl) ?_
        obtain ⟨g84, hp85⟩ := ite_some hp79
        refine q_val (c := (cd3 [1, 1, 1, 1, 1, 1, 1, 1, 1, 0, 1, 0, 0, 1, 0, 0, 0, 0])) (i := 9) (d := (some 98)) (ty := 9) (op := .slice 9 (.tmp 89) (some (.tmp 90)) (some (.tmp 97)) none) (v := .string (a0.extract t63.toNat (IntKind.i64.wrap (t63 + ((gt t1 t64).size : Int))).toNat)) (by kernel_rfl) (by kernel_rfl) (fun w hC o ho _ => x_cutStr_ss (k := .i64) (k' := .i64) (by kernel_rfl) (by kernel_rfl) (by kernel_rfl) (by kernel_rfl) g84 ho) ?_
        refine q_run 2 (is' := [12, 13, 14]) (us := [(99, .slice Q2 t1.length Q3), (100, .int .i64 t64)]) (by kernel_rfl) ?_
        obtain ⟨g86, hp87⟩ := ite_some hp85
        obtain ⟨b88, p89, hA90, hc91⟩ := hs11.atF g86.1 g86.2
        refine q_indexAddr (c := (cd3 [1, 1, 1, 1, 1, 1, 1, 1, 1, 0, 1, 0, 0, 1, 0, 0, 0, 0])) (i := 12) (d := (some 101)) (ty := 0) (t := 22) (e := 9) (n := t1.length) (cp := Q3) (sz := 1) (kk := .i64) (x := (.tmp 99)) (y := (.tmp 100)) (b := b88) (o' := p89) (j := t64) (by kernel_rfl) (by kernel_rfl) (slv (by kernel_rfl) hA90) (by kernel_rfl) (by kernel_rfl) (by kernel_rfl) g86.1 g86.2 ?_
        refine q_load (c := (cd3 [1, 1, 1, 1, 1, 1, 1, 1, 1, 0, 1, 0, 0, 1, 0, 0, 0, 0])) (i := 13) (d := (some 102)) (ty := 9) (t := 9) (x := (.tmp 101)) (p := ⟨b88, p89 + t64.toNat * 1, none⟩) (v := .string (gt t1 t64)) (by kernel_rfl) (by kernel_rfl) (by kernel_rfl) (fun w hC => (loads_at 0 (hc91.cells hC) (by kernel_rfl) (by kernel_rfl))) ?_
        refine q_splitr 1 (is' := []) (us := []) (d := 103) (t := (!seq (a0.extract t63.toNat (IntKind.i64.wrap (t63 + ((gt t1 t64).size : Int))).toNat) (gt t1 t64))) (by kernel_rfl) (fun h92 => ?_) (fun h93 => ?_)
        ·skip
         have hp94 := ite_t hp87 h92
         refine Qs.nil ?_
         intro w95 hS96
         refine sx_run 5 (todo' := [.code (cd3 [1, 1, 1, 1, 1, 1, 1, 1, 1, 0, 1, 0, 0, 1, 0, 0, 0, 1, 0, 1]), .code (cd3 [1, 1, 1, 1, 1, 1, 1, 1, 1, 0, 1, 0, 0, 1, 0, 0, 1]), .inBlock 5, .code (cd3 [1, 1, 1, 1, 1, 1, 1, 1, 1, 0, 1, 0, 0, 1, 1]), .inLoop (cd3 [1, 1, 1, 1, 1, 1, 1, 1, 1, 0, 1, 0, 0]), .inBlock 4, .code (cd3 [1, 1, 1, 1, 1, 1, 1, 1, 1, 1])]) (us := [(2, .bool false)]) (by kernel_rfl) ?_
         have hS97 := hS96.less hz10
         refine runs_ret (fn := Tryd.f3) (v := .bool false) Tryd.func3 (by kernel_rfl) ?_
         have hr98 := (hq74 _ (Option.some.inj hp94))
         cases hr98
         exact hR _ _ ⟨rfl, hS97⟩
        ·skip
         have hp99 := ite_f hp87 h93
         refine Qs.nil ?_
         intro w100 hS101
         refine sx_run 6 (todo' := [.inRegion (opsOf (cd3 [1, 1, 1, 1, 1, 1, 1, 1, 1, 0, 1, 0, 0, 1, 0, 0, 1])) [3, 4, 5, 6, 7], .inBlock 5, .code (cd3 [1, 1, 1, 1, 1, 1, 1, 1, 1, 0, 1, 0, 0, 1, 1]), .inLoop (cd3 [1, 1, 1, 1, 1, 1, 1, 1, 1, 0, 1, 0, 0]), .inBlock 4, .code (cd3 [1, 1, 1, 1, 1, 1, 1, 1, 1, 1])]) (us := [(104, .int .i64 t63), (105, .slice Q2 t1.length Q3), (106, .int .i64 t64)]) (by kernel_rfl) ?_
         obtain ⟨g102, hp103⟩ := ite_some hp99
         obtain ⟨b104, p105, hA106, hc107⟩ := hs11.atF g102.1 g102.2
         refine r_indexAddr (c := (cd3 [1, 1, 1, 1, 1, 1, 1, 1, 1, 0, 1, 0, 0, 1, 0, 0, 1])) (i := 3) (d := (some 107)) (ty := 0) (t := 22) (e := 9) (n := t1.length) (cp := Q3) (sz := 1) (kk := .i64) (x := (.tmp 105)) (y := (.tmp 106)) (b := b104) (o' := p105) (j := t64) (by kernel_rfl) (by kernel_rfl) (slv (by kernel_rfl) hA106) (by kernel_rfl) (by kernel_rfl) (by kernel_rfl) g102.1 g102.2 ?_
         refine r_load (c := (cd3 [1, 1, 1, 1, 1, 1, 1, 1, 1, 0, 1, 0, 0, 1, 0, 0, 1])) (i := 4) (d := (some 108)) (ty := 9) (t := 9) (x := (.tmp 107)) (p := ⟨b104, p105 + t64.toNat * 1, none⟩) (v := .string (gt t1 t64)) (by kernel_rfl) (by kernel_rfl) (by kernel_rfl) (loads_at 0 (hc107.cells hS101) (by kernel_rfl) (by kernel_rfl)) ?_
         refine sx_run 10 (todo' := [.inLoop (cd3 [1, 1, 1, 1, 1, 1, 1, 1, 1, 0, 1, 0, 0]), .inBlock 4, .code (cd3 [1, 1, 1, 1, 1, 1, 1, 1, 1, 1])]) (us := [(109, .int .i64 ((gt t1 t64).size : Int)), (110, .int .i64 (IntKind.i64.wrap (t63 + ((gt t1 t64).size : Int)))), (7, .int .i64 (IntKind.i64.wrap (t63 + ((gt t1 t64).size : Int)))), (87, .int .i64 t64), (88, .int .i64 (IntKind.i64.wrap (t64 + 1))), (9, .int .i64 (IntKind.i64.wrap (t64 + 1)))]) (by kernel_rfl) ?_
         refine sx_run 1 (todo' := [.code (cd3 [1, 1, 1, 1, 1, 1, 1, 1, 1, 0, 1, 0, 0]), .inLoop (cd3 [1, 1, 1, 1, 1, 1, 1, 1, 1, 0, 1, 0, 0]), .inBlock 4, .code (cd3 [1, 1, 1, 1, 1, 1, 1, 1, 1, 1])]) (us := []) (by kernel_rfl) ?_
         refine Runs.fill (m := [some (.string a0), none, none, some (.slice Q2 t1.length Q3), none, none, none, some (.int .i64 (IntKind.i64.wrap (t63 + ((gt t1 t64).size : Int)))), none, some (.int .i64 (IntKind.i64.wrap (t64 + 1))), none, none, none, none, none, none, none, none, none, none, none, none, none, none, none, none, none, none, none, none, none, none, none, none, none, none, none, none, none, none, none, none, none, none, none, none, none, none, none, none, none, none, none, none, none, none, none, none, none, none, none, none, none, none, none, none, none, none, none, none, none, none, none, none, none, none, none, none, none, none, none, none, none, none, none, none, none, none, none, none, none, none, none, none, none, none, none, none, none, none, none, none, none, none, none, none, none, none, none, none, none]) (by kernel_rfl) ?_
         exact ih71 (IntKind.i64.wrap (t63 + ((gt t1 t64).size : Int))) (IntKind.i64.wrap (t64 + 1)) _ hp103 he69 _ _ hS101
       ·skip
        have hp108 := ite_f hb70 h76
        refine sx_run 3 (todo' := [.code (cd3 [1, 1, 1, 1, 1, 1, 1, 1, 1, 1])]) (us := []) (by kernel_rfl) ?_
        refine Runs.fill (m := [none, none, none, none, none, none, none, none, none, none, none, none, none, none, none, none, none, none, none, none, none, none, none, none, none, none, none, none, none, none, none, none, none, none, none, none, none, none, none, none, none, none, none, none, none, none, none, none, none, none, none, none, none, none, none, none, none, none, none, none, none, none, none, none, none, none, none, none, none, none, none, none, none, none, none, none, none, none, none, none, none, none, none, none, none, none, none, none, none, none, none, none, none, none, none, none, none, none, none, none, none, none, none, none, none, none, none, none, none, none, none]) (by kernel_rfl) ?_
        exact J58 ((Option.some.inj hp108).trans he69) _ _ hS66
      refine Runs.fill (m := [some (.string a0), none, none, some (.slice Q2 t1.length Q3), none, none, none, some (.int .i64 (IntKind.i64.wrap ((a0.size : Int) - t30))), none, some (.int .i64 0), none, none, none, none, none, none, none, none, none, none, none, none, none, none, none, none, none, none, none, none, none, none, none, none, none, none, none, none, none, none, none, none, none, none, none, none, none, none, none, none, none, none, none, none, none, none, none, none, none, none, none, none, none, none, none, none, none, none, none, none, none, none, none, none, none, none, none, none, none, none, none, none, none, none, none, none, none, none, none, none, none, none, none, none, none, none, none, none, none, none, none, none, none, none, none, none, none, none, none, none, none]) (by kernel_rfl) ?_
      exact L73 (IntKind.i64.wrap ((a0.size : Int) - t30)) 0 _ hv53 rfl _ _ hS47
     have L118 : ∀ (t109 : Int) (e113 : Sum Unit Bool), weirlaw07_LitmusSplits.l1 a0 t30 t109 = some e113 → e113 = v43 → ∀ (l112 : List Value) (w110 : World) (hS111 : St w0 Z9 (fs) w110), Runs Tryd.prog 3 [.code (cd3 [1, 1, 1, 1, 1, 1, 1, 1, 0, 1, 0, 0]), .inLoop (cd3 [1, 1, 1, 1, 1, 1, 1, 1, 0, 1, 0, 0]), .inBlock 2, .code (cd3 [1, 1, 1, 1, 1, 1, 1, 1, 1])] (fill [some (.string a0), none, none, some (.slice Q2 t1.length Q3), none, none, none, some (.int .i64 (IntKind.i64.wrap ((a0.size : Int) - t30))), some (.int .i64 t109), none, none, none, none, none, none, none, none, none, none, none, none, none, none, none, none, none, none, none, none, none, none, none, none, none, none, none, none, none, none, none, none, none, none, none, none, none, none, none, none, none, none, none, none, none, none, none, none, none, none, none, none, none, none, none, none, none, none, none, none, none, none, none, none, none, none, none, none, none, none, none, none, none, none, none, none, none, none, none, none, none, none, none, none, none, none, none, none, none, none, none, none, none, none, none, none, none, none, none, none, none, none] l112) w110 R := by
      refine weirlaw07_LitmusSplits.l1.partial_correctness a0 t30 (fun t109 e113 => e113 = v43 → ∀ (l112 : List Value) (w110 : World) (hS111 : St w0 Z9 (fs) w110), Runs Tryd.prog 3 [.code (cd3 [1, 1, 1, 1, 1, 1, 1, 1, 0, 1, 0, 0]), .inLoop (cd3 [1, 1, 1, 1, 1, 1, 1, 1, 0, 1, 0, 0]), .inBlock 2, .code (cd3 [1, 1, 1, 1, 1, 1, 1, 1, 1])] (fill [some (.string a0), none, none, some (.slice Q2 t1.length Q3), none, none, none, some (.int .i64 (IntKind.i64.wrap ((a0.size : Int) - t30))), some (.int .i64 t109), none, none, none, none, none, none, none, none, none, none, none, none, none, none, none, none, none, none, none, none, none, none, none, none, none, none, none, none, none, none, none, none, none, none, none, none, none, none, none, none, none, none, none, none, none, none, none, none, none, none, none, none, none, none, none, none, none, none, none, none, none, none, none, none, none, none, none, none, none, none, none, none, none, none, none, none, none, none, none, none, none, none, none, none, none, none, none, none, none, none, none, none, none, none, none, none, none, none, none, none, none, none] l112) w110 R) ?_
      intro rec117 ih116 t109 e113 hb115 he114 l112 w110 hS111
      have hq119 : ∀ x, Sum.inr x = e113 → x = q0 := fun x hx => hq48 x (hx.trans he114)
      refine sx_split 6 (todo' := [.inRegion (opsOf (cd3 [1, 1, 1, 1, 1, 1, 1, 1, 0, 1, 0, 0, 0, 0])) [], .code (cd3 [1, 1, 1, 1, 1, 1, 1, 1, 0, 1, 0, 0, 0, 1]), .code (cd3 [1, 1, 1, 1, 1, 1, 1, 1, 0, 1, 0, 0, 1]), .inLoop (cd3 [1, 1, 1, 1, 1, 1, 1, 1, 0, 1, 0, 0]), .inBlock 2, .code (cd3 [1, 1, 1, 1, 1, 1, 1, 1, 1])]) (us := [(56, .int .i64 t109), (57, .int .i64 (IntKind.i64.wrap ((a0.size : Int) - t30)))]) (d := 58) (t := (decide (t109 < (IntKind.i64.wrap ((a0.size : Int) - t30))))) (by kernel_rfl) (fun h120 => ?_) (fun h121 => ?_)
      ·skip
       have hp122 := ite_t hb115 h120
       refine sx_run 9 (todo' := [.inRegion (opsOf (cd3 [1, 1, 1, 1, 1, 1, 1, 1, 0, 1, 0, 0, 1, 0, 0, 0])) [2, 3, 4, 5, 6, 7, 8, 9, 10, 11, 12, 13, 14, 15, 16, 17, 18, 19, 20, 21], .code (cd3 [1, 1, 1, 1, 1, 1, 1, 1, 0, 1, 0, 0, 1, 0, 0, 1]), .inBlock 3, .code (cd3 [1, 1, 1, 1, 1, 1, 1, 1, 0, 1, 0, 0, 1, 1]), .inLoop (cd3 [1, 1, 1, 1, 1, 1, 1, 1, 0, 1, 0, 0]), .inBlock 2, .code (cd3 [1, 1, 1, 1, 1, 1, 1, 1, 1])]) (us := [(61, .string a0), (62, .int .i64 t109)]) (by kernel_rfl) ?_
       obtain ⟨g123, hp124⟩ := ite_some hp122
       refine r_val (c := (cd3 [1, 1, 1, 1, 1, 1, 1, 1, 0, 1, 0, 0, 1, 0, 0, 0])) (i := 2) (d := (some 63)) (ty := 5) (op := .index 9 (.tmp 61) (.tmp 62)) (v := .int .u8 (byt a0 t109)) (by kernel_rfl) (by kernel_rfl) (fun o ho _ => x_indexStr (kk := .i64) (by kernel_rfl) (by kernel_rfl) (by kernel_rfl) g123.1 g123.2 ho) ?_
       refine sx_split 1 (todo' := [.inRegion (opsOf (cd3 [1, 1, 1, 1, 1, 1, 1, 1, 0, 1, 0, 0, 1, 0, 0, 0])) [4, 5, 6, 7, 8, 9, 10, 11, 12, 13, 14, 15, 16, 17, 18, 19, 20, 21], .code (cd3 [1, 1, 1, 1, 1, 1, 1, 1, 0, 1, 0, 0, 1, 0, 0, 1]), .inBlock 3, .code (cd3 [1, 1, 1, 1, 1, 1, 1, 1, 0, 1, 0, 0, 1, 1]), .inLoop (cd3 [1, 1, 1, 1, 1, 1, 1, 1, 0, 1, 0, 0]), .inBlock 2, .code (cd3 [1, 1, 1, 1, 1, 1, 1, 1, 1])]) (us := []) (d := 64) (t := ((byt a0 t109) != 32)) (by kernel_rfl) (fun h125 => ?_) (fun h126 => ?_)
       ·skip
        have hp127 := ite_t hp124 h125
        refine sx_run 3 (todo' := [.inRegion (opsOf (cd3 [1, 1, 1, 1, 1, 1, 1, 1, 0, 1, 0, 0, 1, 0, 0, 0])) [7, 8, 9, 10, 11, 12, 13, 14, 15, 16, 17, 18, 19, 20, 21], .code (cd3 [1, 1, 1, 1, 1, 1, 1, 1, 0, 1, 0, 0, 1, 0, 0, 1]), .inBlock 3, .code (cd3 [1, 1, 1, 1, 1, 1, 1, 1, 0, 1, 0, 0, 1, 1]), .inLoop (cd3 [1, 1, 1, 1, 1, 1, 1, 1, 0, 1, 0, 0]), .inBlock 2, .code (cd3 [1, 1, 1, 1, 1, 1, 1, 1, 1])]) (us := [(65, .bool true), (66, .string a0), (67, .int .i64 t109)]) (by kernel_rfl) ?_
        obtain ⟨g128, hp129⟩ := ite_some hp127
        refine r_val (c := (cd3 [1, 1, 1, 1, 1, 1, 1, 1, 0, 1, 0, 0, 1, 0, 0, 0])) (i := 7) (d := (some 68)) (ty := 5) (op := .index 9 (.tmp 66) (.tmp 67)) (v := .int .u8 (byt a0 t109)) (by kernel_rfl) (by kernel_rfl) (fun o ho _ => x_indexStr (kk := .i64) (by kernel_rfl) (by kernel_rfl) (by kernel_rfl) g128.1 g128.2 ho) ?_
        refine sx_split 1 (todo' := [.inRegion (opsOf (cd3 [1, 1, 1, 1, 1, 1, 1, 1, 0, 1, 0, 0, 1, 0, 0, 0])) [9, 10, 11, 12, 13, 14, 15, 16, 17, 18, 19, 20, 21], .code (cd3 [1, 1, 1, 1, 1, 1, 1, 1, 0, 1, 0, 0, 1, 0, 0, 1]), .inBlock 3, .code (cd3 [1, 1, 1, 1, 1, 1, 1, 1, 0, 1, 0, 0, 1, 1]), .inLoop (cd3 [1, 1, 1, 1, 1, 1, 1, 1, 0, 1, 0, 0]), .inBlock 2, .code (cd3 [1, 1, 1, 1, 1, 1, 1, 1, 1])]) (us := []) (d := 69) (t := ((byt a0 t109) != 9)) (by kernel_rfl) (fun h130 => ?_) (fun h131 => ?_)
        ·skip
         have hp132 := ite_t hp129 h130
         refine sx_run 4 (todo' := [.inRegion (opsOf (cd3 [1, 1, 1, 1, 1, 1, 1, 1, 0, 1, 0, 0, 1, 0, 0, 0])) [13, 14, 15, 16, 17, 18, 19, 20, 21], .code (cd3 [1, 1, 1, 1, 1, 1, 1, 1, 0, 1, 0, 0, 1, 0, 0, 1]), .inBlock 3, .code (cd3 [1, 1, 1, 1, 1, 1, 1, 1, 0, 1, 0, 0, 1, 1]), .inLoop (cd3 [1, 1, 1, 1, 1, 1, 1, 1, 0, 1, 0, 0]), .inBlock 2, .code (cd3 [1, 1, 1, 1, 1, 1, 1, 1, 1])]) (us := [(70, .bool true), (71, .bool true), (72, .string a0), (73, .int .i64 t109)]) (by kernel_rfl) ?_
         obtain ⟨g133, hp134⟩ := ite_some hp132
         refine r_val (c := (cd3 [1, 1, 1, 1, 1, 1, 1, 1, 0, 1, 0, 0, 1, 0, 0, 0])) (i := 13) (d := (some 74)) (ty := 5) (op := .index 9 (.tmp 72) (.tmp 73)) (v := .int .u8 (byt a0 t109)) (by kernel_rfl) (by kernel_rfl) (fun o ho _ => x_indexStr (kk := .i64) (by kernel_rfl) (by kernel_rfl) (by kernel_rfl) g133.1 g133.2 ho) ?_
         refine sx_split 1 (todo' := [.inRegion (opsOf (cd3 [1, 1, 1, 1, 1, 1, 1, 1, 0, 1, 0, 0, 1, 0, 0, 0])) [15, 16, 17, 18, 19, 20, 21], .code (cd3 [1, 1, 1, 1, 1, 1, 1, 1, 0, 1, 0, 0, 1, 0, 0, 1]), .inBlock 3, .code (cd3 [1, 1, 1, 1, 1, 1, 1, 1, 0, 1, 0, 0, 1, 1]), .inLoop (cd3 [1, 1, 1, 1, 1, 1, 1, 1, 0, 1, 0, 0]), .inBlock 2, .code (cd3 [1, 1, 1, 1, 1, 1, 1, 1, 1])]) (us := []) (d := 75) (t := ((byt a0 t109) != 10)) (by kernel_rfl) (fun h135 => ?_) (fun h136 => ?_)
         ·skip
          have hp137 := ite_t hp134 h135
          refine sx_run 4 (todo' := [.inRegion (opsOf (cd3 [1, 1, 1, 1, 1, 1, 1, 1, 0, 1, 0, 0, 1, 0, 0, 0])) [19, 20, 21], .code (cd3 [1, 1, 1, 1, 1, 1, 1, 1, 0, 1, 0, 0, 1, 0, 0, 1]), .inBlock 3, .code (cd3 [1, 1, 1, 1, 1, 1, 1, 1, 0, 1, 0, 0, 1, 1]), .inLoop (cd3 [1, 1, 1, 1, 1, 1, 1, 1, 0, 1, 0, 0]), .inBlock 2, .code (cd3 [1, 1, 1, 1, 1, 1, 1, 1, 1])]) (us := [(76, .bool true), (77, .bool true), (78, .string a0), (79, .int .i64 t109)]) (by kernel_rfl) ?_
          obtain ⟨g138, hp139⟩ := ite_some hp137
          refine r_val (c := (cd3 [1, 1, 1, 1, 1, 1, 1, 1, 0, 1, 0, 0, 1, 0, 0, 0])) (i := 19) (d := (some 80)) (ty := 5) (op := .index 9 (.tmp 78) (.tmp 79)) (v := .int .u8 (byt a0 t109)) (by kernel_rfl) (by kernel_rfl) (fun o ho _ => x_indexStr (kk := .i64) (by kernel_rfl) (by kernel_rfl) (by kernel_rfl) g138.1 g138.2 ho) ?_
          refine sx_split 1 (todo' := [.inRegion (opsOf (cd3 [1, 1, 1, 1, 1, 1, 1, 1, 0, 1, 0, 0, 1, 0, 0, 0])) [21], .code (cd3 [1, 1, 1, 1, 1, 1, 1, 1, 0, 1, 0, 0, 1, 0, 0, 1]), .inBlock 3, .code (cd3 [1, 1, 1, 1, 1, 1, 1, 1, 0, 1, 0, 0, 1, 1]), .inLoop (cd3 [1, 1, 1, 1, 1, 1, 1, 1, 0, 1, 0, 0]), .inBlock 2, .code (cd3 [1, 1, 1, 1, 1, 1, 1, 1, 1])]) (us := []) (d := 81) (t := ((byt a0 t109) != 13)) (by kernel_rfl) (fun h140 => ?_) (fun h141 => ?_)
          ·skip
           have hp142 := ite_t hp139 h140
           refine sx_run 7 (todo' := [.code (cd3 [1, 1, 1, 1, 1, 1, 1, 1, 0, 1, 0, 0, 1, 0, 0, 1, 0, 1]), .inBlock 3, .code (cd3 [1, 1, 1, 1, 1, 1, 1, 1, 0, 1, 0, 0, 1, 1]), .inLoop (cd3 [1, 1, 1, 1, 1, 1, 1, 1, 0, 1, 0, 0]), .inBlock 2, .code (cd3 [1, 1, 1, 1, 1, 1, 1, 1, 1])]) (us := [(82, .bool true), (2, .bool false)]) (by kernel_rfl) ?_
           have hS143 := hS111.less hz10
           refine runs_ret (fn := Tryd.f3) (v := .bool false) Tryd.func3 (by kernel_rfl) ?_
           have hr144 := (hq119 _ (Option.some.inj hp142))
           cases hr144
           exact hR _ _ ⟨rfl, hS143⟩
          ·skip
           have hp145 := ite_f hp139 h141
           refine sx_run 10 (todo' := [.inLoop (cd3 [1, 1, 1, 1, 1, 1, 1, 1, 0, 1, 0, 0]), .inBlock 2, .code (cd3 [1, 1, 1, 1, 1, 1, 1, 1, 1])]) (us := [(82, .bool false), (59, .int .i64 t109), (60, .int .i64 (IntKind.i64.wrap (t109 + 1))), (8, .int .i64 (IntKind.i64.wrap (t109 + 1)))]) (by kernel_rfl) ?_
           refine sx_run 1 (todo' := [.code (cd3 [1, 1, 1, 1, 1, 1, 1, 1, 0, 1, 0, 0]), .inLoop (cd3 [1, 1, 1, 1, 1, 1, 1, 1, 0, 1, 0, 0]), .inBlock 2, .code (cd3 [1, 1, 1, 1, 1, 1, 1, 1, 1])]) (us := []) (by kernel_rfl) ?_
           refine Runs.fill (m := [some (.string a0), none, none, some (.slice Q2 t1.length Q3), none, none, none, some (.int .i64 (IntKind.i64.wrap ((a0.size : Int) - t30))), some (.int .i64 (IntKind.i64.wrap (t109 + 1))), none, none, none, none, none, none, none, none, none, none, none, none, none, none, none, none, none, none, none, none, none, none, none, none, none, none, none, none, none, none, none, none, none, none, none, none, none, none, none, none, none, none, none, none, none, none, none, none, none, none, none, none, none, none, none, none, none, none, none, none, none, none, none, none, none, none, none, none, none, none, none, none, none, none, none, none, none, none, none, none, none, none, none, none, none, none, none, none, none, none, none, none, none, none, none, none, none, none, none, none, none, none]) (by kernel_rfl) ?_
           exact ih116 (IntKind.i64.wrap (t109 + 1)) _ hp145 he114 _ _ hS111
         ·skip
          have hp146 := ite_f hp134 h136
          refine sx_run 16 (todo' := [.inLoop (cd3 [1, 1, 1, 1, 1, 1, 1, 1, 0, 1, 0, 0]), .inBlock 2, .code (cd3 [1, 1, 1, 1, 1, 1, 1, 1, 1])]) (us := [(76, .bool false), (77, .bool false), (78, undef), (79, undef), (80, undef), (81, undef), (82, .bool false), (59, .int .i64 t109), (60, .int .i64 (IntKind.i64.wrap (t109 + 1))), (8, .int .i64 (IntKind.i64.wrap (t109 + 1)))]) (by kernel_rfl) ?_
          refine sx_run 1 (todo' := [.code (cd3 [1, 1, 1, 1, 1, 1, 1, 1, 0, 1, 0, 0]), .inLoop (cd3 [1, 1, 1, 1, 1, 1, 1, 1, 0, 1, 0, 0]), .inBlock 2, .code (cd3 [1, 1, 1, 1, 1, 1, 1, 1, 1])]) (us := []) (by kernel_rfl) ?_
          refine Runs.fill (m := [some (.string a0), none, none, some (.slice Q2 t1.length Q3), none, none, none, some (.int .i64 (IntKind.i64.wrap ((a0.size : Int) - t30))), some (.int .i64 (IntKind.i64.wrap (t109 + 1))), none, none, none, none, none, none, none, none, none, none, none, none, none, none, none, none, none, none, none, none, none, none, none, none, none, none, none, none, none, none, none, none, none, none, none, none, none, none, none, none, none, none, none, none, none, none, none, none, none, none, none, none, none, none, none, none, none, none, none, none, none, none, none, none, none, none, none, none, none, none, none, none, none, none, none, none, none, none, none, none, none, none, none, none, none, none, none, none, none, none, none, none, none, none, none, none, none, none, none, none, none, none]) (by kernel_rfl) ?_
          exact ih116 (IntKind.i64.wrap (t109 + 1)) _ hp146 he114 _ _ hS111
        ·skip
         have hp147 := ite_f hp129 h131
         refine sx_run 22 (todo' := [.inLoop (cd3 [1, 1, 1, 1, 1, 1, 1, 1, 0, 1, 0, 0]), .inBlock 2, .code (cd3 [1, 1, 1, 1, 1, 1, 1, 1, 1])]) (us := [(70, .bool false), (71, .bool false), (72, undef), (73, undef), (74, undef), (75, undef), (76, .bool false), (77, .bool false), (78, undef), (79, undef), (80, undef), (81, undef), (82, .bool false), (59, .int .i64 t109), (60, .int .i64 (IntKind.i64.wrap (t109 + 1))), (8, .int .i64 (IntKind.i64.wrap (t109 + 1)))]) (by kernel_rfl) ?_
         refine sx_run 1 (todo' := [.code (cd3 [1, 1, 1, 1, 1, 1, 1, 1, 0, 1, 0, 0]), .inLoop (cd3 [1, 1, 1, 1, 1, 1, 1, 1, 0, 1, 0, 0]), .inBlock 2, .code (cd3 [1, 1, 1, 1, 1, 1, 1, 1, 1])]) (us := []) (by kernel_rfl) ?_
         refine Runs.fill (m := [some (.string a0), none, none, some (.slice Q2 t1.length Q3), none, none, none, some (.int .i64 (IntKind.i64.wrap ((a0.size : Int) - t30))), some (.int .i64 (IntKind.i64.wrap (t109 + 1))), none, none, none, none, none, none, none, none, none, none, none, none, none, none, none, none, none, none, none, none, none, none, none, none, none, none, none, none, none, none, none, none, none, none, none, none, none, none, none, none, none, none, none, none, none, none, none, none, none, none, none, none, none, none, none, none, none, none, none, none, none, none, none, none, none, none, none, none, none, none, none, none, none, none, none, none, none, none, none, none, none, none, none, none, none, none, none, none, none, none, none, none, none, none, none, none, none, none, none, none, none, none]) (by kernel_rfl) ?_
         exact ih116 (IntKind.i64.wrap (t109 + 1)) _ hp147 he114 _ _ hS111
       ·skip
        have hp148 := ite_f hp124 h126
        refine sx_run 27 (todo' := [.inLoop (cd3 [1, 1, 1, 1, 1, 1, 1, 1, 0, 1, 0, 0]), .inBlock 2, .code (cd3 [1, 1, 1, 1, 1, 1, 1, 1, 1])]) (us := [(65, .bool false), (66, undef), (67, undef), (68, undef), (69, undef), (70, .bool false), (71, .bool false), (72, undef), (73, undef), (74, undef), (75, undef), (76, .bool false), (77, .bool false), (78, undef), (79, undef), (80, undef), (81, undef), (82, .bool false), (59, .int .i64 t109), (60, .int .i64 (IntKind.i64.wrap (t109 + 1))), (8, .int .i64 (IntKind.i64.wrap (t109 + 1)))]) (by kernel_rfl) ?_
        refine sx_run 1 (todo' := [.code (cd3 [1, 1, 1, 1, 1, 1, 1, 1, 0, 1, 0, 0]), .inLoop (cd3 [1, 1, 1, 1, 1, 1, 1, 1, 0, 1, 0, 0]), .inBlock 2, .code (cd3 [1, 1, 1, 1, 1, 1, 1, 1, 1])]) (us := []) (by kernel_rfl) ?_
        refine Runs.fill (m := [some (.string a0), none, none, some (.slice Q2 t1.length Q3), none, none, none, some (.int .i64 (IntKind.i64.wrap ((a0.size : Int) - t30))), some (.int .i64 (IntKind.i64.wrap (t109 + 1))), none, none, none, none, none, none, none, none, none, none, none, none, none, none, none, none, none, none, none, none, none, none, none, none, none, none, none, none, none, none, none, none, none, none, none, none, none, none, none, none, none, none, none, none, none, none, none, none, none, none, none, none, none, none, none, none, none, none, none, none, none, none, none, none, none, none, none, none, none, none, none, none, none, none, none, none, none, none, none, none, none, none, none, none, none, none, none, none, none, none, none, none, none, none, none, none, none, none, none, none, none, none]) (by kernel_rfl) ?_
        exact ih116 (IntKind.i64.wrap (t109 + 1)) _ hp148 he114 _ _ hS111
      ·skip
       have hp149 := ite_f hb115 h121
       refine sx_run 3 (todo' := [.code (cd3 [1, 1, 1, 1, 1, 1, 1, 1, 1])]) (us := []) (by kernel_rfl) ?_
       refine Runs.fill (m := [some (.string a0), none, none, some (.slice Q2 t1.length Q3), none, none, none, some (.int .i64 (IntKind.i64.wrap ((a0.size : Int) - t30))), none, none, none, none, none, none, none, none, none, none, none, none, none, none, none, none, none, none, none, none, none, none, none, none, none, none, none, none, none, none, none, none, none, none, none, none, none, none, none, none, none, none, none, none, none, none, none, none, none, none, none, none, none, none, none, none, none, none, none, none, none, none, none, none, none, none, none, none, none, none, none, none, none, none, none, none, none, none, none, none, none, none, none, none, none, none, none, none, none, none, none, none, none, none, none, none, none, none, none, none, none, none, none]) (by kernel_rfl) ?_
       exact J49 ((Option.some.inj hp149).trans he114) _ _ hS111
     refine Runs.fill (m := [some (.string a0), none, none, some (.slice Q2 t1.length Q3), none, none, none, some (.int .i64 (IntKind.i64.wrap ((a0.size : Int) - t30))), some (.int .i64 0), none, none, none, none, none, none, none, none, none, none, none, none, none, none, none, none, none, none, none, none, none, none, none, none, none, none, none, none, none, none, none, none, none, none, none, none, none, none, none, none, none, none, none, none, none, none, none, none, none, none, none, none, none, none, none, none, none, none, none, none, none, none, none, none, none, none, none, none, none, none, none, none, none, none, none, none, none, none, none, none, none, none, none, none, none, none, none, none, none, none, none, none, none, none, none, none, none, none, none, none, none, none]) (by kernel_rfl) ?_
     exact L118 0 _ hv44 rfl _ _ hS32
   have L160 : ∀ (t150 : Int) (t151 : Int) (e155 : Sum Int Bool), weirlaw07_LitmusSplits.l0 t1 t12 t150 t151 = some e155 → e155 = v27 → ∀ (l154 : List Value) (w152 : World) (hS153 : St w0 Z9 (xrow Q13 Q14 9 1 (t12.flatMap encS) :: fs) w152), Runs Tryd.prog 3 [.code (cd3 [1, 1, 1, 1, 1, 0, 1, 0, 0]), .inLoop (cd3 [1, 1, 1, 1, 1, 0, 1, 0, 0]), .inBlock 0, .code (cd3 [1, 1, 1, 1, 1, 1])] (fill [some (.string a0), none, none, some (.slice Q2 t1.length Q3), some (.slice Q13 t12.length Q14), some (.int .i64 t150), some (.int .i64 t151), none, none, none, none, none, none, none, none, none, none, none, none, none, none, none, none, none, none, none, none, none, none, none, none, none, none, none, none, none, none, none, none, none, none, none, none, none, none, none, none, none, none, none, none, none, none, none, none, none, none, none, none, none, none, none, none, none, none, none, none, none, none, none, none, none, none, none, none, none, none, none, none, none, none, none, none, none, none, none, none, none, none, none, none, none, none, none, none, none, none, none, none, none, none, none, none, none, none, none, none, none, none, none, none] l154) w152 R := by
    refine weirlaw07_LitmusSplits.l0.partial_correctness t1 t12 (fun t150 t151 e155 => e155 = v27 → ∀ (l154 : List Value) (w152 : World) (hS153 : St w0 Z9 (xrow Q13 Q14 9 1 (t12.flatMap encS) :: fs) w152), Runs Tryd.prog 3 [.code (cd3 [1, 1, 1, 1, 1, 0, 1, 0, 0]), .inLoop (cd3 [1, 1, 1, 1, 1, 0, 1, 0, 0]), .inBlock 0, .code (cd3 [1, 1, 1, 1, 1, 1])] (fill [some (.string a0), none, none, some (.slice Q2 t1.length Q3), some (.slice Q13 t12.length Q14), some (.int .i64 t150), some (.int .i64 t151), none, none, none, none, none, none, none, none, none, none, none, none, none, none, none, none, none, none, none, none, none, none, none, none, none, none, none, none, none, none, none, none, none, none, none, none, none, none, none, none, none, none, none, none, none, none, none, none, none, none, none, none, none, none, none, none, none, none, none, none, none, none, none, none, none, none, none, none, none, none, none, none, none, none, none, none, none, none, none, none, none, none, none, none, none, none, none, none, none, none, none, none, none, none, none, none, none, none, none, none, none, none, none, none] l154) w152 R) ?_
    intro rec159 ih158 t150 t151 e155 hb157 he156 l154 w152 hS153
    have hq161 : ∀ x, Sum.inr x = e155 → x = q0 := fun x hx => hq33 x (hx.trans he156)
    refine sx_split 7 (todo' := [.inRegion (opsOf (cd3 [1, 1, 1, 1, 1, 0, 1, 0, 0, 0, 0])) [], .code (cd3 [1, 1, 1, 1, 1, 0, 1, 0, 0, 0, 1]), .code (cd3 [1, 1, 1, 1, 1, 0, 1, 0, 0, 1]), .inLoop (cd3 [1, 1, 1, 1, 1, 0, 1, 0, 0]), .inBlock 0, .code (cd3 [1, 1, 1, 1, 1, 1])]) (us := [(19, .int .i64 t151), (20, .slice Q2 t1.length Q3), (21, .int .i64 (t1.length : Int))]) (d := 22) (t := (decide (t151 < (t1.length : Int)))) (by kernel_rfl) (fun h162 => ?_) (fun h163 => ?_)
    ·skip
     have hp164 := ite_t hb157 h162
     refine sx_run 7 (todo' := [.code (cd3 [1, 1, 1, 1, 1, 0, 1, 0, 0, 1, 0, 0, 0, 0]), .code (cd3 [1, 1, 1, 1, 1, 0, 1, 0, 0, 1, 0, 0, 0, 1]), .code (cd3 [1, 1, 1, 1, 1, 0, 1, 0, 0, 1, 0, 0, 1]), .inBlock 1, .code (cd3 [1, 1, 1, 1, 1, 0, 1, 0, 0, 1, 1]), .inLoop (cd3 [1, 1, 1, 1, 1, 0, 1, 0, 0]), .inBlock 0, .code (cd3 [1, 1, 1, 1, 1, 1])]) (us := []) (by kernel_rfl) ?_
     refine r_quiet hS153 (c := (cd3 [1, 1, 1, 1, 1, 0, 1, 0, 0, 1, 0, 0, 0, 0])) (id := 9) (by kernel_rfl) (by kernel_rfl) (by kernel_rfl) (is := [0, 1, 2, 3, 4, 5, 6, 7, 8, 9, 10, 11, 12, 13, 14, 15]) (by kernel_rfl) ?_
     refine q_run 2 (is' := [2, 3, 4, 5, 6, 7, 8, 9, 10, 11, 12, 13, 14, 15]) (us := [(25, .slice Q2 t1.length Q3), (26, .int .i64 t151)]) (by kernel_rfl) ?_
     obtain ⟨g165, hp166⟩ := ite_some hp164
     obtain ⟨b167, p168, hA169, hc170⟩ := hs11.atF g165.1 g165.2
     refine q_indexAddr (c := (cd3 [1, 1, 1, 1, 1, 0, 1, 0, 0, 1, 0, 0, 0, 0])) (i := 2) (d := (some 27)) (ty := 0) (t := 22) (e := 9) (n := t1.length) (cp := Q3) (sz := 1) (kk := .i64) (x := (.tmp 25)) (y := (.tmp 26)) (b := b167) (o' := p168) (j := t151) (by kernel_rfl) (by kernel_rfl) (slv (by kernel_rfl) hA169) (by kernel_rfl) (by kernel_rfl) (by kernel_rfl) g165.1 g165.2 ?_
     refine q_load (c := (cd3 [1, 1, 1, 1, 1, 0, 1, 0, 0, 1, 0, 0, 0, 0])) (i := 3) (d := (some 28)) (ty := 9) (t := 9) (x := (.tmp 27)) (p := ⟨b167, p168 + t151.toNat * 1, none⟩) (v := .string (gt t1 t151)) (by kernel_rfl) (by kernel_rfl) (by kernel_rfl) (fun w hC => (loads_at 0 (hc170.cells hC) (by kernel_rfl) (by kernel_rfl))) ?_
     refine q_run 2 (is' := [6, 7, 8, 9, 10, 11, 12, 13, 14, 15]) (us := [(29, .slice Q13 t12.length Q14), (30, .int .i64 t151)]) (by kernel_rfl) ?_
     obtain ⟨g171, hp172⟩ := ite_some hp166
     obtain ⟨b173, p174, hA175, -⟩ := (hS153.row 0 rfl).at_ len_encS (by omega) g171.1 g171.2
     refine q_indexAddr (c := (cd3 [1, 1, 1, 1, 1, 0, 1, 0, 0, 1, 0, 0, 0, 0])) (i := 6) (d := (some 31)) (ty := 0) (t := 22) (e := 9) (n := t12.length) (cp := Q14) (sz := 1) (kk := .i64) (x := (.tmp 29)) (y := (.tmp 30)) (b := b173) (o' := p174) (j := t151) (by kernel_rfl) (by kernel_rfl) (slv (by kernel_rfl) hA175) (by kernel_rfl) (by kernel_rfl) (by kernel_rfl) g171.1 g171.2 ?_
     refine q_load (c := (cd3 [1, 1, 1, 1, 1, 0, 1, 0, 0, 1, 0, 0, 0, 0])) (i := 7) (d := (some 32)) (ty := 9) (t := 9) (x := (.tmp 31)) (p := ⟨b173, p174 + t151.toNat * 1, none⟩) (v := .string (gt t12 t151)) (by kernel_rfl) (by kernel_rfl) (by kernel_rfl) (fun w hC => (loads_at 0 ((hC.row 0 rfl).at2 hA175 len_encS (by omega) g171.1 g171.2) (by kernel_rfl) (by kernel_rfl))) ?_
     refine q_splitr 1 (is' := [9, 10, 11, 12, 13, 14, 15]) (us := []) (d := 33) (t := (!seq (gt t1 t151) (gt t12 t151))) (by kernel_rfl) (fun h177 => ?_) (fun h178 => ?_)
     ·skip
      have hp179 := ite_t hp172 h177
      refine q_run 7 (is' := []) (us := [(34, .bool true), (35, undef), (36, undef), (37, undef), (38, undef), (39, undef), (40, .bool true)]) (by kernel_rfl) ?_
      refine Qs.nil ?_
      intro w180 hS181
      refine sx_run 5 (todo' := [.code (cd3 [1, 1, 1, 1, 1, 0, 1, 0, 0, 1, 0, 0, 0, 1, 0, 1]), .code (cd3 [1, 1, 1, 1, 1, 0, 1, 0, 0, 1, 0, 0, 1]), .inBlock 1, .code (cd3 [1, 1, 1, 1, 1, 0, 1, 0, 0, 1, 1]), .inLoop (cd3 [1, 1, 1, 1, 1, 0, 1, 0, 0]), .inBlock 0, .code (cd3 [1, 1, 1, 1, 1, 1])]) (us := [(2, .bool false)]) (by kernel_rfl) ?_
      have hS182 := hS181.drop
      have hS183 := hS182.less hz10
      refine runs_ret (fn := Tryd.f3) (v := .bool false) Tryd.func3 (by kernel_rfl) ?_
      have hr184 := (hq161 _ (Option.some.inj hp179))
      cases hr184
      exact hR _ _ ⟨rfl, hS183⟩
     ·skip
      have hp185 := ite_f hp172 h178
      refine q_run 3 (is' := [12, 13, 14, 15]) (us := [(34, .bool false), (35, .slice Q2 t1.length Q3), (36, .int .i64 t151)]) (by kernel_rfl) ?_
      obtain ⟨g186, hp187⟩ := ite_some hp185
      obtain ⟨b188, p189, hA190, hc191⟩ := hs11.atF g186.1 g186.2
      refine q_indexAddr (c := (cd3 [1, 1, 1, 1, 1, 0, 1, 0, 0, 1, 0, 0, 0, 0])) (i := 12) (d := (some 37)) (ty := 0) (t := 22) (e := 9) (n := t1.length) (cp := Q3) (sz := 1) (kk := .i64) (x := (.tmp 35)) (y := (.tmp 36)) (b := b188) (o' := p189) (j := t151) (by kernel_rfl) (by kernel_rfl) (slv (by kernel_rfl) hA190) (by kernel_rfl) (by kernel_rfl) (by kernel_rfl) g186.1 g186.2 ?_
      refine q_load (c := (cd3 [1, 1, 1, 1, 1, 0, 1, 0, 0, 1, 0, 0, 0, 0])) (i := 13) (d := (some 38)) (ty := 9) (t := 9) (x := (.tmp 37)) (p := ⟨b188, p189 + t151.toNat * 1, none⟩) (v := .string (gt t1 t151)) (by kernel_rfl) (by kernel_rfl) (by kernel_rfl) (fun w hC => (loads_at 0 (hc191.cells hC) (by kernel_rfl) (by kernel_rfl))) ?_
      refine q_splitr 1 (is' := [15]) (us := []) (d := 39) (t := (seq (gt t1 t151) (⟨#[]⟩ : ByteArray))) (by kernel_rfl) (fun h192 => ?_) (fun h193 => ?_)
      ·skip
       have hp194 := ite_t hp187 h192
       refine q_run 1 (is' := []) (us := [(40, .bool true)]) (by kernel_rfl) ?_
       refine Qs.nil ?_
       intro w195 hS196
       refine sx_run 5 (todo' := [.code (cd3 [1, 1, 1, 1, 1, 0, 1, 0, 0, 1, 0, 0, 0, 1, 0, 1]), .code (cd3 [1, 1, 1, 1, 1, 0, 1, 0, 0, 1, 0, 0, 1]), .inBlock 1, .code (cd3 [1, 1, 1, 1, 1, 0, 1, 0, 0, 1, 1]), .inLoop (cd3 [1, 1, 1, 1, 1, 0, 1, 0, 0]), .inBlock 0, .code (cd3 [1, 1, 1, 1, 1, 1])]) (us := [(2, .bool false)]) (by kernel_rfl) ?_
       have hS197 := hS196.drop
       have hS198 := hS197.less hz10
       refine runs_ret (fn := Tryd.f3) (v := .bool false) Tryd.func3 (by kernel_rfl) ?_
       have hr199 := (hq161 _ (Option.some.inj hp194))
       cases hr199
       exact hR _ _ ⟨rfl, hS198⟩
      ·skip
       have hp200 := ite_f hp187 h193
       refine q_run 1 (is' := []) (us := [(40, .bool false)]) (by kernel_rfl) ?_
       refine Qs.nil ?_
       intro w201 hS202
       refine sx_run 6 (todo' := [.inRegion (opsOf (cd3 [1, 1, 1, 1, 1, 0, 1, 0, 0, 1, 0, 0, 1])) [3, 4, 5, 6, 7], .inBlock 1, .code (cd3 [1, 1, 1, 1, 1, 0, 1, 0, 0, 1, 1]), .inLoop (cd3 [1, 1, 1, 1, 1, 0, 1, 0, 0]), .inBlock 0, .code (cd3 [1, 1, 1, 1, 1, 1])]) (us := [(41, .int .i64 t150), (42, .slice Q2 t1.length Q3), (43, .int .i64 t151)]) (by kernel_rfl) ?_
       obtain ⟨g203, hp204⟩ := ite_some hp200
       obtain ⟨b205, p206, hA207, hc208⟩ := hs11.atF g203.1 g203.2
       refine r_indexAddr (c := (cd3 [1, 1, 1, 1, 1, 0, 1, 0, 0, 1, 0, 0, 1])) (i := 3) (d := (some 44)) (ty := 0) (t := 22) (e := 9) (n := t1.length) (cp := Q3) (sz := 1) (kk := .i64) (x := (.tmp 42)) (y := (.tmp 43)) (b := b205) (o' := p206) (j := t151) (by kernel_rfl) (by kernel_rfl) (slv (by kernel_rfl) hA207) (by kernel_rfl) (by kernel_rfl) (by kernel_rfl) g203.1 g203.2 ?_
       refine r_load (c := (cd3 [1, 1, 1, 1, 1, 0, 1, 0, 0, 1, 0, 0, 1])) (i := 4) (d := (some 45)) (ty := 9) (t := 9) (x := (.tmp 44)) (p := ⟨b205, p206 + t151.toNat * 1, none⟩) (v := .string (gt t1 t151)) (by kernel_rfl) (by kernel_rfl) (by kernel_rfl) (loads_at 0 (hc208.cells hS202) (by kernel_rfl) (by kernel_rfl)) ?_
       refine sx_run 10 (todo' := [.inLoop (cd3 [1, 1, 1, 1, 1, 0, 1, 0, 0]), .inBlock 0, .code (cd3 [1, 1, 1, 1, 1, 1])]) (us := [(46, .int .i64 ((gt t1 t151).size : Int)), (47, .int .i64 (IntKind.i64.wrap (t150 + ((gt t1 t151).size : Int)))), (5, .int .i64 (IntKind.i64.wrap (t150 + ((gt t1 t151).size : Int)))), (23, .int .i64 t151), (24, .int .i64 (IntKind.i64.wrap (t151 + 1))), (6, .int .i64 (IntKind.i64.wrap (t151 + 1)))]) (by kernel_rfl) ?_
       refine sx_run 1 (todo' := [.code (cd3 [1, 1, 1, 1, 1, 0, 1, 0, 0]), .inLoop (cd3 [1, 1, 1, 1, 1, 0, 1, 0, 0]), .inBlock 0, .code (cd3 [1, 1, 1, 1, 1, 1])]) (us := []) (by kernel_rfl) ?_
       refine Runs.fill (m := [some (.string a0), none, none, some (.slice Q2 t1.length Q3), some (.slice Q13 t12.length Q14), some (.int .i64 (IntKind.i64.wrap (t150 + ((gt t1 t151).size : Int)))), some (.int .i64 (IntKind.i64.wrap (t151 + 1))), none, none, none, none, none, none, none, none, none, none, none, none, none, none, none, none, none, none, none, none, none, none, none, none, none, none, none, none, none, none, none, none, none, none, none, none, none, none, none, none, none, none, none, none, none, none, none, none, none, none, none, none, none, none, none, none, none, none, none, none, none, none, none, none, none, none, none, none, none, none, none, none, none, none, none, none, none, none, none, none, none, none, none, none, none, none, none, none, none, none, none, none, none, none, none, none, none, none, none, none, none, none, none, none]) (by kernel_rfl) ?_
       exact ih158 (IntKind.i64.wrap (t150 + ((gt t1 t151).size : Int))) (IntKind.i64.wrap (t151 + 1)) _ hp204 he156 _ _ hS202
    ·skip
     have hp209 := ite_f hb157 h163
     refine sx_run 3 (todo' := [.code (cd3 [1, 1, 1, 1, 1, 1])]) (us := []) (by kernel_rfl) ?_
     have hS210 := hS153.drop
     refine Runs.fill (m := [some (.string a0), none, none, some (.slice Q2 t1.length Q3), none, some (.int .i64 t150), none, none, none, none, none, none, none, none, none, none, none, none, none, none, none, none, none, none, none, none, none, none, none, none, none, none, none, none, none, none, none, none, none, none, none, none, none, none, none, none, none, none, none, none, none, none, none, none, none, none, none, none, none, none, none, none, none, none, none, none, none, none, none, none, none, none, none, none, none, none, none, none, none, none, none, none, none, none, none, none, none, none, none, none, none, none, none, none, none, none, none, none, none, none, none, none, none, none, none, none, none, none, none, none, none]) (by kernel_rfl) ?_
     exact J34 t150 ((Option.some.inj hp209).trans he156) _ _ hS210
   refine Runs.fill (m := [some (.string a0), none, none, some (.slice Q2 t1.length Q3), some (.slice Q13 t12.length Q14), some (.int .i64 0), some (.int .i64 0), none, none, none, none, none, none, none, none, none, none, none, none, none, none, none, none, none, none, none, none, none, none, none, none, none, none, none, none, none, none, none, none, none, none, none, none, none, none, none, none, none, none, none, none, none, none, none, none, none, none, none, none, none, none, none, none, none, none, none, none, none, none, none, none, none, none, none, none, none, none, none, none, none, none, none, none, none, none, none, none, none, none, none, none, none, none, none, none, none, none, none, none, none, none, none, none, none, none, none, none, none, none, none, none]) (by kernel_rfl) ?_
   exact L160 0 0 _ hv28 rfl _ _ hS19

end
end Go.Proofs.YthlegnipdaikgaaDoor.K
