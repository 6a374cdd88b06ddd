/- The walk, part 1: each Go function as a plain Lean function, and that its call answers as that function says. No condition. -/
import Derived.Test.YtmgjnplkpmcleaaDoorE
import Derived.Test.YtmgjnplkpmcleaaDoorNG
import Derived.Test.YtmgjnplkpmcleaaDoorNP
import Derived.Test.YtmgjnplkpmcleaaDoorNM
import Derived.Test.YtmgjnplkpmcleaaDoorNI
import Derived.Test.YtmgjnplkpmcleaaDoorNV
import Derived.Test.YtmgjnplkpmcleaaDoorNB
import Derived.Test.YtmgjnplkpmcleaaDoorNR
set_option linter.unusedVariables false
set_option linter.unusedSimpArgs false
set_option maxRecDepth 100000
namespace Go.Proofs.YtmgjnplkpmcleaaDoor.K
open Go Go.RowKit
noncomputable section
noncomputable def cd34 (p : List Nat) : Code := sub (bodyOf Tryd.f34) p
def lexis_letter.f (a0 : Int) : Option Bool :=
  (if (decide (a0 ≥ 97)) = true then (if (decide (a0 ≤ 122)) = true then some (true) else (if (decide (a0 ≥ 65)) = true then (if (decide (a0 ≤ 90)) = true then some (true) else (if (a0 == 95) = true then some (true) else some (false))) else (if (a0 == 95) = true then some (true) else some (false)))) else (if (decide (a0 ≥ 65)) = true then (if (decide (a0 ≤ 90)) = true then some (true) else (if (a0 == 95) = true then some (true) else some (false))) else (if (a0 == 95) = true then some (true) else some (false))))
set_option maxHeartbeats 16000000 in
theorem lexis_letter.ok (a0 : Int) {w0 : World} {Z : Zm} {fs : List XObj} {w : World} (hS0 : St w0 Z (fs) w) {q0 : Bool} (hp0 : lexis_letter.f a0 = some q0) :
    Calls Tryd.prog 34 #[.int .u8 a0] w (fun e w' => e = .returned (.bool q0) ∧ St w0 Z (fs) w') := by
  refine calls_abs ?_; intro R hR
  unfold lexis_letter.f at hp0
  refine calls_of_runs (fn := Tryd.f34) (c := cd34 []) Tryd.func34 (by kernel_rfl) (al := [.int .u8 a0]) rfl (n := 20) rfl ?_
  refine sx_split 8 (todo' := [.inRegion (opsOf (cd34 [1, 0])) [2, 3, 4, 5, 6, 7, 8, 9, 10, 11, 12, 13, 14, 15, 16, 17, 18], .code (cd34 [1, 1])]) (us := [(2, .bool false), (3, .int .u8 a0)]) (d := 4) (t := (decide (a0 ≥ 97))) (by kernel_rfl) (fun h1 => ?_) (fun h2 => ?_)
  ·skip
   have hp3 := ite_t hp0 h1
   refine sx_split 3 (todo' := [.inRegion (opsOf (cd34 [1, 0])) [5, 6, 7, 8, 9, 10, 11, 12, 13, 14, 15, 16, 17, 18], .code (cd34 [1, 1])]) (us := [(5, .bool true), (6, .int .u8 a0)]) (d := 7) (t := (decide (a0 ≤ 122))) (by kernel_rfl) (fun h4 => ?_) (fun h5 => ?_)
   ·skip
    have hp6 := ite_t hp3 h4
    refine sx_run 15 (todo' := [.code (cd34 [1, 1])]) (us := [(8, .bool true), (9, .bool true), (10, undef), (11, undef), (12, undef), (13, undef), (14, undef), (15, undef), (16, .bool true), (17, .bool true), (18, undef), (19, undef), (20, .bool true), (2, .bool true)]) (by kernel_rfl) ?_
    refine runs_ret (fn := Tryd.f34) (v := .bool true) Tryd.func34 (by kernel_rfl) ?_
    have hr7 := (Option.some.inj hp6)
    cases hr7
    exact hR _ _ ⟨rfl, hS0⟩
   ·skip
    have hp8 := ite_f hp3 h5
    refine sx_split 4 (todo' := [.inRegion (opsOf (cd34 [1, 0])) [9, 10, 11, 12, 13, 14, 15, 16, 17, 18], .code (cd34 [1, 1])]) (us := [(8, .bool false), (9, .bool false), (10, .int .u8 a0)]) (d := 11) (t := (decide (a0 ≥ 65))) (by kernel_rfl) (fun h9 => ?_) (fun h10 => ?_)
    ·skip
     have hp11 := ite_t hp8 h9
     refine sx_split 3 (todo' := [.inRegion (opsOf (cd34 [1, 0])) [12, 13, 14, 15, 16, 17, 18], .code (cd34 [1, 1])]) (us := [(12, .bool true), (13, .int .u8 a0)]) (d := 14) (t := (decide (a0 ≤ 90))) (by kernel_rfl) (fun h12 => ?_) (fun h13 => ?_)
     ·skip
      have hp14 := ite_t hp11 h12
      refine sx_run 8 (todo' := [.code (cd34 [1, 1])]) (us := [(15, .bool true), (16, .bool true), (17, .bool true), (18, undef), (19, undef), (20, .bool true), (2, .bool true)]) (by kernel_rfl) ?_
      refine runs_ret (fn := Tryd.f34) (v := .bool true) Tryd.func34 (by kernel_rfl) ?_
      have hr15 := (Option.some.inj hp14)
      cases hr15
      exact hR _ _ ⟨rfl, hS0⟩
     ·skip
      have hp16 := ite_f hp11 h13
      refine sx_split 5 (todo' := [.inRegion (opsOf (cd34 [1, 0])) [17, 18], .code (cd34 [1, 1])]) (us := [(15, .bool false), (16, .bool false), (17, .bool false), (18, .int .u8 a0)]) (d := 19) (t := (a0 == 95)) (by kernel_rfl) (fun h17 => ?_) (fun h18 => ?_)
      ·skip
       have hp19 := ite_t hp16 h17
       refine sx_run 3 (todo' := [.code (cd34 [1, 1])]) (us := [(20, .bool true), (2, .bool true)]) (by kernel_rfl) ?_
       refine runs_ret (fn := Tryd.f34) (v := .bool true) Tryd.func34 (by kernel_rfl) ?_
       have hr20 := (Option.some.inj hp19)
       cases hr20
       exact hR _ _ ⟨rfl, hS0⟩
      ·skip
       have hp21 := ite_f hp16 h18
       refine sx_run 3 (todo' := [.code (cd34 [1, 1])]) (us := [(20, .bool false), (2, .bool false)]) (by kernel_rfl) ?_
       refine runs_ret (fn := Tryd.f34) (v := .bool false) Tryd.func34 (by kernel_rfl) ?_
       have hr22 := (Option.some.inj hp21)
       cases hr22
       exact hR _ _ ⟨rfl, hS0⟩
    ·skip
     have hp23 := ite_f hp8 h10
     refine sx_split 8 (todo' := [.inRegion (opsOf (cd34 [1, 0])) [17, 18], .code (cd34 [1, 1])]) (us := [(12, .bool false), (13, undef), (14, undef), (15, .bool false), (16, .bool false), (17, .bool false), (18, .int .u8 a0)]) (d := 19) (t := (a0 == 95)) (by kernel_rfl) (fun h24 => ?_) (fun h25 => ?_)
     ·skip
      have hp26 := ite_t hp23 h24
      refine sx_run 3 (todo' := [.code (cd34 [1, 1])]) (us := [(20, .bool true), (2, .bool true)]) (by kernel_rfl) ?_
      refine runs_ret (fn := Tryd.f34) (v := .bool true) Tryd.func34 (by kernel_rfl) ?_
      have hr27 := (Option.some.inj hp26)
      cases hr27
      exact hR _ _ ⟨rfl, hS0⟩
     ·skip
      have hp28 := ite_f hp23 h25
      refine sx_run 3 (todo' := [.code (cd34 [1, 1])]) (us := [(20, .bool false), (2, .bool false)]) (by kernel_rfl) ?_
      refine runs_ret (fn := Tryd.f34) (v := .bool false) Tryd.func34 (by kernel_rfl) ?_
      have hr29 := (Option.some.inj hp28)
      cases hr29
      exact hR _ _ ⟨rfl, hS0⟩
  ·skip
   have hp30 := ite_f hp0 h2
   refine sx_split 7 (todo' := [.inRegion (opsOf (cd34 [1, 0])) [9, 10, 11, 12, 13, 14, 15, 16, 17, 18], .code (cd34 [1, 1])]) (us := [(5, .bool false), (6, undef), (7, undef), (8, .bool false), (9, .bool false), (10, .int .u8 a0)]) (d := 11) (t := (decide (a0 ≥ 65))) (by kernel_rfl) (fun h31 => ?_) (fun h32 => ?_)
   ·skip
    have hp33 := ite_t hp30 h31
    refine sx_split 3 (todo' := [.inRegion (opsOf (cd34 [1, 0])) [12, 13, 14, 15, 16, 17, 18], .code (cd34 [1, 1])]) (us := [(12, .bool true), (13, .int .u8 a0)]) (d := 14) (t := (decide (a0 ≤ 90))) (by kernel_rfl) (fun h34 => ?_) (fun h35 => ?_)
    ·skip
     have hp36 := ite_t hp33 h34
     refine sx_run 8 (todo' := [.code (cd34 [1, 1])]) (us := [(15, .bool true), (16, .bool true), (17, .bool true), (18, undef), (19, undef), (20, .bool true), (2, .bool true)]) (by kernel_rfl) ?_
     refine runs_ret (fn := Tryd.f34) (v := .bool true) Tryd.func34 (by kernel_rfl) ?_
     have hr37 := (Option.some.inj hp36)
     cases hr37
     exact hR _ _ ⟨rfl, hS0⟩
    ·skip
     have hp38 := ite_f hp33 h35
     refine sx_split 5 (todo' := [.inRegion (opsOf (cd34 [1, 0])) [17, 18], .code (cd34 [1, 1])]) (us := [(15, .bool false), (16, .bool false), (17, .bool false), (18, .int .u8 a0)]) (d := 19) (t := (a0 == 95)) (by kernel_rfl) (fun h39 => ?_) (fun h40 => ?_)
     ·skip
      have hp41 := ite_t hp38 h39
      refine sx_run 3 (todo' := [.code (cd34 [1, 1])]) (us := [(20, .bool true), (2, .bool true)]) (by kernel_rfl) ?_
      refine runs_ret (fn := Tryd.f34) (v := .bool true) Tryd.func34 (by kernel_rfl) ?_
      have hr42 := (Option.some.inj hp41)
      cases hr42
      exact hR _ _ ⟨rfl, hS0⟩
     ·skip
      have hp43 := ite_f hp38 h40
      refine sx_run 3 (todo' := [.code (cd34 [1, 1])]) (us := [(20, .bool false), (2, .bool false)]) (by kernel_rfl) ?_
      refine runs_ret (fn := Tryd.f34) (v := .bool false) Tryd.func34 (by kernel_rfl) ?_
      have hr44 := (Option.some.inj hp43)
      cases hr44
      exact hR _ _ ⟨rfl, hS0⟩
   ·skip
    have hp45 := ite_f hp30 h32
    refine sx_split 8 (todo' := [.inRegion (opsOf (cd34 [1, 0])) [17, 18], .code (cd34 [1, 1])]) (us := [(12, .bool false), (13, undef), (14, undef), (15, .bool false), (16, .bool false), (17, .bool false), (18, .int .u8 a0)]) (d := 19) (t := (a0 == 95)) (by kernel_rfl) (fun h46 => ?_) (fun h47 => ?_)
    ·skip
     have hp48 := ite_t hp45 h46
     refine sx_run 3 (todo' := [.code (cd34 [1, 1])]) (us := [(20, .bool true), (2, .bool true)]) (by kernel_rfl) ?_
     refine runs_ret (fn := Tryd.f34) (v := .bool true) Tryd.func34 (by kernel_rfl) ?_
     have hr49 := (Option.some.inj hp48)
     cases hr49
     exact hR _ _ ⟨rfl, hS0⟩
    ·skip
     have hp50 := ite_f hp45 h47
     refine sx_run 3 (todo' := [.code (cd34 [1, 1])]) (us := [(20, .bool false), (2, .bool false)]) (by kernel_rfl) ?_
     refine runs_ret (fn := Tryd.f34) (v := .bool false) Tryd.func34 (by kernel_rfl) ?_
     have hr51 := (Option.some.inj hp50)
     cases hr51
     exact hR _ _ ⟨rfl, hS0⟩

noncomputable def cd35 (p : List Nat) : Code := sub (bodyOf Tryd.f35) p
def lexis_byteAt.f (a0 : ByteArray) (a1 : Int) : Option Int :=
  (if (decide (a1 < (a0.size : Int))) = true then (if 0 ≤ a1 ∧ a1 < (a0.size : Int) then some ((byt a0 a1)) else none) else some (0))
set_option maxHeartbeats 16000000 in
theorem lexis_byteAt.ok (a0 : ByteArray) (a1 : Int) {w0 : World} {Z : Zm} {fs : List XObj} {w : World} (hS0 : St w0 Z (fs) w) {q0 : Int} (hp0 : lexis_byteAt.f a0 a1 = some q0) :
    Calls Tryd.prog 35 #[.string a0, .int .i64 a1] w (fun e w' => e = .returned (.int .u8 q0) ∧ St w0 Z (fs) w') := by
  refine calls_abs ?_; intro R hR
  unfold lexis_byteAt.f at hp0
  refine calls_of_runs (fn := Tryd.f35) (c := cd35 []) Tryd.func35 (by kernel_rfl) (al := [.string a0, .int .i64 a1]) rfl (n := 10) rfl ?_
  refine sx_split 11 (todo' := [.inRegion (opsOf (cd35 [1, 0, 0])) [], .code (cd35 [1, 0, 1]), .code (cd35 [1, 1])]) (us := [(4, .int .u8 0), (5, .int .i64 a1), (6, .string a0), (7, .int .i64 (a0.size : Int))]) (d := 8) (t := (decide (a1 < (a0.size : Int)))) (by kernel_rfl) (fun h1 => ?_) (fun h2 => ?_)
  ·skip
   have hp3 := ite_t hp0 h1
   refine sx_run 6 (todo' := [.inRegion (opsOf (cd35 [1, 0, 1, 0, 0])) [2, 3], .code (cd35 [1, 0, 1, 0, 1]), .code (cd35 [1, 1])]) (us := [(9, .string a0), (10, .int .i64 a1)]) (by kernel_rfl) ?_
   obtain ⟨g4, hp5⟩ := ite_some hp3
   refine r_val (c := (cd35 [1, 0, 1, 0, 0])) (i := 2) (d := (some 11)) (ty := 5) (op := .index 9 (.tmp 9) (.tmp 10)) (v := .int .u8 (byt a0 a1)) (by kernel_rfl) (by kernel_rfl) (fun o ho _ => x_indexStr (kk := .i64) (by kernel_rfl) (by kernel_rfl) (by kernel_rfl) g4.1 g4.2 ho) ?_
   refine sx_run 2 (todo' := [.code (cd35 [1, 0, 1, 0, 1]), .code (cd35 [1, 1])]) (us := [(4, .int .u8 (byt a0 a1))]) (by kernel_rfl) ?_
   refine runs_ret (fn := Tryd.f35) (v := .int .u8 (byt a0 a1)) Tryd.func35 (by kernel_rfl) ?_
   have hr6 := (Option.some.inj hp5)
   cases hr6
   exact hR _ _ ⟨rfl, hS0⟩
  ·skip
   have hp7 := ite_f hp0 h2
   refine sx_run 7 (todo' := [.code (cd35 [1, 1, 1])]) (us := [(4, .int .u8 0)]) (by kernel_rfl) ?_
   refine runs_ret (fn := Tryd.f35) (v := .int .u8 0) Tryd.func35 (by kernel_rfl) ?_
   have hr8 := (Option.some.inj hp7)
   cases hr8
   exact hR _ _ ⟨rfl, hS0⟩

noncomputable def cd36 (p : List Nat) : Code := sub (bodyOf Tryd.f36) p
def lexis_digit.f (a0 : Int) : Option Bool :=
  (if (decide (a0 ≥ 48)) = true then (if (decide (a0 ≤ 57)) = true then some (true) else some (false)) else some (false))
set_option maxHeartbeats 16000000 in
theorem lexis_digit.ok (a0 : Int) {w0 : World} {Z : Zm} {fs : List XObj} {w : World} (hS0 : St w0 Z (fs) w) {q0 : Bool} (hp0 : lexis_digit.f a0 = some q0) :
    Calls Tryd.prog 36 #[.int .u8 a0] w (fun e w' => e = .returned (.bool q0) ∧ St w0 Z (fs) w') := by
  refine calls_abs ?_; intro R hR
  unfold lexis_digit.f at hp0
  refine calls_of_runs (fn := Tryd.f36) (c := cd36 []) Tryd.func36 (by kernel_rfl) (al := [.int .u8 a0]) rfl (n := 8) rfl ?_
  refine sx_split 8 (todo' := [.inRegion (opsOf (cd36 [1, 0])) [2, 3, 4, 5, 6], .code (cd36 [1, 1])]) (us := [(2, .bool false), (3, .int .u8 a0)]) (d := 4) (t := (decide (a0 ≥ 48))) (by kernel_rfl) (fun h1 => ?_) (fun h2 => ?_)
  ·skip
   have hp3 := ite_t hp0 h1
   refine sx_split 3 (todo' := [.inRegion (opsOf (cd36 [1, 0])) [5, 6], .code (cd36 [1, 1])]) (us := [(5, .bool true), (6, .int .u8 a0)]) (d := 7) (t := (decide (a0 ≤ 57))) (by kernel_rfl) (fun h4 => ?_) (fun h5 => ?_)
   ·skip
    have hp6 := ite_t hp3 h4
    refine sx_run 3 (todo' := [.code (cd36 [1, 1])]) (us := [(8, .bool true), (2, .bool true)]) (by kernel_rfl) ?_
    refine runs_ret (fn := Tryd.f36) (v := .bool true) Tryd.func36 (by kernel_rfl) ?_
    have hr7 := (Option.some.inj hp6)
    cases hr7
    exact hR _ _ ⟨rfl, hS0⟩
   ·skip
    have hp8 := ite_f hp3 h5
    refine sx_run 3 (todo' := [.code (cd36 [1, 1])]) (us := [(8, .bool false), (2, .bool false)]) (by kernel_rfl) ?_
    refine runs_ret (fn := Tryd.f36) (v := .bool false) Tryd.func36 (by kernel_rfl) ?_
    have hr9 := (Option.some.inj hp8)
    cases hr9
    exact hR _ _ ⟨rfl, hS0⟩
  ·skip
   have hp10 := ite_f hp0 h2
   refine sx_run 6 (todo' := [.code (cd36 [1, 1])]) (us := [(5, .bool false), (6, undef), (7, undef), (8, .bool false), (2, .bool false)]) (by kernel_rfl) ?_
   refine runs_ret (fn := Tryd.f36) (v := .bool false) Tryd.func36 (by kernel_rfl) ?_
   have hr11 := (Option.some.inj hp10)
   cases hr11
   exact hR _ _ ⟨rfl, hS0⟩

noncomputable def cd23 (p : List Nat) : Code := sub (bodyOf Tryd.f23) p
def lexis_name.l0 (a0 : ByteArray) (t22 : Int) : Option Int :=
  (lexis_byteAt.f a0 t22 >>= (fun t33 => (lexis_byteAt.f a0 (IntKind.i64.wrap (t22 + 1)) >>= (fun t38 => (if (t22 == (a0.size : Int)) = true then some (t22) else (lexis_letter.f t33 >>= (fun t48 => (((if t48 = true then some (true) else (lexis_digit.f t33 >>= (fun t104 => (if t104 = true then some (true) else (if (t33 == 46) = true then some (true) else some (false)))))) : Option Bool) >>= (fun t56 => (if t56 = true then (lexis_name.l0 a0 (IntKind.i64.wrap (t22 + 1))) else (if (t33 == 43) = true then (lexis_letter.f t38 >>= (fun t66 => (if t66 = true then (lexis_name.l0 a0 (IntKind.i64.wrap (t22 + 1))) else (lexis_digit.f t38 >>= (fun t72 => (if t72 = true then (lexis_name.l0 a0 (IntKind.i64.wrap (t22 + 1))) else some (t22))))))) else (if (t33 == 45) = true then (lexis_letter.f t38 >>= (fun t85 => (if t85 = true then (lexis_name.l0 a0 (IntKind.i64.wrap (t22 + 1))) else (lexis_digit.f t38 >>= (fun t91 => (if t91 = true then (lexis_name.l0 a0 (IntKind.i64.wrap (t22 + 1))) else some (t22))))))) else some (t22)))))))))))))
 partial_fixpoint
def lexis_name.f (a0 : ByteArray) : Option Int :=
  (if (seq a0 (⟨#[]⟩ : ByteArray)) = true then some (0) else (if 0 ≤ (0 : Int) ∧ (0 : Int) < (a0.size : Int) then (lexis_letter.f (byt a0 (0 : Int)) >>= (fun t8 => (if (!t8) = true then some (0) else (lexis_name.l0 a0 1 >>= fun e => some e)))) else none))
set_option maxHeartbeats 16000000 in
theorem lexis_name.ok (a0 : ByteArray) {w0 : World} {Z : Zm} {fs : List XObj} {w : World} (hS0 : St w0 Z (fs) w) {q0 : Int} (hp0 : lexis_name.f a0 = some q0) :
    Calls Tryd.prog 23 #[.string a0] w (fun e w' => e = .returned (.int .i64 q0) ∧ St w0 Z (fs) w') := by
  refine calls_abs ?_; intro R hR
  unfold lexis_name.f at hp0
  refine calls_of_runs (fn := Tryd.f23) (c := cd23 []) Tryd.func23 (by kernel_rfl) (al := [.string a0]) rfl (n := 51) rfl ?_
  refine sx_split 9 (todo' := [.inRegion (opsOf (cd23 [1, 0, 0])) [2, 3, 4, 5, 6, 7], .code (cd23 [1, 0, 1]), .code (cd23 [1, 1])]) (us := [(2, .int .i64 0), (6, .string a0)]) (d := 7) (t := (seq a0 (⟨#[]⟩ : ByteArray))) (by kernel_rfl) (fun h1 => ?_) (fun h2 => ?_)
  ·skip
   have hp3 := ite_t hp0 h1
   refine sx_run 12 (todo' := [.code (cd23 [1, 0, 1, 0, 1]), .code (cd23 [1, 1])]) (us := [(8, .bool true), (9, undef), (10, undef), (11, undef), (12, undef), (13, .bool true), (2, .int .i64 0)]) (by kernel_rfl) ?_
   refine runs_ret (fn := Tryd.f23) (v := .int .i64 0) Tryd.func23 (by kernel_rfl) ?_
   have hr4 := (Option.some.inj hp3)
   cases hr4
   exact hR _ _ ⟨rfl, hS0⟩
  ·skip
   have hp5 := ite_f hp0 h2
   refine sx_run 2 (todo' := [.inRegion (opsOf (cd23 [1, 0, 0])) [4, 5, 6, 7], .code (cd23 [1, 0, 1]), .code (cd23 [1, 1])]) (us := [(8, .bool false), (9, .string a0)]) (by kernel_rfl) ?_
   obtain ⟨g6, hp7⟩ := ite_some hp5
   refine r_val (c := (cd23 [1, 0, 0])) (i := 4) (d := (some 10)) (ty := 5) (op := .index 9 (.tmp 9) (.const (.int .i64 0))) (v := .int .u8 (byt a0 (0 : Int))) (by kernel_rfl) (by kernel_rfl) (fun o ho _ => x_indexStr (kk := .i64) (by kernel_rfl) (by kernel_rfl) (by kernel_rfl) g6.1 g6.2 ho) ?_
   obtain ⟨t8, hr9, hp10⟩ := bind_some' hp7
   refine r_call1 (c := (cd23 [1, 0, 0])) (i := 5) (d := (some 11)) (g := 34) (args := #[.int .u8 (byt a0 (0 : Int))]) (by kernel_rfl) (by kernel_rfl) (by kernel_rfl) (by kernel_rfl) (lexis_letter.ok (byt a0 (0 : Int)) hS0 hr9) ?_
   rintro _ w11 ⟨rfl, hS12⟩
   refine ⟨.bool t8, rfl, ?_⟩
   refine sx_split 1 (todo' := [.inRegion (opsOf (cd23 [1, 0, 0])) [7], .code (cd23 [1, 0, 1]), .code (cd23 [1, 1])]) (us := []) (d := 12) (t := (!t8)) (by kernel_rfl) (fun h13 => ?_) (fun h14 => ?_)
   ·skip
    have hp15 := ite_t hp10 h13
    refine sx_run 7 (todo' := [.code (cd23 [1, 0, 1, 0, 1]), .code (cd23 [1, 1])]) (us := [(13, .bool true), (2, .int .i64 0)]) (by kernel_rfl) ?_
    refine runs_ret (fn := Tryd.f23) (v := .int .i64 0) Tryd.func23 (by kernel_rfl) ?_
    have hr16 := (Option.some.inj hp15)
    cases hr16
    exact hR _ _ ⟨rfl, hS12⟩
   ·skip
    have hp17 := ite_f hp10 h14
    refine sx_run 10 (todo' := [.code (cd23 [1, 1, 1, 0, 0]), .inLoop (cd23 [1, 1, 1, 0, 0]), .inBlock 0]) (us := [(13, .bool false), (3, .int .i64 1)]) (by kernel_rfl) ?_
    obtain ⟨v18, hv19, hp20⟩ := bind_some' hp17
    have hq21 : ∀ x, x = v18 → x = q0 := by intro x hx; subst hx; simpa using hp20
    have L31 : ∀ (t22 : Int) (e26 : Int), lexis_name.l0 a0 t22 = some e26 → e26 = v18 → ∀ (l25 : List Value) (w23 : World) (hS24 : St w0 Z (fs) w23), Runs Tryd.prog 23 [.code (cd23 [1, 1, 1, 0, 0]), .inLoop (cd23 [1, 1, 1, 0, 0]), .inBlock 0] (fill [some (.string a0), none, none, some (.int .i64 t22), none, none, none, none, none, none, none, none, none, none, none, none, none, none, none, none, none, none, none, none, none, none, none, none, none, none, none, none, none, none, none, none, none, none, none, none, none, none, none, none, none, none, none, none, none, none, none, none] l25) w23 R := by
     refine lexis_name.l0.partial_correctness a0 (fun t22 e26 => e26 = v18 → ∀ (l25 : List Value) (w23 : World) (hS24 : St w0 Z (fs) w23), Runs Tryd.prog 23 [.code (cd23 [1, 1, 1, 0, 0]), .inLoop (cd23 [1, 1, 1, 0, 0]), .inBlock 0] (fill [some (.string a0), none, none, some (.int .i64 t22), none, none, none, none, none, none, none, none, none, none, none, none, none, none, none, none, none, none, none, none, none, none, none, none, none, none, none, none, none, none, none, none, none, none, none, none, none, none, none, none, none, none, none, none, none, none, none, none] l25) w23 R) ?_
     intro rec30 ih29 t22 e26 hb28 he27 l25 w23 hS24
     have hq32 : ∀ x, id x = e26 → x = q0 := fun x hx => hq21 x (hx.trans he27)
     refine sx_run 6 (todo' := [.inRegion (opsOf (cd23 [1, 1, 1, 0, 0, 0, 0, 0])) [2, 3, 4, 5, 6, 7, 8], .code (cd23 [1, 1, 1, 0, 0, 0, 0, 1]), .inBlock 1, .code (cd23 [1, 1, 1, 0, 0, 1]), .inLoop (cd23 [1, 1, 1, 0, 0]), .inBlock 0]) (us := [(16, .string a0), (17, .int .i64 t22)]) (by kernel_rfl) ?_
     obtain ⟨t33, hr34, hp35⟩ := bind_some' hb28
     refine r_call1 (c := (cd23 [1, 1, 1, 0, 0, 0, 0, 0])) (i := 2) (d := (some 18)) (g := 35) (args := #[.string a0, .int .i64 t22]) (by kernel_rfl) (by kernel_rfl) (by kernel_rfl) (by kernel_rfl) (lexis_byteAt.ok a0 t22 hS24 hr34) ?_
     rintro _ w36 ⟨rfl, hS37⟩
     refine ⟨.int .u8 t33, rfl, ?_⟩
     refine sx_run 3 (todo' := [.inRegion (opsOf (cd23 [1, 1, 1, 0, 0, 0, 0, 0])) [6, 7, 8], .code (cd23 [1, 1, 1, 0, 0, 0, 0, 1]), .inBlock 1, .code (cd23 [1, 1, 1, 0, 0, 1]), .inLoop (cd23 [1, 1, 1, 0, 0]), .inBlock 0]) (us := [(19, .string a0), (20, .int .i64 t22), (21, .int .i64 (IntKind.i64.wrap (t22 + 1)))]) (by kernel_rfl) ?_
     obtain ⟨t38, hr39, hp40⟩ := bind_some' hp35
     refine r_call1 (c := (cd23 [1, 1, 1, 0, 0, 0, 0, 0])) (i := 6) (d := (some 22)) (g := 35) (args := #[.string a0, .int .i64 (IntKind.i64.wrap (t22 + 1))]) (by kernel_rfl) (by kernel_rfl) (by kernel_rfl) (by kernel_rfl) (lexis_byteAt.ok a0 (IntKind.i64.wrap (t22 + 1)) hS37 hr39) ?_
     rintro _ w41 ⟨rfl, hS42⟩
     refine ⟨.int .u8 t38, rfl, ?_⟩
     refine sx_split 10 (todo' := [.inRegion (opsOf (cd23 [1, 1, 1, 0, 0, 0, 0, 1, 0, 0])) [4], .code (cd23 [1, 1, 1, 0, 0, 0, 0, 1, 0, 1]), .inBlock 2, .inBlock 1, .code (cd23 [1, 1, 1, 0, 0, 1]), .inLoop (cd23 [1, 1, 1, 0, 0]), .inBlock 0]) (us := [(4, .int .u8 t33), (5, .int .u8 t38), (25, .int .i64 t22), (26, .string a0), (27, .int .i64 (a0.size : Int))]) (d := 28) (t := (t22 == (a0.size : Int))) (by kernel_rfl) (fun h43 => ?_) (fun h44 => ?_)
     ·skip
      have hp45 := ite_t hp40 h43
      refine sx_run 8 (todo' := [.code (cd23 [1, 1, 1, 0, 0, 0, 0, 1, 0, 1, 0, 1]), .inBlock 2, .inBlock 1, .code (cd23 [1, 1, 1, 0, 0, 1]), .inLoop (cd23 [1, 1, 1, 0, 0]), .inBlock 0]) (us := [(24, .bool true), (29, .int .i64 t22), (2, .int .i64 t22)]) (by kernel_rfl) ?_
      refine runs_ret (fn := Tryd.f23) (v := .int .i64 t22) Tryd.func23 (by kernel_rfl) ?_
      have hr46 := (hq32 _ (Option.some.inj hp45))
      cases hr46
      exact hR _ _ ⟨rfl, hS42⟩
     ·skip
      have hp47 := ite_f hp40 h44
      refine sx_run 7 (todo' := [.inRegion (opsOf (cd23 [1, 1, 1, 0, 0, 0, 0, 1, 0, 1, 1, 0, 0])) [1, 2], .code (cd23 [1, 1, 1, 0, 0, 0, 0, 1, 0, 1, 1, 0, 1]), .code (cd23 [1, 1, 1, 0, 0, 0, 0, 1, 0, 1, 1, 1]), .inBlock 2, .inBlock 1, .code (cd23 [1, 1, 1, 0, 0, 1]), .inLoop (cd23 [1, 1, 1, 0, 0]), .inBlock 0]) (us := [(24, .bool false), (31, .int .u8 t33)]) (by kernel_rfl) ?_
      obtain ⟨t48, hr49, hp50⟩ := bind_some' hp47
      refine r_call1 (c := (cd23 [1, 1, 1, 0, 0, 0, 0, 1, 0, 1, 1, 0, 0])) (i := 1) (d := (some 32)) (g := 34) (args := #[.int .u8 t33]) (by kernel_rfl) (by kernel_rfl) (by kernel_rfl) (by kernel_rfl) (lexis_letter.ok t33 hS42 hr49) ?_
      rintro _ w51 ⟨rfl, hS52⟩
      refine ⟨.bool t48, rfl, ?_⟩
      refine sx_run 2 (todo' := [.code (cd23 [1, 1, 1, 0, 0, 0, 0, 1, 0, 1, 1, 0, 1]), .code (cd23 [1, 1, 1, 0, 0, 0, 0, 1, 0, 1, 1, 1]), .inBlock 2, .inBlock 1, .code (cd23 [1, 1, 1, 0, 0, 1]), .inLoop (cd23 [1, 1, 1, 0, 0]), .inBlock 0]) (us := [(30, .bool t48)]) (by kernel_rfl) ?_
      obtain ⟨v53, hv54, hp55⟩ := bind_some' hp50
      have J59 : ∀ (t56 : Bool) (he61 : t56 = v53) (l60 : List Value) (w57 : World) (hS58 : St w0 Z (fs) w57), Runs Tryd.prog 23 [.code (cd23 [1, 1, 1, 0, 0, 0, 0, 1, 0, 1, 1, 1]), .inBlock 2, .inBlock 1, .code (cd23 [1, 1, 1, 0, 0, 1]), .inLoop (cd23 [1, 1, 1, 0, 0]), .inBlock 0] (fill [some (.string a0), none, none, some (.int .i64 t22), some (.int .u8 t33), some (.int .u8 t38), none, none, none, none, none, none, none, none, none, none, none, none, none, none, none, none, none, none, none, none, none, none, none, none, some (.bool t56), none, none, none, none, none, none, none, none, none, none, none, none, none, none, none, none, none, none, none, none, none] l60) w57 R := by
       intro t56 he61 l60 w57 hS58
       subst he61
       try dsimp only at hp55
       cases t56
       ·skip
        have hp62 := ite_f hp55 rfl
        refine sx_split 5 (todo' := [.inRegion (opsOf (cd23 [1, 1, 1, 0, 0, 0, 0, 1, 0, 1, 1, 1, 1, 0])) [2, 3, 4, 5, 6, 7, 8, 9, 10, 11, 12, 13, 14], .code (cd23 [1, 1, 1, 0, 0, 0, 0, 1, 0, 1, 1, 1, 1, 1]), .inBlock 2, .inBlock 1, .code (cd23 [1, 1, 1, 0, 0, 1]), .inLoop (cd23 [1, 1, 1, 0, 0]), .inBlock 0]) (us := [(38, .int .u8 t33)]) (d := 39) (t := (t33 == 43)) (by kernel_rfl) (fun h63 => ?_) (fun h64 => ?_)
        ·skip
         have hp65 := ite_t hp62 h63
         refine sx_run 6 (todo' := [.inRegion (opsOf (cd23 [1, 1, 1, 0, 0, 0, 0, 1, 0, 1, 1, 1, 1, 0])) [8, 9, 10, 11, 12, 13, 14], .code (cd23 [1, 1, 1, 0, 0, 0, 0, 1, 0, 1, 1, 1, 1, 1]), .inBlock 2, .inBlock 1, .code (cd23 [1, 1, 1, 0, 0, 1]), .inLoop (cd23 [1, 1, 1, 0, 0]), .inBlock 0]) (us := [(40, .bool true), (41, undef), (42, undef), (43, .bool true), (44, .bool true), (45, .int .u8 t38)]) (by kernel_rfl) ?_
         obtain ⟨t66, hr67, hp68⟩ := bind_some' hp65
         refine r_call1 (c := (cd23 [1, 1, 1, 0, 0, 0, 0, 1, 0, 1, 1, 1, 1, 0])) (i := 8) (d := (some 46)) (g := 34) (args := #[.int .u8 t38]) (by kernel_rfl) (by kernel_rfl) (by kernel_rfl) (by kernel_rfl) (lexis_letter.ok t38 hS58 hr67) ?_
         rintro _ w69 ⟨rfl, hS70⟩
         refine ⟨.bool t66, rfl, ?_⟩
         refine sx_run 1 (todo' := [.inRegion (opsOf (cd23 [1, 1, 1, 0, 0, 0, 0, 1, 0, 1, 1, 1, 1, 0])) [10, 11, 12, 13, 14], .code (cd23 [1, 1, 1, 0, 0, 0, 0, 1, 0, 1, 1, 1, 1, 1]), .inBlock 2, .inBlock 1, .code (cd23 [1, 1, 1, 0, 0, 1]), .inLoop (cd23 [1, 1, 1, 0, 0]), .inBlock 0]) (us := [(47, .bool t66)]) (by kernel_rfl) ?_
         cases t66
         ·skip
          have hp71 := ite_f hp68 rfl
          refine sx_run 1 (todo' := [.inRegion (opsOf (cd23 [1, 1, 1, 0, 0, 0, 0, 1, 0, 1, 1, 1, 1, 0])) [11, 12, 13, 14], .code (cd23 [1, 1, 1, 0, 0, 0, 0, 1, 0, 1, 1, 1, 1, 1]), .inBlock 2, .inBlock 1, .code (cd23 [1, 1, 1, 0, 0, 1]), .inLoop (cd23 [1, 1, 1, 0, 0]), .inBlock 0]) (us := [(48, .int .u8 t38)]) (by kernel_rfl) ?_
          obtain ⟨t72, hr73, hp74⟩ := bind_some' hp71
          refine r_call1 (c := (cd23 [1, 1, 1, 0, 0, 0, 0, 1, 0, 1, 1, 1, 1, 0])) (i := 11) (d := (some 49)) (g := 36) (args := #[.int .u8 t38]) (by kernel_rfl) (by kernel_rfl) (by kernel_rfl) (by kernel_rfl) (lexis_digit.ok t38 hS70 hr73) ?_
          rintro _ w75 ⟨rfl, hS76⟩
          refine ⟨.bool t72, rfl, ?_⟩
          refine sx_run 4 (todo' := [.code (cd23 [1, 1, 1, 0, 0, 0, 0, 1, 0, 1, 1, 1, 1, 1]), .inBlock 2, .inBlock 1, .code (cd23 [1, 1, 1, 0, 0, 1]), .inLoop (cd23 [1, 1, 1, 0, 0]), .inBlock 0]) (us := [(50, .bool t72), (51, .bool t72), (37, .bool t72)]) (by kernel_rfl) ?_
          cases t72
          ·skip
           have hp77 := ite_f hp74 rfl
           refine sx_run 6 (todo' := [.code (cd23 [1, 1, 1, 0, 0, 0, 0, 1, 0, 1, 1, 1, 1, 1, 1, 1]), .inBlock 2, .inBlock 1, .code (cd23 [1, 1, 1, 0, 0, 1]), .inLoop (cd23 [1, 1, 1, 0, 0]), .inBlock 0]) (us := [(23, .int .i64 t22), (2, .int .i64 t22)]) (by kernel_rfl) ?_
           refine runs_ret (fn := Tryd.f23) (v := .int .i64 t22) Tryd.func23 (by kernel_rfl) ?_
           have hr78 := (hq32 _ (Option.some.inj hp77))
           cases hr78
           exact hR _ _ ⟨rfl, hS76⟩
          ·skip
           have hp79 := ite_t hp74 rfl
           refine sx_run 9 (todo' := [.inLoop (cd23 [1, 1, 1, 0, 0]), .inBlock 0]) (us := [(14, .int .i64 t22), (15, .int .i64 (IntKind.i64.wrap (t22 + 1))), (3, .int .i64 (IntKind.i64.wrap (t22 + 1)))]) (by kernel_rfl) ?_
           refine sx_run 1 (todo' := [.code (cd23 [1, 1, 1, 0, 0]), .inLoop (cd23 [1, 1, 1, 0, 0]), .inBlock 0]) (us := []) (by kernel_rfl) ?_
           refine Runs.fill (m := [some (.string a0), none, none, some (.int .i64 (IntKind.i64.wrap (t22 + 1))), none, none, none, none, none, none, none, none, none, none, none, none, none, none, none, none, none, none, none, none, none, none, none, none, none, none, none, none, none, none, none, none, none, none, none, none, none, none, none, none, none, none, none, none, none, none, none, none]) (by kernel_rfl) ?_
           exact ih29 (IntKind.i64.wrap (t22 + 1)) _ hp79 he27 _ _ hS76
         ·skip
          have hp80 := ite_t hp68 rfl
          refine sx_run 15 (todo' := [.inLoop (cd23 [1, 1, 1, 0, 0]), .inBlock 0]) (us := [(48, undef), (49, undef), (50, .bool true), (51, .bool true), (37, .bool true), (14, .int .i64 t22), (15, .int .i64 (IntKind.i64.wrap (t22 + 1))), (3, .int .i64 (IntKind.i64.wrap (t22 + 1)))]) (by kernel_rfl) ?_
          refine sx_run 1 (todo' := [.code (cd23 [1, 1, 1, 0, 0]), .inLoop (cd23 [1, 1, 1, 0, 0]), .inBlock 0]) (us := []) (by kernel_rfl) ?_
          refine Runs.fill (m := [some (.string a0), none, none, some (.int .i64 (IntKind.i64.wrap (t22 + 1))), none, none, none, none, none, none, none, none, none, none, none, none, none, none, none, none, none, none, none, none, none, none, none, none, none, none, none, none, none, none, none, none, none, none, none, none, none, none, none, none, none, none, none, none, none, none, none, none]) (by kernel_rfl) ?_
          exact ih29 (IntKind.i64.wrap (t22 + 1)) _ hp80 he27 _ _ hS70
        ·skip
         have hp81 := ite_f hp62 h64
         refine sx_split 3 (todo' := [.inRegion (opsOf (cd23 [1, 1, 1, 0, 0, 0, 0, 1, 0, 1, 1, 1, 1, 0])) [5, 6, 7, 8, 9, 10, 11, 12, 13, 14], .code (cd23 [1, 1, 1, 0, 0, 0, 0, 1, 0, 1, 1, 1, 1, 1]), .inBlock 2, .inBlock 1, .code (cd23 [1, 1, 1, 0, 0, 1]), .inLoop (cd23 [1, 1, 1, 0, 0]), .inBlock 0]) (us := [(40, .bool false), (41, .int .u8 t33)]) (d := 42) (t := (t33 == 45)) (by kernel_rfl) (fun h82 => ?_) (fun h83 => ?_)
         ·skip
          have hp84 := ite_t hp81 h82
          refine sx_run 3 (todo' := [.inRegion (opsOf (cd23 [1, 1, 1, 0, 0, 0, 0, 1, 0, 1, 1, 1, 1, 0])) [8, 9, 10, 11, 12, 13, 14], .code (cd23 [1, 1, 1, 0, 0, 0, 0, 1, 0, 1, 1, 1, 1, 1]), .inBlock 2, .inBlock 1, .code (cd23 [1, 1, 1, 0, 0, 1]), .inLoop (cd23 [1, 1, 1, 0, 0]), .inBlock 0]) (us := [(43, .bool true), (44, .bool true), (45, .int .u8 t38)]) (by kernel_rfl) ?_
          obtain ⟨t85, hr86, hp87⟩ := bind_some' hp84
          refine r_call1 (c := (cd23 [1, 1, 1, 0, 0, 0, 0, 1, 0, 1, 1, 1, 1, 0])) (i := 8) (d := (some 46)) (g := 34) (args := #[.int .u8 t38]) (by kernel_rfl) (by kernel_rfl) (by kernel_rfl) (by kernel_rfl) (lexis_letter.ok t38 hS58 hr86) ?_
          rintro _ w88 ⟨rfl, hS89⟩
          refine ⟨.bool t85, rfl, ?_⟩
          refine sx_run 1 (todo' := [.inRegion (opsOf (cd23 [1, 1, 1, 0, 0, 0, 0, 1, 0, 1, 1, 1, 1, 0])) [10, 11, 12, 13, 14], .code (cd23 [1, 1, 1, 0, 0, 0, 0, 1, 0, 1, 1, 1, 1, 1]), .inBlock 2, .inBlock 1, .code (cd23 [1, 1, 1, 0, 0, 1]), .inLoop (cd23 [1, 1, 1, 0, 0]), .inBlock 0]) (us := [(47, .bool t85)]) (by kernel_rfl) ?_
          cases t85
          ·skip
           have hp90 := ite_f hp87 rfl
           refine sx_run 1 (todo' := [.inRegion (opsOf (cd23 [1, 1, 1, 0, 0, 0, 0, 1, 0, 1, 1, 1, 1, 0])) [11, 12, 13, 14], .code (cd23 [1, 1, 1, 0, 0, 0, 0, 1, 0, 1, 1, 1, 1, 1]), .inBlock 2, .inBlock 1, .code (cd23 [1, 1, 1, 0, 0, 1]), .inLoop (cd23 [1, 1, 1, 0, 0]), .inBlock 0]) (us := [(48, .int .u8 t38)]) (by kernel_rfl) ?_
           obtain ⟨t91, hr92, hp93⟩ := bind_some' hp90
           refine r_call1 (c := (cd23 [1, 1, 1, 0, 0, 0, 0, 1, 0, 1, 1, 1, 1, 0])) (i := 11) (d := (some 49)) (g := 36) (args := #[.int .u8 t38]) (by kernel_rfl) (by kernel_rfl) (by kernel_rfl) (by kernel_rfl) (lexis_digit.ok t38 hS89 hr92) ?_
           rintro _ w94 ⟨rfl, hS95⟩
           refine ⟨.bool t91, rfl, ?_⟩
           refine sx_run 4 (todo' := [.code (cd23 [1, 1, 1, 0, 0, 0, 0, 1, 0, 1, 1, 1, 1, 1]), .inBlock 2, .inBlock 1, .code (cd23 [1, 1, 1, 0, 0, 1]), .inLoop (cd23 [1, 1, 1, 0, 0]), .inBlock 0]) (us := [(50, .bool t91), (51, .bool t91), (37, .bool t91)]) (by kernel_rfl) ?_
           cases t91
           ·skip
            have hp96 := ite_f hp93 rfl
            refine sx_run 6 (todo' := [.code (cd23 [1, 1, 1, 0, 0, 0, 0, 1, 0, 1, 1, 1, 1, 1, 1, 1]), .inBlock 2, .inBlock 1, .code (cd23 [1, 1, 1, 0, 0, 1]), .inLoop (cd23 [1, 1, 1, 0, 0]), .inBlock 0]) (us := [(23, .int .i64 t22), (2, .int .i64 t22)]) (by kernel_rfl) ?_
            refine runs_ret (fn := Tryd.f23) (v := .int .i64 t22) Tryd.func23 (by kernel_rfl) ?_
            have hr97 := (hq32 _ (Option.some.inj hp96))
            cases hr97
            exact hR _ _ ⟨rfl, hS95⟩
           ·skip
            have hp98 := ite_t hp93 rfl
            refine sx_run 9 (todo' := [.inLoop (cd23 [1, 1, 1, 0, 0]), .inBlock 0]) (us := [(14, .int .i64 t22), (15, .int .i64 (IntKind.i64.wrap (t22 + 1))), (3, .int .i64 (IntKind.i64.wrap (t22 + 1)))]) (by kernel_rfl) ?_
            refine sx_run 1 (todo' := [.code (cd23 [1, 1, 1, 0, 0]), .inLoop (cd23 [1, 1, 1, 0, 0]), .inBlock 0]) (us := []) (by kernel_rfl) ?_
            refine Runs.fill (m := [some (.string a0), none, none, some (.int .i64 (IntKind.i64.wrap (t22 + 1))), none, none, none, none, none, none, none, none, none, none, none, none, none, none, none, none, none, none, none, none, none, none, none, none, none, none, none, none, none, none, none, none, none, none, none, none, none, none, none, none, none, none, none, none, none, none, none, none]) (by kernel_rfl) ?_
            exact ih29 (IntKind.i64.wrap (t22 + 1)) _ hp98 he27 _ _ hS95
          ·skip
           have hp99 := ite_t hp87 rfl
           refine sx_run 15 (todo' := [.inLoop (cd23 [1, 1, 1, 0, 0]), .inBlock 0]) (us := [(48, undef), (49, undef), (50, .bool true), (51, .bool true), (37, .bool true), (14, .int .i64 t22), (15, .int .i64 (IntKind.i64.wrap (t22 + 1))), (3, .int .i64 (IntKind.i64.wrap (t22 + 1)))]) (by kernel_rfl) ?_
           refine sx_run 1 (todo' := [.code (cd23 [1, 1, 1, 0, 0]), .inLoop (cd23 [1, 1, 1, 0, 0]), .inBlock 0]) (us := []) (by kernel_rfl) ?_
           refine Runs.fill (m := [some (.string a0), none, none, some (.int .i64 (IntKind.i64.wrap (t22 + 1))), none, none, none, none, none, none, none, none, none, none, none, none, none, none, none, none, none, none, none, none, none, none, none, none, none, none, none, none, none, none, none, none, none, none, none, none, none, none, none, none, none, none, none, none, none, none, none, none]) (by kernel_rfl) ?_
           exact ih29 (IntKind.i64.wrap (t22 + 1)) _ hp99 he27 _ _ hS89
         ·skip
          have hp100 := ite_f hp81 h83
          refine sx_run 17 (todo' := [.code (cd23 [1, 1, 1, 0, 0, 0, 0, 1, 0, 1, 1, 1, 1, 1, 1, 1]), .inBlock 2, .inBlock 1, .code (cd23 [1, 1, 1, 0, 0, 1]), .inLoop (cd23 [1, 1, 1, 0, 0]), .inBlock 0]) (us := [(43, .bool false), (44, .bool false), (45, undef), (46, undef), (47, undef), (48, undef), (49, undef), (50, undef), (51, .bool false), (37, .bool false), (23, .int .i64 t22), (2, .int .i64 t22)]) (by kernel_rfl) ?_
          refine runs_ret (fn := Tryd.f23) (v := .int .i64 t22) Tryd.func23 (by kernel_rfl) ?_
          have hr101 := (hq32 _ (Option.some.inj hp100))
          cases hr101
          exact hR _ _ ⟨rfl, hS58⟩
       ·skip
        have hp102 := ite_t hp55 rfl
        refine sx_run 9 (todo' := [.inLoop (cd23 [1, 1, 1, 0, 0]), .inBlock 0]) (us := [(14, .int .i64 t22), (15, .int .i64 (IntKind.i64.wrap (t22 + 1))), (3, .int .i64 (IntKind.i64.wrap (t22 + 1)))]) (by kernel_rfl) ?_
        refine sx_run 1 (todo' := [.code (cd23 [1, 1, 1, 0, 0]), .inLoop (cd23 [1, 1, 1, 0, 0]), .inBlock 0]) (us := []) (by kernel_rfl) ?_
        refine Runs.fill (m := [some (.string a0), none, none, some (.int .i64 (IntKind.i64.wrap (t22 + 1))), none, none, none, none, none, none, none, none, none, none, none, none, none, none, none, none, none, none, none, none, none, none, none, none, none, none, none, none, none, none, none, none, none, none, none, none, none, none, none, none, none, none, none, none, none, none, none, none]) (by kernel_rfl) ?_
        exact ih29 (IntKind.i64.wrap (t22 + 1)) _ hp102 he27 _ _ hS58
      cases t48
      ·skip
       have hp103 := ite_f hv54 rfl
       refine sx_run 4 (todo' := [.inRegion (opsOf (cd23 [1, 1, 1, 0, 0, 0, 0, 1, 0, 1, 1, 0, 1, 1, 0])) [1, 2], .code (cd23 [1, 1, 1, 0, 0, 0, 0, 1, 0, 1, 1, 0, 1, 1, 1]), .code (cd23 [1, 1, 1, 0, 0, 0, 0, 1, 0, 1, 1, 1]), .inBlock 2, .inBlock 1, .code (cd23 [1, 1, 1, 0, 0, 1]), .inLoop (cd23 [1, 1, 1, 0, 0]), .inBlock 0]) (us := [(33, .int .u8 t33)]) (by kernel_rfl) ?_
       obtain ⟨t104, hr105, hp106⟩ := bind_some' hp103
       refine r_call1 (c := (cd23 [1, 1, 1, 0, 0, 0, 0, 1, 0, 1, 1, 0, 1, 1, 0])) (i := 1) (d := (some 34)) (g := 36) (args := #[.int .u8 t33]) (by kernel_rfl) (by kernel_rfl) (by kernel_rfl) (by kernel_rfl) (lexis_digit.ok t33 hS52 hr105) ?_
       rintro _ w107 ⟨rfl, hS108⟩
       refine ⟨.bool t104, rfl, ?_⟩
       refine sx_run 2 (todo' := [.code (cd23 [1, 1, 1, 0, 0, 0, 0, 1, 0, 1, 1, 0, 1, 1, 1]), .code (cd23 [1, 1, 1, 0, 0, 0, 0, 1, 0, 1, 1, 1]), .inBlock 2, .inBlock 1, .code (cd23 [1, 1, 1, 0, 0, 1]), .inLoop (cd23 [1, 1, 1, 0, 0]), .inBlock 0]) (us := [(30, .bool t104)]) (by kernel_rfl) ?_
       cases t104
       ·skip
        have hp109 := ite_f hp106 rfl
        refine sx_split 4 (todo' := [.inRegion (opsOf (cd23 [1, 1, 1, 0, 0, 0, 0, 1, 0, 1, 1, 0, 1, 1, 1, 1])) [2], .code (cd23 [1, 1, 1, 0, 0, 0, 0, 1, 0, 1, 1, 1]), .inBlock 2, .inBlock 1, .code (cd23 [1, 1, 1, 0, 0, 1]), .inLoop (cd23 [1, 1, 1, 0, 0]), .inBlock 0]) (us := [(35, .int .u8 t33)]) (d := 36) (t := (t33 == 46)) (by kernel_rfl) (fun h110 => ?_) (fun h111 => ?_)
        ·skip
         have hp112 := ite_t hp109 h110
         refine sx_run 2 (todo' := [.code (cd23 [1, 1, 1, 0, 0, 0, 0, 1, 0, 1, 1, 1]), .inBlock 2, .inBlock 1, .code (cd23 [1, 1, 1, 0, 0, 1]), .inLoop (cd23 [1, 1, 1, 0, 0]), .inBlock 0]) (us := [(30, .bool true)]) (by kernel_rfl) ?_
         refine Runs.fill (m := [some (.string a0), none, none, some (.int .i64 t22), some (.int .u8 t33), some (.int .u8 t38), none, none, none, none, none, none, none, none, none, none, none, none, none, none, none, none, none, none, none, none, none, none, none, none, some (.bool true), none, none, none, none, none, none, none, none, none, none, none, none, none, none, none, none, none, none, none, none, none]) (by kernel_rfl) ?_
         exact J59 true (Option.some.inj hp112) _ _ hS108
        ·skip
         have hp113 := ite_f hp109 h111
         refine sx_run 2 (todo' := [.code (cd23 [1, 1, 1, 0, 0, 0, 0, 1, 0, 1, 1, 1]), .inBlock 2, .inBlock 1, .code (cd23 [1, 1, 1, 0, 0, 1]), .inLoop (cd23 [1, 1, 1, 0, 0]), .inBlock 0]) (us := [(30, .bool false)]) (by kernel_rfl) ?_
         refine Runs.fill (m := [some (.string a0), none, none, some (.int .i64 t22), some (.int .u8 t33), some (.int .u8 t38), none, none, none, none, none, none, none, none, none, none, none, none, none, none, none, none, none, none, none, none, none, none, none, none, some (.bool false), none, none, none, none, none, none, none, none, none, none, none, none, none, none, none, none, none, none, none, none, none]) (by kernel_rfl) ?_
         exact J59 false (Option.some.inj hp113) _ _ hS108
       ·skip
        have hp114 := ite_t hp106 rfl
        refine sx_run 2 (todo' := [.code (cd23 [1, 1, 1, 0, 0, 0, 0, 1, 0, 1, 1, 1]), .inBlock 2, .inBlock 1, .code (cd23 [1, 1, 1, 0, 0, 1]), .inLoop (cd23 [1, 1, 1, 0, 0]), .inBlock 0]) (us := []) (by kernel_rfl) ?_
        refine Runs.fill (m := [some (.string a0), none, none, some (.int .i64 t22), some (.int .u8 t33), some (.int .u8 t38), none, none, none, none, none, none, none, none, none, none, none, none, none, none, none, none, none, none, none, none, none, none, none, none, some (.bool true), none, none, none, none, none, none, none, none, none, none, none, none, none, none, none, none, none, none, none, none, none]) (by kernel_rfl) ?_
        exact J59 true (Option.some.inj hp114) _ _ hS108
      ·skip
       have hp115 := ite_t hv54 rfl
       refine sx_run 2 (todo' := [.code (cd23 [1, 1, 1, 0, 0, 0, 0, 1, 0, 1, 1, 1]), .inBlock 2, .inBlock 1, .code (cd23 [1, 1, 1, 0, 0, 1]), .inLoop (cd23 [1, 1, 1, 0, 0]), .inBlock 0]) (us := []) (by kernel_rfl) ?_
       refine Runs.fill (m := [some (.string a0), none, none, some (.int .i64 t22), some (.int .u8 t33), some (.int .u8 t38), none, none, none, none, none, none, none, none, none, none, none, none, none, none, none, none, none, none, none, none, none, none, none, none, some (.bool true), none, none, none, none, none, none, none, none, none, none, none, none, none, none, none, none, none, none, none, none, none]) (by kernel_rfl) ?_
       exact J59 true (Option.some.inj hp115) _ _ hS52
    refine Runs.fill (m := [some (.string a0), none, none, some (.int .i64 1), none, none, none, none, none, none, none, none, none, none, none, none, none, none, none, none, none, none, none, none, none, none, none, none, none, none, none, none, none, none, none, none, none, none, none, none, none, none, none, none, none, none, none, none, none, none, none, none]) (by kernel_rfl) ?_
    exact L31 1 _ hv19 rfl _ _ hS12

noncomputable def cd11 (p : List Nat) : Code := sub (bodyOf Tryd.f11) p
def lexis_Name.f (a0 : ByteArray) : Option Bool :=
  (if (!seq a0 (⟨#[]⟩ : ByteArray)) = true then (if (decide ((a0.size : Int) ≤ 64)) = true then (lexis_name.f a0 >>= (fun t7 => (if (t7 == (a0.size : Int)) = true then some (true) else some (false)))) else some (false)) else some (false))
set_option maxHeartbeats 16000000 in
theorem lexis_Name.ok (a0 : ByteArray) {w0 : World} {Z : Zm} {fs : List XObj} {w : World} (hS0 : St w0 Z (fs) w) {q0 : Bool} (hp0 : lexis_Name.f a0 = some q0) :
    Calls Tryd.prog 11 #[.string a0] w (fun e w' => e = .returned (.bool q0) ∧ St w0 Z (fs) w') := by
  refine calls_abs ?_; intro R hR
  unfold lexis_Name.f at hp0
  refine calls_of_runs (fn := Tryd.f11) (c := cd11 []) Tryd.func11 (by kernel_rfl) (al := [.string a0]) rfl (n := 16) rfl ?_
  refine sx_split 8 (todo' := [.inRegion (opsOf (cd11 [1, 0])) [2, 3, 4, 5, 6, 7, 8, 9, 10, 11, 12, 13, 14], .code (cd11 [1, 1])]) (us := [(2, .bool false), (3, .string a0)]) (d := 4) (t := (!seq a0 (⟨#[]⟩ : ByteArray))) (by kernel_rfl) (fun h1 => ?_) (fun h2 => ?_)
  ·skip
   have hp3 := ite_t hp0 h1
   refine sx_split 4 (todo' := [.inRegion (opsOf (cd11 [1, 0])) [6, 7, 8, 9, 10, 11, 12, 13, 14], .code (cd11 [1, 1])]) (us := [(5, .bool true), (6, .string a0), (7, .int .i64 (a0.size : Int))]) (d := 8) (t := (decide ((a0.size : Int) ≤ 64))) (by kernel_rfl) (fun h4 => ?_) (fun h5 => ?_)
   ·skip
    have hp6 := ite_t hp3 h4
    refine sx_run 3 (todo' := [.inRegion (opsOf (cd11 [1, 0])) [9, 10, 11, 12, 13, 14], .code (cd11 [1, 1])]) (us := [(9, .bool true), (10, .bool true), (11, .string a0)]) (by kernel_rfl) ?_
    obtain ⟨t7, hr8, hp9⟩ := bind_some' hp6
    refine r_call1 (c := (cd11 [1, 0])) (i := 9) (d := (some 12)) (g := 23) (args := #[.string a0]) (by kernel_rfl) (by kernel_rfl) (by kernel_rfl) (by kernel_rfl) (lexis_name.ok a0 hS0 hr8) ?_
    rintro _ w10 ⟨rfl, hS11⟩
    refine ⟨.int .i64 t7, rfl, ?_⟩
    refine sx_split 3 (todo' := [.inRegion (opsOf (cd11 [1, 0])) [13, 14], .code (cd11 [1, 1])]) (us := [(13, .string a0), (14, .int .i64 (a0.size : Int))]) (d := 15) (t := (t7 == (a0.size : Int))) (by kernel_rfl) (fun h12 => ?_) (fun h13 => ?_)
    ·skip
     have hp14 := ite_t hp9 h12
     refine sx_run 3 (todo' := [.code (cd11 [1, 1])]) (us := [(16, .bool true), (2, .bool true)]) (by kernel_rfl) ?_
     refine runs_ret (fn := Tryd.f11) (v := .bool true) Tryd.func11 (by kernel_rfl) ?_
     have hr15 := (Option.some.inj hp14)
     cases hr15
     exact hR _ _ ⟨rfl, hS11⟩
    ·skip
     have hp16 := ite_f hp9 h13
     refine sx_run 3 (todo' := [.code (cd11 [1, 1])]) (us := [(16, .bool false), (2, .bool false)]) (by kernel_rfl) ?_
     refine runs_ret (fn := Tryd.f11) (v := .bool false) Tryd.func11 (by kernel_rfl) ?_
     have hr17 := (Option.some.inj hp16)
     cases hr17
     exact hR _ _ ⟨rfl, hS11⟩
   ·skip
    have hp18 := ite_f hp3 h5
    refine sx_run 10 (todo' := [.code (cd11 [1, 1])]) (us := [(9, .bool false), (10, .bool false), (11, undef), (12, undef), (13, undef), (14, undef), (15, undef), (16, .bool false), (2, .bool false)]) (by kernel_rfl) ?_
    refine runs_ret (fn := Tryd.f11) (v := .bool false) Tryd.func11 (by kernel_rfl) ?_
    have hr19 := (Option.some.inj hp18)
    cases hr19
    exact hR _ _ ⟨rfl, hS0⟩
  ·skip
   have hp20 := ite_f hp0 h2
   refine sx_run 14 (todo' := [.code (cd11 [1, 1])]) (us := [(5, .bool false), (6, undef), (7, undef), (8, undef), (9, .bool false), (10, .bool false), (11, undef), (12, undef), (13, undef), (14, undef), (15, undef), (16, .bool false), (2, .bool false)]) (by kernel_rfl) ?_
   refine runs_ret (fn := Tryd.f11) (v := .bool false) Tryd.func11 (by kernel_rfl) ?_
   have hr21 := (Option.some.inj hp20)
   cases hr21
   exact hR _ _ ⟨rfl, hS0⟩

noncomputable def cd4 (p : List Nat) : Code := sub (bodyOf Tryd.f4) p
def print_Ref.f (a0 : api_Ref) : Option (ByteArray × Int) :=
  (if (decide (a0.Thread < (-1))) = true then some (((⟨#[]⟩ : ByteArray), 80)) else (if (decide (a0.Thread > 9999)) = true then some (((⟨#[]⟩ : ByteArray), 80)) else (lexis_Name.f a0.Name >>= (fun t17 => (if (!t17) = true then some (((⟨#[]⟩ : ByteArray), 80)) else (if (decide (a0.Thread < 0)) = true then some ((a0.Name, 0)) else (strconv_Itoa.f a0.Thread >>= (fun t34 => (if t34.size + (⟨#[58]⟩ : ByteArray).size ≤ 9223372036854775807 then (if (t34 ++ (⟨#[58]⟩ : ByteArray)).size + a0.Name.size ≤ 9223372036854775807 then some ((((t34 ++ (⟨#[58]⟩ : ByteArray)) ++ a0.Name), 0)) else none) else none)))))))))
set_option maxHeartbeats 16000000 in
theorem print_Ref.ok (a0 : api_Ref) {w0 : World} {Z : Zm} {fs : List XObj} {w : World} (hS0 : St w0 Z (fs) w) (hE : Env Z) {q0 : ByteArray} {q1 : Int} (hp0 : print_Ref.f a0 = some (q0, q1)) :
    Calls Tryd.prog 4 #[.agg (enc_api_Ref a0).toArray] w (fun e w' => e = .returned (.tuple #[.string q0, .int .i64 q1]) ∧ St w0 Z (fs) w') := by
  refine calls_abs ?_; intro R hR
  unfold print_Ref.f at hp0
  refine calls_of_runs (fn := Tryd.f4) (c := cd4 []) Tryd.func4 (by kernel_rfl) (al := [.agg (enc_api_Ref a0).toArray]) rfl (n := 29) rfl ?_
  refine sx_run 2 (todo' := [.inRegion (opsOf (cd4 [0])) [0, 1, 2], .code (cd4 [1])]) (us := []) (by kernel_rfl) ?_
  refine r_box (c := (cd4 [0])) (i := 0) (d := (some 1)) (ty := 0) (x := (.tmp 0)) (v := .agg (enc_api_Ref a0).toArray) (t := 23) (cs := enc_api_Ref a0) hS0 (by kernel_rfl) (by kernel_rfl) (by kernel_rfl) (by kernel_rfl) ?_
  intro b1 w2 hS3
  refine sx_run 7 (todo' := [.inRegion (opsOf (cd4 [1, 0, 0])) [1, 2, 3, 4, 5, 6, 7, 8, 9, 10, 11, 12, 13], .code (cd4 [1, 0, 1]), .code (cd4 [1, 1])]) (us := [(2, .string (⟨#[]⟩ : ByteArray)), (3, .int .i64 0), (4, .pointer (some ⟨b1, 0, none⟩))]) (by kernel_rfl) ?_
  refine r_load (c := (cd4 [1, 0, 0])) (i := 1) (d := (some 5)) (ty := 3) (t := 3) (x := (.tmp 4)) (p := ⟨b1, 0, none⟩) (v := .int .i64 a0.Thread) (by kernel_rfl) (by kernel_rfl) (by kernel_rfl) (loads_at 0 (hS3.blk 0 rfl) (by kernel_rfl) (by kernel_rfl)) ?_
  refine sx_split 1 (todo' := [.inRegion (opsOf (cd4 [1, 0, 0])) [3, 4, 5, 6, 7, 8, 9, 10, 11, 12, 13], .code (cd4 [1, 0, 1]), .code (cd4 [1, 1])]) (us := []) (d := 6) (t := (decide (a0.Thread < (-1)))) (by kernel_rfl) (fun h5 => ?_) (fun h6 => ?_)
  ·skip
   have hp7 := ite_t hp0 h5
   refine sx_run 18 (todo' := [.code (cd4 [1, 0, 1, 0, 1]), .code (cd4 [1, 1])]) (us := [(7, .bool true), (8, undef), (9, undef), (10, undef), (11, .bool true), (12, .bool true), (13, undef), (14, undef), (15, undef), (16, undef), (17, .bool true), (2, .string (⟨#[]⟩ : ByteArray)), (3, .int .i64 80)]) (by kernel_rfl) ?_
   have hS8 := hS3.drop
   refine runs_ret (fn := Tryd.f4) (v := .tuple #[.string (⟨#[]⟩ : ByteArray), .int .i64 80]) Tryd.func4 (by kernel_rfl) ?_
   have hr9 := (Option.some.inj hp7)
   cases hr9
   exact hR _ _ ⟨rfl, hS8⟩
  ·skip
   have hp10 := ite_f hp0 h6
   refine sx_run 2 (todo' := [.inRegion (opsOf (cd4 [1, 0, 0])) [5, 6, 7, 8, 9, 10, 11, 12, 13], .code (cd4 [1, 0, 1]), .code (cd4 [1, 1])]) (us := [(7, .bool false), (8, .pointer (some ⟨b1, 0, none⟩))]) (by kernel_rfl) ?_
   refine r_load (c := (cd4 [1, 0, 0])) (i := 5) (d := (some 9)) (ty := 3) (t := 3) (x := (.tmp 8)) (p := ⟨b1, 0, none⟩) (v := .int .i64 a0.Thread) (by kernel_rfl) (by kernel_rfl) (by kernel_rfl) (loads_at 0 (hS3.blk 0 rfl) (by kernel_rfl) (by kernel_rfl)) ?_
   refine sx_split 1 (todo' := [.inRegion (opsOf (cd4 [1, 0, 0])) [7, 8, 9, 10, 11, 12, 13], .code (cd4 [1, 0, 1]), .code (cd4 [1, 1])]) (us := []) (d := 10) (t := (decide (a0.Thread > 9999))) (by kernel_rfl) (fun h11 => ?_) (fun h12 => ?_)
   ·skip
    have hp13 := ite_t hp10 h11
    refine sx_run 14 (todo' := [.code (cd4 [1, 0, 1, 0, 1]), .code (cd4 [1, 1])]) (us := [(11, .bool true), (12, .bool true), (13, undef), (14, undef), (15, undef), (16, undef), (17, .bool true), (2, .string (⟨#[]⟩ : ByteArray)), (3, .int .i64 80)]) (by kernel_rfl) ?_
    have hS14 := hS3.drop
    refine runs_ret (fn := Tryd.f4) (v := .tuple #[.string (⟨#[]⟩ : ByteArray), .int .i64 80]) Tryd.func4 (by kernel_rfl) ?_
    have hr15 := (Option.some.inj hp13)
    cases hr15
    exact hR _ _ ⟨rfl, hS14⟩
   ·skip
    have hp16 := ite_f hp10 h12
    refine sx_run 3 (todo' := [.inRegion (opsOf (cd4 [1, 0, 0])) [10, 11, 12, 13], .code (cd4 [1, 0, 1]), .code (cd4 [1, 1])]) (us := [(11, .bool false), (12, .bool false), (13, .pointer (some ⟨b1, 1, none⟩))]) (by kernel_rfl) ?_
    refine r_load (c := (cd4 [1, 0, 0])) (i := 10) (d := (some 14)) (ty := 9) (t := 9) (x := (.tmp 13)) (p := ⟨b1, 1, none⟩) (v := .string a0.Name) (by kernel_rfl) (by kernel_rfl) (by kernel_rfl) (loads_at 1 (hS3.blk 0 rfl) (by kernel_rfl) (by kernel_rfl)) ?_
    obtain ⟨t17, hr18, hp19⟩ := bind_some' hp16
    refine r_call1 (c := (cd4 [1, 0, 0])) (i := 11) (d := (some 15)) (g := 11) (args := #[.string a0.Name]) (by kernel_rfl) (by kernel_rfl) (by kernel_rfl) (by kernel_rfl) (lexis_Name.ok a0.Name hS3 hr18) ?_
    rintro _ w20 ⟨rfl, hS21⟩
    refine ⟨.bool t17, rfl, ?_⟩
    refine sx_split 1 (todo' := [.inRegion (opsOf (cd4 [1, 0, 0])) [13], .code (cd4 [1, 0, 1]), .code (cd4 [1, 1])]) (us := []) (d := 16) (t := (!t17)) (by kernel_rfl) (fun h22 => ?_) (fun h23 => ?_)
    ·skip
     have hp24 := ite_t hp19 h22
     refine sx_run 8 (todo' := [.code (cd4 [1, 0, 1, 0, 1]), .code (cd4 [1, 1])]) (us := [(17, .bool true), (2, .string (⟨#[]⟩ : ByteArray)), (3, .int .i64 80)]) (by kernel_rfl) ?_
     have hS25 := hS21.drop
     refine runs_ret (fn := Tryd.f4) (v := .tuple #[.string (⟨#[]⟩ : ByteArray), .int .i64 80]) Tryd.func4 (by kernel_rfl) ?_
     have hr26 := (Option.some.inj hp24)
     cases hr26
     exact hR _ _ ⟨rfl, hS25⟩
    ·skip
     have hp27 := ite_f hp19 h23
     refine sx_run 8 (todo' := [.inRegion (opsOf (cd4 [1, 1, 0, 0])) [1, 2], .code (cd4 [1, 1, 0, 1]), .code (cd4 [1, 1, 1])]) (us := [(17, .bool false), (18, .pointer (some ⟨b1, 0, none⟩))]) (by kernel_rfl) ?_
     refine r_load (c := (cd4 [1, 1, 0, 0])) (i := 1) (d := (some 19)) (ty := 3) (t := 3) (x := (.tmp 18)) (p := ⟨b1, 0, none⟩) (v := .int .i64 a0.Thread) (by kernel_rfl) (by kernel_rfl) (by kernel_rfl) (loads_at 0 (hS21.blk 0 rfl) (by kernel_rfl) (by kernel_rfl)) ?_
     refine sx_split 1 (todo' := [.inRegion (opsOf (cd4 [1, 1, 0, 0])) [], .code (cd4 [1, 1, 0, 1]), .code (cd4 [1, 1, 1])]) (us := []) (d := 20) (t := (decide (a0.Thread < 0))) (by kernel_rfl) (fun h28 => ?_) (fun h29 => ?_)
     ·skip
      have hp30 := ite_t hp27 h28
      refine sx_run 5 (todo' := [.inRegion (opsOf (cd4 [1, 1, 0, 1, 0, 0])) [1, 2, 3], .code (cd4 [1, 1, 0, 1, 0, 1]), .code (cd4 [1, 1, 1])]) (us := [(21, .pointer (some ⟨b1, 1, none⟩))]) (by kernel_rfl) ?_
      refine r_load (c := (cd4 [1, 1, 0, 1, 0, 0])) (i := 1) (d := (some 22)) (ty := 9) (t := 9) (x := (.tmp 21)) (p := ⟨b1, 1, none⟩) (v := .string a0.Name) (by kernel_rfl) (by kernel_rfl) (by kernel_rfl) (loads_at 1 (hS21.blk 0 rfl) (by kernel_rfl) (by kernel_rfl)) ?_
      refine sx_run 3 (todo' := [.code (cd4 [1, 1, 0, 1, 0, 1]), .code (cd4 [1, 1, 1])]) (us := [(2, .string a0.Name), (3, .int .i64 0)]) (by kernel_rfl) ?_
      have hS31 := hS21.drop
      refine runs_ret (fn := Tryd.f4) (v := .tuple #[.string a0.Name, .int .i64 0]) Tryd.func4 (by kernel_rfl) ?_
      have hr32 := (Option.some.inj hp30)
      cases hr32
      exact hR _ _ ⟨rfl, hS31⟩
     ·skip
      have hp33 := ite_f hp27 h29
      refine sx_run 4 (todo' := [.code (cd4 [1, 1, 1, 0]), .code (cd4 [1, 1, 1, 1])]) (us := []) (by kernel_rfl) ?_
      refine r_quiet hS21 (c := (cd4 [1, 1, 1, 0])) (id := 5) (by kernel_rfl) (by kernel_rfl) (by kernel_rfl) (is := [0, 1, 2, 3, 4, 5, 6, 7, 8]) (by kernel_rfl) ?_
      refine q_run 1 (is' := [1, 2, 3, 4, 5, 6, 7, 8]) (us := [(23, .pointer (some ⟨b1, 0, none⟩))]) (by kernel_rfl) ?_
      refine q_load (c := (cd4 [1, 1, 1, 0])) (i := 1) (d := (some 24)) (ty := 3) (t := 3) (x := (.tmp 23)) (p := ⟨b1, 0, none⟩) (v := .int .i64 a0.Thread) (by kernel_rfl) (by kernel_rfl) (by kernel_rfl) (fun w hC => (loads_at 0 (hC.blk 0 rfl) (by kernel_rfl) (by kernel_rfl))) ?_
      obtain ⟨t34, hr35, hp36⟩ := bind_some' hp33
      refine q_call1 (c := (cd4 [1, 1, 1, 0])) (i := 2) (d := (some 25)) (v := .string t34) (g := 12) (args := #[.int .i64 a0.Thread]) (by kernel_rfl) (by kernel_rfl) (by kernel_rfl) (by kernel_rfl) (fun w hC => by
       refine (strconv_Itoa.ok a0.Thread hC hE hr35).mono ?_
       rintro e w2 ⟨rfl, h2⟩
       exact ⟨rfl, h2⟩) ?_
      obtain ⟨g37, hp38⟩ := ite_some hp36
      refine q_val (c := (cd4 [1, 1, 1, 0])) (i := 3) (d := (some 26)) (ty := 9) (op := .binOp .add 9 (.tmp 25) (.const (.string (⟨#[58]⟩ : ByteArray))) 9) (v := .string (t34 ++ (⟨#[58]⟩ : ByteArray))) (by kernel_rfl) (by kernel_rfl) (fun w hC o ho _ => x_concat (by kernel_rfl) (by kernel_rfl) g37 ho) ?_
      refine q_run 1 (is' := [5, 6, 7, 8]) (us := [(27, .pointer (some ⟨b1, 1, none⟩))]) (by kernel_rfl) ?_
      refine q_load (c := (cd4 [1, 1, 1, 0])) (i := 5) (d := (some 28)) (ty := 9) (t := 9) (x := (.tmp 27)) (p := ⟨b1, 1, none⟩) (v := .string a0.Name) (by kernel_rfl) (by kernel_rfl) (by kernel_rfl) (fun w hC => (loads_at 1 (hC.blk 0 rfl) (by kernel_rfl) (by kernel_rfl))) ?_
      obtain ⟨g39, hp40⟩ := ite_some hp38
      refine q_val (c := (cd4 [1, 1, 1, 0])) (i := 6) (d := (some 29)) (ty := 9) (op := .binOp .add 9 (.tmp 26) (.tmp 28) 9) (v := .string ((t34 ++ (⟨#[58]⟩ : ByteArray)) ++ a0.Name)) (by kernel_rfl) (by kernel_rfl) (fun w hC o ho _ => x_concat (by kernel_rfl) (by kernel_rfl) g39 ho) ?_
      refine q_run 2 (is' := []) (us := [(2, .string ((t34 ++ (⟨#[58]⟩ : ByteArray)) ++ a0.Name)), (3, .int .i64 0)]) (by kernel_rfl) ?_
      refine Qs.nil ?_
      intro w41 hS42
      have hS43 := hS42.drop
      refine runs_ret (fn := Tryd.f4) (v := .tuple #[.string ((t34 ++ (⟨#[58]⟩ : ByteArray)) ++ a0.Name), .int .i64 0]) Tryd.func4 (by kernel_rfl) ?_
      have hr44 := (Option.some.inj hp40)
      cases hr44
      exact hR _ _ ⟨rfl, hS43⟩

noncomputable def cd47 (p : List Nat) : Code := sub (bodyOf Tryd.f47) p
def weirref05_letter.f (a0 : Int) : Option Bool :=
  (if (decide (a0 ≥ 97)) = true then (if (decide (a0 ≤ 122)) = true then some (true) else (if (decide (a0 ≥ 65)) = true then (if (decide (a0 ≤ 90)) = true then some (true) else (if (a0 == 95) = true then some (true) else some (false))) else (if (a0 == 95) = true then some (true) else some (false)))) else (if (decide (a0 ≥ 65)) = true then (if (decide (a0 ≤ 90)) = true then some (true) else (if (a0 == 95) = true then some (true) else some (false))) else (if (a0 == 95) = true then some (true) else some (false))))
set_option maxHeartbeats 16000000 in
theorem weirref05_letter.ok (a0 : Int) {w0 : World} {Z : Zm} {fs : List XObj} {w : World} (hS0 : St w0 Z (fs) w) {q0 : Bool} (hp0 : weirref05_letter.f a0 = some q0) :
    Calls Tryd.prog 47 #[.int .u8 a0] w (fun e w' => e = .returned (.bool q0) ∧ St w0 Z (fs) w') := by
  refine calls_abs ?_; intro R hR
  unfold weirref05_letter.f at hp0
  refine calls_of_runs (fn := Tryd.f47) (c := cd47 []) Tryd.func47 (by kernel_rfl) (al := [.int .u8 a0]) rfl (n := 20) rfl ?_
  refine sx_split 8 (todo' := [.inRegion (opsOf (cd47 [1, 0])) [2, 3, 4, 5, 6, 7, 8, 9, 10, 11, 12, 13, 14, 15, 16, 17, 18], .code (cd47 [1, 1])]) (us := [(2, .bool false), (3, .int .u8 a0)]) (d := 4) (t := (decide (a0 ≥ 97))) (by kernel_rfl) (fun h1 => ?_) (fun h2 => ?_)
  ·skip
   have hp3 := ite_t hp0 h1
   refine sx_split 3 (todo' := [.inRegion (opsOf (cd47 [1, 0])) [5, 6, 7, 8, 9, 10, 11, 12, 13, 14, 15, 16, 17, 18], .code (cd47 [1, 1])]) (us := [(5, .bool true), (6, .int .u8 a0)]) (d := 7) (t := (decide (a0 ≤ 122))) (by kernel_rfl) (fun h4 => ?_) (fun h5 => ?_)
   ·skip
    have hp6 := ite_t hp3 h4
    refine sx_run 15 (todo' := [.code (cd47 [1, 1])]) (us := [(8, .bool true), (9, .bool true), (10, undef), (11, undef), (12, undef), (13, undef), (14, undef), (15, undef), (16, .bool true), (17, .bool true), (18, undef), (19, undef), (20, .bool true), (2, .bool true)]) (by kernel_rfl) ?_
    refine runs_ret (fn := Tryd.f47) (v := .bool true) Tryd.func47 (by kernel_rfl) ?_
    have hr7 := (Option.some.inj hp6)
    cases hr7
    exact hR _ _ ⟨rfl, hS0⟩
   ·skip
    have hp8 := ite_f hp3 h5
    refine sx_split 4 (todo' := [.inRegion (opsOf (cd47 [1, 0])) [9, 10, 11, 12, 13, 14, 15, 16, 17, 18], .code (cd47 [1, 1])]) (us := [(8, .bool false), (9, .bool false), (10, .int .u8 a0)]) (d := 11) (t := (decide (a0 ≥ 65))) (by kernel_rfl) (fun h9 => ?_) (fun h10 => ?_)
    ·skip
     have hp11 := ite_t hp8 h9
     refine sx_split 3 (todo' := [.inRegion (opsOf (cd47 [1, 0])) [12, 13, 14, 15, 16, 17, 18], .code (cd47 [1, 1])]) (us := [(12, .bool true), (13, .int .u8 a0)]) (d := 14) (t := (decide (a0 ≤ 90))) (by kernel_rfl) (fun h12 => ?_) (fun h13 => ?_)
     ·skip
      have hp14 := ite_t hp11 h12
      refine sx_run 8 (todo' := [.code (cd47 [1, 1])]) (us := [(15, .bool true), (16, .bool true), (17, .bool true), (18, undef), (19, undef), (20, .bool true), (2, .bool true)]) (by kernel_rfl) ?_
      refine runs_ret (fn := Tryd.f47) (v := .bool true) Tryd.func47 (by kernel_rfl) ?_
      have hr15 := (Option.some.inj hp14)
      cases hr15
      exact hR _ _ ⟨rfl, hS0⟩
     ·skip
      have hp16 := ite_f hp11 h13
      refine sx_split 5 (todo' := [.inRegion (opsOf (cd47 [1, 0])) [17, 18], .code (cd47 [1, 1])]) (us := [(15, .bool false), (16, .bool false), (17, .bool false), (18, .int .u8 a0)]) (d := 19) (t := (a0 == 95)) (by kernel_rfl) (fun h17 => ?_) (fun h18 => ?_)
      ·skip
       have hp19 := ite_t hp16 h17
       refine sx_run 3 (todo' := [.code (cd47 [1, 1])]) (us := [(20, .bool true), (2, .bool true)]) (by kernel_rfl) ?_
       refine runs_ret (fn := Tryd.f47) (v := .bool true) Tryd.func47 (by kernel_rfl) ?_
       have hr20 := (Option.some.inj hp19)
       cases hr20
       exact hR _ _ ⟨rfl, hS0⟩
      ·skip
       have hp21 := ite_f hp16 h18
       refine sx_run 3 (todo' := [.code (cd47 [1, 1])]) (us := [(20, .bool false), (2, .bool false)]) (by kernel_rfl) ?_
       refine runs_ret (fn := Tryd.f47) (v := .bool false) Tryd.func47 (by kernel_rfl) ?_
       have hr22 := (Option.some.inj hp21)
       cases hr22
       exact hR _ _ ⟨rfl, hS0⟩
    ·skip
     have hp23 := ite_f hp8 h10
     refine sx_split 8 (todo' := [.inRegion (opsOf (cd47 [1, 0])) [17, 18], .code (cd47 [1, 1])]) (us := [(12, .bool false), (13, undef), (14, undef), (15, .bool false), (16, .bool false), (17, .bool false), (18, .int .u8 a0)]) (d := 19) (t := (a0 == 95)) (by kernel_rfl) (fun h24 => ?_) (fun h25 => ?_)
     ·skip
      have hp26 := ite_t hp23 h24
      refine sx_run 3 (todo' := [.code (cd47 [1, 1])]) (us := [(20, .bool true), (2, .bool true)]) (by kernel_rfl) ?_
      refine runs_ret (fn := Tryd.f47) (v := .bool true) Tryd.func47 (by kernel_rfl) ?_
      have hr27 := (Option.some.inj hp26)
      cases hr27
      exact hR _ _ ⟨rfl, hS0⟩
     ·skip
      have hp28 := ite_f hp23 h25
      refine sx_run 3 (todo' := [.code (cd47 [1, 1])]) (us := [(20, .bool false), (2, .bool false)]) (by kernel_rfl) ?_
      refine runs_ret (fn := Tryd.f47) (v := .bool false) Tryd.func47 (by kernel_rfl) ?_
      have hr29 := (Option.some.inj hp28)
      cases hr29
      exact hR _ _ ⟨rfl, hS0⟩
  ·skip
   have hp30 := ite_f hp0 h2
   refine sx_split 7 (todo' := [.inRegion (opsOf (cd47 [1, 0])) [9, 10, 11, 12, 13, 14, 15, 16, 17, 18], .code (cd47 [1, 1])]) (us := [(5, .bool false), (6, undef), (7, undef), (8, .bool false), (9, .bool false), (10, .int .u8 a0)]) (d := 11) (t := (decide (a0 ≥ 65))) (by kernel_rfl) (fun h31 => ?_) (fun h32 => ?_)
   ·skip
    have hp33 := ite_t hp30 h31
    refine sx_split 3 (todo' := [.inRegion (opsOf (cd47 [1, 0])) [12, 13, 14, 15, 16, 17, 18], .code (cd47 [1, 1])]) (us := [(12, .bool true), (13, .int .u8 a0)]) (d := 14) (t := (decide (a0 ≤ 90))) (by kernel_rfl) (fun h34 => ?_) (fun h35 => ?_)
    ·skip
     have hp36 := ite_t hp33 h34
     refine sx_run 8 (todo' := [.code (cd47 [1, 1])]) (us := [(15, .bool true), (16, .bool true), (17, .bool true), (18, undef), (19, undef), (20, .bool true), (2, .bool true)]) (by kernel_rfl) ?_
     refine runs_ret (fn := Tryd.f47) (v := .bool true) Tryd.func47 (by kernel_rfl) ?_
     have hr37 := (Option.some.inj hp36)
     cases hr37
     exact hR _ _ ⟨rfl, hS0⟩
    ·skip
     have hp38 := ite_f hp33 h35
     refine sx_split 5 (todo' := [.inRegion (opsOf (cd47 [1, 0])) [17, 18], .code (cd47 [1, 1])]) (us := [(15, .bool false), (16, .bool false), (17, .bool false), (18, .int .u8 a0)]) (d := 19) (t := (a0 == 95)) (by kernel_rfl) (fun h39 => ?_) (fun h40 => ?_)
     ·skip
      have hp41 := ite_t hp38 h39
      refine sx_run 3 (todo' := [.code (cd47 [1, 1])]) (us := [(20, .bool true), (2, .bool true)]) (by kernel_rfl) ?_
      refine runs_ret (fn := Tryd.f47) (v := .bool true) Tryd.func47 (by kernel_rfl) ?_
      have hr42 := (Option.some.inj hp41)
      cases hr42
      exact hR _ _ ⟨rfl, hS0⟩
     ·skip
      have hp43 := ite_f hp38 h40
      refine sx_run 3 (todo' := [.code (cd47 [1, 1])]) (us := [(20, .bool false), (2, .bool false)]) (by kernel_rfl) ?_
      refine runs_ret (fn := Tryd.f47) (v := .bool false) Tryd.func47 (by kernel_rfl) ?_
      have hr44 := (Option.some.inj hp43)
      cases hr44
      exact hR _ _ ⟨rfl, hS0⟩
   ·skip
    have hp45 := ite_f hp30 h32
    refine sx_split 8 (todo' := [.inRegion (opsOf (cd47 [1, 0])) [17, 18], .code (cd47 [1, 1])]) (us := [(12, .bool false), (13, undef), (14, undef), (15, .bool false), (16, .bool false), (17, .bool false), (18, .int .u8 a0)]) (d := 19) (t := (a0 == 95)) (by kernel_rfl) (fun h46 => ?_) (fun h47 => ?_)
    ·skip
     have hp48 := ite_t hp45 h46
     refine sx_run 3 (todo' := [.code (cd47 [1, 1])]) (us := [(20, .bool true), (2, .bool true)]) (by kernel_rfl) ?_
     refine runs_ret (fn := Tryd.f47) (v := .bool true) Tryd.func47 (by kernel_rfl) ?_
     have hr49 := (Option.some.inj hp48)
     cases hr49
     exact hR _ _ ⟨rfl, hS0⟩
    ·skip
     have hp50 := ite_f hp45 h47
     refine sx_run 3 (todo' := [.code (cd47 [1, 1])]) (us := [(20, .bool false), (2, .bool false)]) (by kernel_rfl) ?_
     refine runs_ret (fn := Tryd.f47) (v := .bool false) Tryd.func47 (by kernel_rfl) ?_
     have hr51 := (Option.some.inj hp50)
     cases hr51
     exact hR _ _ ⟨rfl, hS0⟩

noncomputable def cd48 (p : List Nat) : Code := sub (bodyOf Tryd.f48) p
def weirref05_digit.f (a0 : Int) : Option Bool :=
  (if (decide (a0 ≥ 48)) = true then (if (decide (a0 ≤ 57)) = true then some (true) else some (false)) else some (false))
set_option maxHeartbeats 16000000 in
theorem weirref05_digit.ok (a0 : Int) {w0 : World} {Z : Zm} {fs : List XObj} {w : World} (hS0 : St w0 Z (fs) w) {q0 : Bool} (hp0 : weirref05_digit.f a0 = some q0) :
    Calls Tryd.prog 48 #[.int .u8 a0] w (fun e w' => e = .returned (.bool q0) ∧ St w0 Z (fs) w') := by
  refine calls_abs ?_; intro R hR
  unfold weirref05_digit.f at hp0
  refine calls_of_runs (fn := Tryd.f48) (c := cd48 []) Tryd.func48 (by kernel_rfl) (al := [.int .u8 a0]) rfl (n := 8) rfl ?_
  refine sx_split 8 (todo' := [.inRegion (opsOf (cd48 [1, 0])) [2, 3, 4, 5, 6], .code (cd48 [1, 1])]) (us := [(2, .bool false), (3, .int .u8 a0)]) (d := 4) (t := (decide (a0 ≥ 48))) (by kernel_rfl) (fun h1 => ?_) (fun h2 => ?_)
  ·skip
   have hp3 := ite_t hp0 h1
   refine sx_split 3 (todo' := [.inRegion (opsOf (cd48 [1, 0])) [5, 6], .code (cd48 [1, 1])]) (us := [(5, .bool true), (6, .int .u8 a0)]) (d := 7) (t := (decide (a0 ≤ 57))) (by kernel_rfl) (fun h4 => ?_) (fun h5 => ?_)
   ·skip
    have hp6 := ite_t hp3 h4
    refine sx_run 3 (todo' := [.code (cd48 [1, 1])]) (us := [(8, .bool true), (2, .bool true)]) (by kernel_rfl) ?_
    refine runs_ret (fn := Tryd.f48) (v := .bool true) Tryd.func48 (by kernel_rfl) ?_
    have hr7 := (Option.some.inj hp6)
    cases hr7
    exact hR _ _ ⟨rfl, hS0⟩
   ·skip
    have hp8 := ite_f hp3 h5
    refine sx_run 3 (todo' := [.code (cd48 [1, 1])]) (us := [(8, .bool false), (2, .bool false)]) (by kernel_rfl) ?_
    refine runs_ret (fn := Tryd.f48) (v := .bool false) Tryd.func48 (by kernel_rfl) ?_
    have hr9 := (Option.some.inj hp8)
    cases hr9
    exact hR _ _ ⟨rfl, hS0⟩
  ·skip
   have hp10 := ite_f hp0 h2
   refine sx_run 6 (todo' := [.code (cd48 [1, 1])]) (us := [(5, .bool false), (6, undef), (7, undef), (8, .bool false), (2, .bool false)]) (by kernel_rfl) ?_
   refine runs_ret (fn := Tryd.f48) (v := .bool false) Tryd.func48 (by kernel_rfl) ?_
   have hr11 := (Option.some.inj hp10)
   cases hr11
   exact hR _ _ ⟨rfl, hS0⟩

noncomputable def cd38 (p : List Nat) : Code := sub (bodyOf Tryd.f38) p
def weirref05_name.l0 (a0 : ByteArray) (a1 : Int) (t28 : Int) : Option Int :=
  (if (decide ((IntKind.i64.wrap (a1 + t28)) < (a0.size : Int))) = true then (if 0 ≤ (IntKind.i64.wrap (a1 + t28)) ∧ (IntKind.i64.wrap (a1 + t28)) < (a0.size : Int) then (weirref05_letter.f (byt a0 (IntKind.i64.wrap (a1 + t28))) >>= (fun t43 => (((if t43 = true then some (true) else (weirref05_digit.f (byt a0 (IntKind.i64.wrap (a1 + t28))) >>= (fun t119 => (if t119 = true then some (true) else (if ((byt a0 (IntKind.i64.wrap (a1 + t28))) == 46) = true then some (true) else some (false)))))) : Option Bool) >>= (fun t51 => (((if ((byt a0 (IntKind.i64.wrap (a1 + t28))) == 43) = true then (if (decide ((IntKind.i64.wrap ((IntKind.i64.wrap (a1 + t28)) + 1)) < (a0.size : Int))) = true then (if 0 ≤ (IntKind.i64.wrap ((IntKind.i64.wrap (a1 + t28)) + 1)) ∧ (IntKind.i64.wrap ((IntKind.i64.wrap (a1 + t28)) + 1)) < (a0.size : Int) then (weirref05_letter.f (byt a0 (IntKind.i64.wrap ((IntKind.i64.wrap (a1 + t28)) + 1))) >>= (fun t78 => (if t78 = true then some (true) else (if 0 ≤ (IntKind.i64.wrap ((IntKind.i64.wrap (a1 + t28)) + 1)) ∧ (IntKind.i64.wrap ((IntKind.i64.wrap (a1 + t28)) + 1)) < (a0.size : Int) then (weirref05_digit.f (byt a0 (IntKind.i64.wrap ((IntKind.i64.wrap (a1 + t28)) + 1))) >>= (fun t86 => some (t86))) else none)))) else none) else some (t51)) else (if ((byt a0 (IntKind.i64.wrap (a1 + t28))) == 45) = true then (if (decide ((IntKind.i64.wrap ((IntKind.i64.wrap (a1 + t28)) + 1)) < (a0.size : Int))) = true then (if 0 ≤ (IntKind.i64.wrap ((IntKind.i64.wrap (a1 + t28)) + 1)) ∧ (IntKind.i64.wrap ((IntKind.i64.wrap (a1 + t28)) + 1)) < (a0.size : Int) then (weirref05_letter.f (byt a0 (IntKind.i64.wrap ((IntKind.i64.wrap (a1 + t28)) + 1))) >>= (fun t102 => (if t102 = true then some (true) else (if 0 ≤ (IntKind.i64.wrap ((IntKind.i64.wrap (a1 + t28)) + 1)) ∧ (IntKind.i64.wrap ((IntKind.i64.wrap (a1 + t28)) + 1)) < (a0.size : Int) then (weirref05_digit.f (byt a0 (IntKind.i64.wrap ((IntKind.i64.wrap (a1 + t28)) + 1))) >>= (fun t110 => some (t110))) else none)))) else none) else some (t51)) else some (t51))) : Option Bool) >>= (fun t60 => (if (!t60) = true then some (t28) else (weirref05_name.l0 a0 a1 (IntKind.i64.wrap (t28 + 1)))))))))) else none) else some (t28))
 partial_fixpoint
def weirref05_name.f (a0 : ByteArray) (a1 : Int) : Option Int :=
  (if (decide (a1 ≥ (a0.size : Int))) = true then some (0) else (if 0 ≤ a1 ∧ a1 < (a0.size : Int) then (weirref05_letter.f (byt a0 a1) >>= (fun t8 => (if (!t8) = true then some (0) else (weirref05_name.l0 a0 a1 1 >>= (fun t21 => some (t21)))))) else none))
set_option maxHeartbeats 16000000 in
theorem weirref05_name.ok (a0 : ByteArray) (a1 : Int) {w0 : World} {Z : Zm} {fs : List XObj} {w : World} (hS0 : St w0 Z (fs) w) {q0 : Int} (hp0 : weirref05_name.f a0 a1 = some q0) :
    Calls Tryd.prog 38 #[.string a0, .int .i64 a1] w (fun e w' => e = .returned (.int .i64 q0) ∧ St w0 Z (fs) w') := by
  refine calls_abs ?_; intro R hR
  unfold weirref05_name.f at hp0
  refine calls_of_runs (fn := Tryd.f38) (c := cd38 []) Tryd.func38 (by kernel_rfl) (al := [.string a0, .int .i64 a1]) rfl (n := 74) rfl ?_
  refine sx_split 11 (todo' := [.inRegion (opsOf (cd38 [1, 0, 0])) [4, 5, 6, 7, 8, 9, 10], .code (cd38 [1, 0, 1]), .code (cd38 [1, 1])]) (us := [(4, .int .i64 0), (8, .int .i64 a1), (9, .string a0), (10, .int .i64 (a0.size : Int))]) (d := 11) (t := (decide (a1 ≥ (a0.size : Int)))) (by kernel_rfl) (fun h1 => ?_) (fun h2 => ?_)
  ·skip
   have hp3 := ite_t hp0 h1
   refine sx_run 13 (todo' := [.code (cd38 [1, 0, 1, 0, 1]), .code (cd38 [1, 1])]) (us := [(12, .bool true), (13, undef), (14, undef), (15, undef), (16, undef), (17, undef), (18, .bool true), (4, .int .i64 0)]) (by kernel_rfl) ?_
   refine runs_ret (fn := Tryd.f38) (v := .int .i64 0) Tryd.func38 (by kernel_rfl) ?_
   have hr4 := (Option.some.inj hp3)
   cases hr4
   exact hR _ _ ⟨rfl, hS0⟩
  ·skip
   have hp5 := ite_f hp0 h2
   refine sx_run 3 (todo' := [.inRegion (opsOf (cd38 [1, 0, 0])) [7, 8, 9, 10], .code (cd38 [1, 0, 1]), .code (cd38 [1, 1])]) (us := [(12, .bool false), (13, .string a0), (14, .int .i64 a1)]) (by kernel_rfl) ?_
   obtain ⟨g6, hp7⟩ := ite_some hp5
   refine r_val (c := (cd38 [1, 0, 0])) (i := 7) (d := (some 15)) (ty := 5) (op := .index 9 (.tmp 13) (.tmp 14)) (v := .int .u8 (byt a0 a1)) (by kernel_rfl) (by kernel_rfl) (fun o ho _ => x_indexStr (kk := .i64) (by kernel_rfl) (by kernel_rfl) (by kernel_rfl) g6.1 g6.2 ho) ?_
   obtain ⟨t8, hr9, hp10⟩ := bind_some' hp7
   refine r_call1 (c := (cd38 [1, 0, 0])) (i := 8) (d := (some 16)) (g := 47) (args := #[.int .u8 (byt a0 a1)]) (by kernel_rfl) (by kernel_rfl) (by kernel_rfl) (by kernel_rfl) (weirref05_letter.ok (byt a0 a1) hS0 hr9) ?_
   rintro _ w11 ⟨rfl, hS12⟩
   refine ⟨.bool t8, rfl, ?_⟩
   refine sx_split 1 (todo' := [.inRegion (opsOf (cd38 [1, 0, 0])) [10], .code (cd38 [1, 0, 1]), .code (cd38 [1, 1])]) (us := []) (d := 17) (t := (!t8)) (by kernel_rfl) (fun h13 => ?_) (fun h14 => ?_)
   ·skip
    have hp15 := ite_t hp10 h13
    refine sx_run 7 (todo' := [.code (cd38 [1, 0, 1, 0, 1]), .code (cd38 [1, 1])]) (us := [(18, .bool true), (4, .int .i64 0)]) (by kernel_rfl) ?_
    refine runs_ret (fn := Tryd.f38) (v := .int .i64 0) Tryd.func38 (by kernel_rfl) ?_
    have hr16 := (Option.some.inj hp15)
    cases hr16
    exact hR _ _ ⟨rfl, hS12⟩
   ·skip
    have hp17 := ite_f hp10 h14
    refine sx_run 11 (todo' := [.code (cd38 [1, 1, 1, 0, 0, 0]), .inLoop (cd38 [1, 1, 1, 0, 0, 0]), .inBlock 0, .code (cd38 [1, 1, 1, 1])]) (us := [(18, .bool false), (5, .int .i64 1)]) (by kernel_rfl) ?_
    obtain ⟨v18, hv19, hp20⟩ := bind_some' hp17
    have J24 : ∀ (t21 : Int) (he26 : t21 = v18) (l25 : List Value) (w22 : World) (hS23 : St w0 Z (fs) w22), Runs Tryd.prog 38 [.code (cd38 [1, 1, 1, 1])] (fill [none, none, none, none, none, some (.int .i64 t21), none, none, none, none, none, none, none, none, none, none, none, none, none, none, none, none, none, none, none, none, none, none, none, none, none, none, none, none, none, none, none, none, none, none, none, none, none, none, none, none, none, none, none, none, none, none, none, none, none, none, none, none, none, none, none, none, none, none, none, none, none, none, none, none, none, none, none, none, none, none] l25) w22 R := by
     intro t21 he26 l25 w22 hS23
     subst he26
     try dsimp only at hp20
     refine sx_run 5 (todo' := [.code (cd38 [1, 1, 1, 1, 1])]) (us := [(75, .int .i64 t21), (4, .int .i64 t21)]) (by kernel_rfl) ?_
     refine runs_ret (fn := Tryd.f38) (v := .int .i64 t21) Tryd.func38 (by kernel_rfl) ?_
     have hr27 := (Option.some.inj hp20)
     cases hr27
     exact hR _ _ ⟨rfl, hS23⟩
    have L37 : ∀ (t28 : Int) (e32 : Int), weirref05_name.l0 a0 a1 t28 = some e32 → e32 = v18 → ∀ (l31 : List Value) (w29 : World) (hS30 : St w0 Z (fs) w29), Runs Tryd.prog 38 [.code (cd38 [1, 1, 1, 0, 0, 0]), .inLoop (cd38 [1, 1, 1, 0, 0, 0]), .inBlock 0, .code (cd38 [1, 1, 1, 1])] (fill [some (.string a0), some (.int .i64 a1), none, none, none, some (.int .i64 t28), none, none, none, none, none, none, none, none, none, none, none, none, none, none, none, none, none, none, none, none, none, none, none, none, none, none, none, none, none, none, none, none, none, none, none, none, none, none, none, none, none, none, none, none, none, none, none, none, none, none, none, none, none, none, none, none, none, none, none, none, none, none, none, none, none, none, none, none, none, none] l31) w29 R := by
     refine weirref05_name.l0.partial_correctness a0 a1 (fun t28 e32 => e32 = v18 → ∀ (l31 : List Value) (w29 : World) (hS30 : St w0 Z (fs) w29), Runs Tryd.prog 38 [.code (cd38 [1, 1, 1, 0, 0, 0]), .inLoop (cd38 [1, 1, 1, 0, 0, 0]), .inBlock 0, .code (cd38 [1, 1, 1, 1])] (fill [some (.string a0), some (.int .i64 a1), none, none, none, some (.int .i64 t28), none, none, none, none, none, none, none, none, none, none, none, none, none, none, none, none, none, none, none, none, none, none, none, none, none, none, none, none, none, none, none, none, none, none, none, none, none, none, none, none, none, none, none, none, none, none, none, none, none, none, none, none, none, none, none, none, none, none, none, none, none, none, none, none, none, none, none, none, none, none] l31) w29 R) ?_
     intro rec36 ih35 t28 e32 hb34 he33 l31 w29 hS30
     refine sx_split 9 (todo' := [.inRegion (opsOf (cd38 [1, 1, 1, 0, 0, 0, 0, 0])) [], .code (cd38 [1, 1, 1, 0, 0, 0, 0, 1]), .code (cd38 [1, 1, 1, 0, 0, 0, 1]), .inLoop (cd38 [1, 1, 1, 0, 0, 0]), .inBlock 0, .code (cd38 [1, 1, 1, 1])]) (us := [(19, .int .i64 a1), (20, .int .i64 t28), (21, .int .i64 (IntKind.i64.wrap (a1 + t28))), (22, .string a0), (23, .int .i64 (a0.size : Int))]) (d := 24) (t := (decide ((IntKind.i64.wrap (a1 + t28)) < (a0.size : Int)))) (by kernel_rfl) (fun h38 => ?_) (fun h39 => ?_)
     ·skip
      have hp40 := ite_t hb34 h38
      refine sx_run 10 (todo' := [.inRegion (opsOf (cd38 [1, 1, 1, 0, 0, 0, 1, 0, 0])) [4, 5], .code (cd38 [1, 1, 1, 0, 0, 0, 1, 0, 1]), .inBlock 1, .inLoop (cd38 [1, 1, 1, 0, 0, 0]), .inBlock 0, .code (cd38 [1, 1, 1, 1])]) (us := [(25, .string a0), (26, .int .i64 a1), (27, .int .i64 t28), (28, .int .i64 (IntKind.i64.wrap (a1 + t28)))]) (by kernel_rfl) ?_
      obtain ⟨g41, hp42⟩ := ite_some hp40
      refine r_val (c := (cd38 [1, 1, 1, 0, 0, 0, 1, 0, 0])) (i := 4) (d := (some 29)) (ty := 5) (op := .index 9 (.tmp 25) (.tmp 28)) (v := .int .u8 (byt a0 (IntKind.i64.wrap (a1 + t28)))) (by kernel_rfl) (by kernel_rfl) (fun o ho _ => x_indexStr (kk := .i64) (by kernel_rfl) (by kernel_rfl) (by kernel_rfl) g41.1 g41.2 ho) ?_
      refine sx_run 5 (todo' := [.inRegion (opsOf (cd38 [1, 1, 1, 0, 0, 0, 1, 0, 1, 0])) [1, 2, 3, 4, 5, 6, 7, 8, 9, 10], .code (cd38 [1, 1, 1, 0, 0, 0, 1, 0, 1, 1]), .inBlock 1, .inLoop (cd38 [1, 1, 1, 0, 0, 0]), .inBlock 0, .code (cd38 [1, 1, 1, 1])]) (us := [(6, .int .u8 (byt a0 (IntKind.i64.wrap (a1 + t28)))), (30, .int .u8 (byt a0 (IntKind.i64.wrap (a1 + t28))))]) (by kernel_rfl) ?_
      obtain ⟨t43, hr44, hp45⟩ := bind_some' hp42
      refine r_call1 (c := (cd38 [1, 1, 1, 0, 0, 0, 1, 0, 1, 0])) (i := 1) (d := (some 31)) (g := 47) (args := #[.int .u8 (byt a0 (IntKind.i64.wrap (a1 + t28)))]) (by kernel_rfl) (by kernel_rfl) (by kernel_rfl) (by kernel_rfl) (weirref05_letter.ok (byt a0 (IntKind.i64.wrap (a1 + t28))) hS30 hr44) ?_
      rintro _ w46 ⟨rfl, hS47⟩
      refine ⟨.bool t43, rfl, ?_⟩
      refine sx_run 1 (todo' := [.inRegion (opsOf (cd38 [1, 1, 1, 0, 0, 0, 1, 0, 1, 0])) [3, 4, 5, 6, 7, 8, 9, 10], .code (cd38 [1, 1, 1, 0, 0, 0, 1, 0, 1, 1]), .inBlock 1, .inLoop (cd38 [1, 1, 1, 0, 0, 0]), .inBlock 0, .code (cd38 [1, 1, 1, 1])]) (us := [(32, .bool t43)]) (by kernel_rfl) ?_
      obtain ⟨v48, hv49, hp50⟩ := bind_some' hp45
      have J54 : ∀ (t51 : Bool) (he56 : t51 = v48) (l55 : List Value) (w52 : World) (hS53 : St w0 Z (fs) w52), Runs Tryd.prog 38 [.code (cd38 [1, 1, 1, 0, 0, 0, 1, 0, 1, 1, 0, 0]), .code (cd38 [1, 1, 1, 0, 0, 0, 1, 0, 1, 1, 0, 1]), .code (cd38 [1, 1, 1, 0, 0, 0, 1, 0, 1, 1, 1]), .inBlock 1, .inLoop (cd38 [1, 1, 1, 0, 0, 0]), .inBlock 0, .code (cd38 [1, 1, 1, 1])] (fill [some (.string a0), some (.int .i64 a1), none, none, none, some (.int .i64 t28), some (.int .u8 (byt a0 (IntKind.i64.wrap (a1 + t28)))), some (.bool t51), none, none, none, none, none, none, none, none, none, none, none, none, none, none, none, none, none, none, none, none, none, none, none, none, none, none, none, none, none, none, none, none, none, none, none, none, none, none, none, none, none, none, none, none, none, none, none, none, none, none, none, none, none, none, none, none, none, none, none, none, none, none, none, none, none, none, none, none] l55) w52 R := by
       intro t51 he56 l55 w52 hS53
       subst he56
       try dsimp only at hp50
       obtain ⟨v57, hv58, hp59⟩ := bind_some' hp50
       have J63 : ∀ (t60 : Bool) (he65 : t60 = v57) (l64 : List Value) (w61 : World) (hS62 : St w0 Z (fs) w61), Runs Tryd.prog 38 [.code (cd38 [1, 1, 1, 0, 0, 0, 1, 0, 1, 1, 1]), .inBlock 1, .inLoop (cd38 [1, 1, 1, 0, 0, 0]), .inBlock 0, .code (cd38 [1, 1, 1, 1])] (fill [some (.string a0), some (.int .i64 a1), none, none, none, some (.int .i64 t28), none, some (.bool t60), none, none, none, none, none, none, none, none, none, none, none, none, none, none, none, none, none, none, none, none, none, none, none, none, none, none, none, none, none, none, none, none, none, none, none, none, none, none, none, none, none, none, none, none, none, none, none, none, none, none, none, none, none, none, none, none, none, none, none, none, none, none, none, none, none, none, none, none] l64) w61 R := by
        intro t60 he65 l64 w61 hS62
        subst he65
        try dsimp only at hp59
        refine sx_split 5 (todo' := [.inRegion (opsOf (cd38 [1, 1, 1, 0, 0, 0, 1, 0, 1, 1, 1, 0, 0])) [], .code (cd38 [1, 1, 1, 0, 0, 0, 1, 0, 1, 1, 1, 0, 1]), .code (cd38 [1, 1, 1, 0, 0, 0, 1, 0, 1, 1, 1, 1]), .inBlock 1, .inLoop (cd38 [1, 1, 1, 0, 0, 0]), .inBlock 0, .code (cd38 [1, 1, 1, 1])]) (us := [(71, .bool t60)]) (d := 72) (t := (!t60)) (by kernel_rfl) (fun h66 => ?_) (fun h67 => ?_)
        ·skip
         have hp68 := ite_t hp59 h66
         refine sx_run 3 (todo' := [.code (cd38 [1, 1, 1, 1])]) (us := []) (by kernel_rfl) ?_
         refine Runs.fill (m := [none, none, none, none, none, some (.int .i64 t28), none, none, none, none, none, none, none, none, none, none, none, none, none, none, none, none, none, none, none, none, none, none, none, none, none, none, none, none, none, none, none, none, none, none, none, none, none, none, none, none, none, none, none, none, none, none, none, none, none, none, none, none, none, none, none, none, none, none, none, none, none, none, none, none, none, none, none, none, none, none]) (by kernel_rfl) ?_
         exact J24 t28 ((Option.some.inj hp68).trans he33) _ _ hS62
        ·skip
         have hp69 := ite_f hp59 h67
         refine sx_run 9 (todo' := [.inLoop (cd38 [1, 1, 1, 0, 0, 0]), .inBlock 0, .code (cd38 [1, 1, 1, 1])]) (us := [(73, .int .i64 t28), (74, .int .i64 (IntKind.i64.wrap (t28 + 1))), (5, .int .i64 (IntKind.i64.wrap (t28 + 1)))]) (by kernel_rfl) ?_
         refine sx_run 1 (todo' := [.code (cd38 [1, 1, 1, 0, 0, 0]), .inLoop (cd38 [1, 1, 1, 0, 0, 0]), .inBlock 0, .code (cd38 [1, 1, 1, 1])]) (us := []) (by kernel_rfl) ?_
         refine Runs.fill (m := [some (.string a0), some (.int .i64 a1), none, none, none, some (.int .i64 (IntKind.i64.wrap (t28 + 1))), none, none, none, none, none, none, none, none, none, none, none, none, none, none, none, none, none, none, none, none, none, none, none, none, none, none, none, none, none, none, none, none, none, none, none, none, none, none, none, none, none, none, none, none, none, none, none, none, none, none, none, none, none, none, none, none, none, none, none, none, none, none, none, none, none, none, none, none, none, none]) (by kernel_rfl) ?_
         exact ih35 (IntKind.i64.wrap (t28 + 1)) _ hp69 he33 _ _ hS62
       refine sx_split 3 (todo' := [.inRegion (opsOf (cd38 [1, 1, 1, 0, 0, 0, 1, 0, 1, 1, 0, 0])) [2, 3, 4, 5, 6, 7, 8, 9, 10, 11, 12, 13, 14], .code (cd38 [1, 1, 1, 0, 0, 0, 1, 0, 1, 1, 0, 1]), .code (cd38 [1, 1, 1, 0, 0, 0, 1, 0, 1, 1, 1]), .inBlock 1, .inLoop (cd38 [1, 1, 1, 0, 0, 0]), .inBlock 0, .code (cd38 [1, 1, 1, 1])]) (us := [(40, .int .u8 (byt a0 (IntKind.i64.wrap (a1 + t28))))]) (d := 41) (t := ((byt a0 (IntKind.i64.wrap (a1 + t28))) == 43)) (by kernel_rfl) (fun h70 => ?_) (fun h71 => ?_)
       ·skip
        have hp72 := ite_t hv58 h70
        refine sx_split 12 (todo' := [.inRegion (opsOf (cd38 [1, 1, 1, 0, 0, 0, 1, 0, 1, 1, 0, 0])) [14], .code (cd38 [1, 1, 1, 0, 0, 0, 1, 0, 1, 1, 0, 1]), .code (cd38 [1, 1, 1, 0, 0, 0, 1, 0, 1, 1, 1]), .inBlock 1, .inLoop (cd38 [1, 1, 1, 0, 0, 0]), .inBlock 0, .code (cd38 [1, 1, 1, 1])]) (us := [(42, .bool true), (43, undef), (44, undef), (45, .bool true), (46, .bool true), (47, .int .i64 a1), (48, .int .i64 t28), (49, .int .i64 (IntKind.i64.wrap (a1 + t28))), (50, .int .i64 (IntKind.i64.wrap ((IntKind.i64.wrap (a1 + t28)) + 1))), (51, .string a0), (52, .int .i64 (a0.size : Int))]) (d := 53) (t := (decide ((IntKind.i64.wrap ((IntKind.i64.wrap (a1 + t28)) + 1)) < (a0.size : Int)))) (by kernel_rfl) (fun h73 => ?_) (fun h74 => ?_)
        ·skip
         have hp75 := ite_t hp72 h73
         refine sx_run 9 (todo' := [.inRegion (opsOf (cd38 [1, 1, 1, 0, 0, 0, 1, 0, 1, 1, 0, 1, 0])) [5, 6, 7, 8, 9, 10, 11, 12, 13, 14, 15, 16], .code (cd38 [1, 1, 1, 0, 0, 0, 1, 0, 1, 1, 1]), .inBlock 1, .inLoop (cd38 [1, 1, 1, 0, 0, 0]), .inBlock 0, .code (cd38 [1, 1, 1, 1])]) (us := [(54, .bool true), (55, .string a0), (56, .int .i64 a1), (57, .int .i64 t28), (58, .int .i64 (IntKind.i64.wrap (a1 + t28))), (59, .int .i64 (IntKind.i64.wrap ((IntKind.i64.wrap (a1 + t28)) + 1)))]) (by kernel_rfl) ?_
         obtain ⟨g76, hp77⟩ := ite_some hp75
         refine r_val (c := (cd38 [1, 1, 1, 0, 0, 0, 1, 0, 1, 1, 0, 1, 0])) (i := 5) (d := (some 60)) (ty := 5) (op := .index 9 (.tmp 55) (.tmp 59)) (v := .int .u8 (byt a0 (IntKind.i64.wrap ((IntKind.i64.wrap (a1 + t28)) + 1)))) (by kernel_rfl) (by kernel_rfl) (fun o ho _ => x_indexStr (kk := .i64) (by kernel_rfl) (by kernel_rfl) (by kernel_rfl) g76.1 g76.2 ho) ?_
         obtain ⟨t78, hr79, hp80⟩ := bind_some' hp77
         refine r_call1 (c := (cd38 [1, 1, 1, 0, 0, 0, 1, 0, 1, 1, 0, 1, 0])) (i := 6) (d := (some 61)) (g := 47) (args := #[.int .u8 (byt a0 (IntKind.i64.wrap ((IntKind.i64.wrap (a1 + t28)) + 1)))]) (by kernel_rfl) (by kernel_rfl) (by kernel_rfl) (by kernel_rfl) (weirref05_letter.ok (byt a0 (IntKind.i64.wrap ((IntKind.i64.wrap (a1 + t28)) + 1))) hS53 hr79) ?_
         rintro _ w81 ⟨rfl, hS82⟩
         refine ⟨.bool t78, rfl, ?_⟩
         refine sx_run 1 (todo' := [.inRegion (opsOf (cd38 [1, 1, 1, 0, 0, 0, 1, 0, 1, 1, 0, 1, 0])) [8, 9, 10, 11, 12, 13, 14, 15, 16], .code (cd38 [1, 1, 1, 0, 0, 0, 1, 0, 1, 1, 1]), .inBlock 1, .inLoop (cd38 [1, 1, 1, 0, 0, 0]), .inBlock 0, .code (cd38 [1, 1, 1, 1])]) (us := [(62, .bool t78)]) (by kernel_rfl) ?_
         cases t78
         ·skip
          have hp83 := ite_f hp80 rfl
          refine sx_run 5 (todo' := [.inRegion (opsOf (cd38 [1, 1, 1, 0, 0, 0, 1, 0, 1, 1, 0, 1, 0])) [13, 14, 15, 16], .code (cd38 [1, 1, 1, 0, 0, 0, 1, 0, 1, 1, 1]), .inBlock 1, .inLoop (cd38 [1, 1, 1, 0, 0, 0]), .inBlock 0, .code (cd38 [1, 1, 1, 1])]) (us := [(63, .string a0), (64, .int .i64 a1), (65, .int .i64 t28), (66, .int .i64 (IntKind.i64.wrap (a1 + t28))), (67, .int .i64 (IntKind.i64.wrap ((IntKind.i64.wrap (a1 + t28)) + 1)))]) (by kernel_rfl) ?_
          obtain ⟨g84, hp85⟩ := ite_some hp83
          refine r_val (c := (cd38 [1, 1, 1, 0, 0, 0, 1, 0, 1, 1, 0, 1, 0])) (i := 13) (d := (some 68)) (ty := 5) (op := .index 9 (.tmp 63) (.tmp 67)) (v := .int .u8 (byt a0 (IntKind.i64.wrap ((IntKind.i64.wrap (a1 + t28)) + 1)))) (by kernel_rfl) (by kernel_rfl) (fun o ho _ => x_indexStr (kk := .i64) (by kernel_rfl) (by kernel_rfl) (by kernel_rfl) g84.1 g84.2 ho) ?_
          obtain ⟨t86, hr87, hp88⟩ := bind_some' hp85
          refine r_call1 (c := (cd38 [1, 1, 1, 0, 0, 0, 1, 0, 1, 1, 0, 1, 0])) (i := 14) (d := (some 69)) (g := 48) (args := #[.int .u8 (byt a0 (IntKind.i64.wrap ((IntKind.i64.wrap (a1 + t28)) + 1)))]) (by kernel_rfl) (by kernel_rfl) (by kernel_rfl) (by kernel_rfl) (weirref05_digit.ok (byt a0 (IntKind.i64.wrap ((IntKind.i64.wrap (a1 + t28)) + 1))) hS82 hr87) ?_
          rintro _ w89 ⟨rfl, hS90⟩
          refine ⟨.bool t86, rfl, ?_⟩
          refine sx_run 3 (todo' := [.code (cd38 [1, 1, 1, 0, 0, 0, 1, 0, 1, 1, 1]), .inBlock 1, .inLoop (cd38 [1, 1, 1, 0, 0, 0]), .inBlock 0, .code (cd38 [1, 1, 1, 1])]) (us := [(70, .bool t86), (7, .bool t86)]) (by kernel_rfl) ?_
          refine Runs.fill (m := [some (.string a0), some (.int .i64 a1), none, none, none, some (.int .i64 t28), none, some (.bool t86), none, none, none, none, none, none, none, none, none, none, none, none, none, none, none, none, none, none, none, none, none, none, none, none, none, none, none, none, none, none, none, none, none, none, none, none, none, none, none, none, none, none, none, none, none, none, none, none, none, none, none, none, none, none, none, none, none, none, none, none, none, none, none, none, none, none, none, none]) (by kernel_rfl) ?_
          exact J63 t86 (Option.some.inj hp88) _ _ hS90
         ·skip
          have hp91 := ite_t hp80 rfl
          refine sx_run 10 (todo' := [.code (cd38 [1, 1, 1, 0, 0, 0, 1, 0, 1, 1, 1]), .inBlock 1, .inLoop (cd38 [1, 1, 1, 0, 0, 0]), .inBlock 0, .code (cd38 [1, 1, 1, 1])]) (us := [(63, undef), (64, undef), (65, undef), (66, undef), (67, undef), (68, undef), (69, undef), (70, .bool true), (7, .bool true)]) (by kernel_rfl) ?_
          refine Runs.fill (m := [some (.string a0), some (.int .i64 a1), none, none, none, some (.int .i64 t28), none, some (.bool true), none, none, none, none, none, none, none, none, none, none, none, none, none, none, none, none, none, none, none, none, none, none, none, none, none, none, none, none, none, none, none, none, none, none, none, none, none, none, none, none, none, none, none, none, none, none, none, none, none, none, none, none, none, none, none, none, none, none, none, none, none, none, none, none, none, none, none, none]) (by kernel_rfl) ?_
          exact J63 true (Option.some.inj hp91) _ _ hS82
        ·skip
         have hp92 := ite_f hp72 h74
         refine sx_run 4 (todo' := [.code (cd38 [1, 1, 1, 0, 0, 0, 1, 0, 1, 1, 1]), .inBlock 1, .inLoop (cd38 [1, 1, 1, 0, 0, 0]), .inBlock 0, .code (cd38 [1, 1, 1, 1])]) (us := [(54, .bool false)]) (by kernel_rfl) ?_
         refine Runs.fill (m := [some (.string a0), some (.int .i64 a1), none, none, none, some (.int .i64 t28), none, some (.bool t51), none, none, none, none, none, none, none, none, none, none, none, none, none, none, none, none, none, none, none, none, none, none, none, none, none, none, none, none, none, none, none, none, none, none, none, none, none, none, none, none, none, none, none, none, none, none, none, none, none, none, none, none, none, none, none, none, none, none, none, none, none, none, none, none, none, none, none, none]) (by kernel_rfl) ?_
         exact J63 t51 (Option.some.inj hp92) _ _ hS53
       ·skip
        have hp93 := ite_f hv58 h71
        refine sx_split 3 (todo' := [.inRegion (opsOf (cd38 [1, 1, 1, 0, 0, 0, 1, 0, 1, 1, 0, 0])) [5, 6, 7, 8, 9, 10, 11, 12, 13, 14], .code (cd38 [1, 1, 1, 0, 0, 0, 1, 0, 1, 1, 0, 1]), .code (cd38 [1, 1, 1, 0, 0, 0, 1, 0, 1, 1, 1]), .inBlock 1, .inLoop (cd38 [1, 1, 1, 0, 0, 0]), .inBlock 0, .code (cd38 [1, 1, 1, 1])]) (us := [(42, .bool false), (43, .int .u8 (byt a0 (IntKind.i64.wrap (a1 + t28))))]) (d := 44) (t := ((byt a0 (IntKind.i64.wrap (a1 + t28))) == 45)) (by kernel_rfl) (fun h94 => ?_) (fun h95 => ?_)
        ·skip
         have hp96 := ite_t hp93 h94
         refine sx_split 9 (todo' := [.inRegion (opsOf (cd38 [1, 1, 1, 0, 0, 0, 1, 0, 1, 1, 0, 0])) [14], .code (cd38 [1, 1, 1, 0, 0, 0, 1, 0, 1, 1, 0, 1]), .code (cd38 [1, 1, 1, 0, 0, 0, 1, 0, 1, 1, 1]), .inBlock 1, .inLoop (cd38 [1, 1, 1, 0, 0, 0]), .inBlock 0, .code (cd38 [1, 1, 1, 1])]) (us := [(45, .bool true), (46, .bool true), (47, .int .i64 a1), (48, .int .i64 t28), (49, .int .i64 (IntKind.i64.wrap (a1 + t28))), (50, .int .i64 (IntKind.i64.wrap ((IntKind.i64.wrap (a1 + t28)) + 1))), (51, .string a0), (52, .int .i64 (a0.size : Int))]) (d := 53) (t := (decide ((IntKind.i64.wrap ((IntKind.i64.wrap (a1 + t28)) + 1)) < (a0.size : Int)))) (by kernel_rfl) (fun h97 => ?_) (fun h98 => ?_)
         ·skip
          have hp99 := ite_t hp96 h97
          refine sx_run 9 (todo' := [.inRegion (opsOf (cd38 [1, 1, 1, 0, 0, 0, 1, 0, 1, 1, 0, 1, 0])) [5, 6, 7, 8, 9, 10, 11, 12, 13, 14, 15, 16], .code (cd38 [1, 1, 1, 0, 0, 0, 1, 0, 1, 1, 1]), .inBlock 1, .inLoop (cd38 [1, 1, 1, 0, 0, 0]), .inBlock 0, .code (cd38 [1, 1, 1, 1])]) (us := [(54, .bool true), (55, .string a0), (56, .int .i64 a1), (57, .int .i64 t28), (58, .int .i64 (IntKind.i64.wrap (a1 + t28))), (59, .int .i64 (IntKind.i64.wrap ((IntKind.i64.wrap (a1 + t28)) + 1)))]) (by kernel_rfl) ?_
          obtain ⟨g100, hp101⟩ := ite_some hp99
          refine r_val (c := (cd38 [1, 1, 1, 0, 0, 0, 1, 0, 1, 1, 0, 1, 0])) (i := 5) (d := (some 60)) (ty := 5) (op := .index 9 (.tmp 55) (.tmp 59)) (v := .int .u8 (byt a0 (IntKind.i64.wrap ((IntKind.i64.wrap (a1 + t28)) + 1)))) (by kernel_rfl) (by kernel_rfl) (fun o ho _ => x_indexStr (kk := .i64) (by kernel_rfl) (by kernel_rfl) (by kernel_rfl) g100.1 g100.2 ho) ?_
          obtain ⟨t102, hr103, hp104⟩ := bind_some' hp101
          refine r_call1 (c := (cd38 [1, 1, 1, 0, 0, 0, 1, 0, 1, 1, 0, 1, 0])) (i := 6) (d := (some 61)) (g := 47) (args := #[.int .u8 (byt a0 (IntKind.i64.wrap ((IntKind.i64.wrap (a1 + t28)) + 1)))]) (by kernel_rfl) (by kernel_rfl) (by kernel_rfl) (by kernel_rfl) (weirref05_letter.ok (byt a0 (IntKind.i64.wrap ((IntKind.i64.wrap (a1 + t28)) + 1))) hS53 hr103) ?_
          rintro _ w105 ⟨rfl, hS106⟩
          refine ⟨.bool t102, rfl, ?_⟩
          refine sx_run 1 (todo' := [.inRegion (opsOf (cd38 [1, 1, 1, 0, 0, 0, 1, 0, 1, 1, 0, 1, 0])) [8, 9, 10, 11, 12, 13, 14, 15, 16], .code (cd38 [1, 1, 1, 0, 0, 0, 1, 0, 1, 1, 1]), .inBlock 1, .inLoop (cd38 [1, 1, 1, 0, 0, 0]), .inBlock 0, .code (cd38 [1, 1, 1, 1])]) (us := [(62, .bool t102)]) (by kernel_rfl) ?_
          cases t102
          ·skip
           have hp107 := ite_f hp104 rfl
           refine sx_run 5 (todo' := [.inRegion (opsOf (cd38 [1, 1, 1, 0, 0, 0, 1, 0, 1, 1, 0, 1, 0])) [13, 14, 15, 16], .code (cd38 [1, 1, 1, 0, 0, 0, 1, 0, 1, 1, 1]), .inBlock 1, .inLoop (cd38 [1, 1, 1, 0, 0, 0]), .inBlock 0, .code (cd38 [1, 1, 1, 1])]) (us := [(63, .string a0), (64, .int .i64 a1), (65, .int .i64 t28), (66, .int .i64 (IntKind.i64.wrap (a1 + t28))), (67, .int .i64 (IntKind.i64.wrap ((IntKind.i64.wrap (a1 + t28)) + 1)))]) (by kernel_rfl) ?_
           obtain ⟨g108, hp109⟩ := ite_some hp107
           refine r_val (c := (cd38 [1, 1, 1, 0, 0, 0, 1, 0, 1, 1, 0, 1, 0])) (i := 13) (d := (some 68)) (ty := 5) (op := .index 9 (.tmp 63) (.tmp 67)) (v := .int .u8 (byt a0 (IntKind.i64.wrap ((IntKind.i64.wrap (a1 + t28)) + 1)))) (by kernel_rfl) (by kernel_rfl) (fun o ho _ => x_indexStr (kk := .i64) (by kernel_rfl) (by kernel_rfl) (by kernel_rfl) g108.1 g108.2 ho) ?_
           obtain ⟨t110, hr111, hp112⟩ := bind_some' hp109
           refine r_call1 (c := (cd38 [1, 1, 1, 0, 0, 0, 1, 0, 1, 1, 0, 1, 0])) (i := 14) (d := (some 69)) (g := 48) (args := #[.int .u8 (byt a0 (IntKind.i64.wrap ((IntKind.i64.wrap (a1 + t28)) + 1)))]) (by kernel_rfl) (by kernel_rfl) (by kernel_rfl) (by kernel_rfl) (weirref05_digit.ok (byt a0 (IntKind.i64.wrap ((IntKind.i64.wrap (a1 + t28)) + 1))) hS106 hr111) ?_
           rintro _ w113 ⟨rfl, hS114⟩
           refine ⟨.bool t110, rfl, ?_⟩
           refine sx_run 3 (todo' := [.code (cd38 [1, 1, 1, 0, 0, 0, 1, 0, 1, 1, 1]), .inBlock 1, .inLoop (cd38 [1, 1, 1, 0, 0, 0]), .inBlock 0, .code (cd38 [1, 1, 1, 1])]) (us := [(70, .bool t110), (7, .bool t110)]) (by kernel_rfl) ?_
           refine Runs.fill (m := [some (.string a0), some (.int .i64 a1), none, none, none, some (.int .i64 t28), none, some (.bool t110), none, none, none, none, none, none, none, none, none, none, none, none, none, none, none, none, none, none, none, none, none, none, none, none, none, none, none, none, none, none, none, none, none, none, none, none, none, none, none, none, none, none, none, none, none, none, none, none, none, none, none, none, none, none, none, none, none, none, none, none, none, none, none, none, none, none, none, none]) (by kernel_rfl) ?_
           exact J63 t110 (Option.some.inj hp112) _ _ hS114
          ·skip
           have hp115 := ite_t hp104 rfl
           refine sx_run 10 (todo' := [.code (cd38 [1, 1, 1, 0, 0, 0, 1, 0, 1, 1, 1]), .inBlock 1, .inLoop (cd38 [1, 1, 1, 0, 0, 0]), .inBlock 0, .code (cd38 [1, 1, 1, 1])]) (us := [(63, undef), (64, undef), (65, undef), (66, undef), (67, undef), (68, undef), (69, undef), (70, .bool true), (7, .bool true)]) (by kernel_rfl) ?_
           refine Runs.fill (m := [some (.string a0), some (.int .i64 a1), none, none, none, some (.int .i64 t28), none, some (.bool true), none, none, none, none, none, none, none, none, none, none, none, none, none, none, none, none, none, none, none, none, none, none, none, none, none, none, none, none, none, none, none, none, none, none, none, none, none, none, none, none, none, none, none, none, none, none, none, none, none, none, none, none, none, none, none, none, none, none, none, none, none, none, none, none, none, none, none, none]) (by kernel_rfl) ?_
           exact J63 true (Option.some.inj hp115) _ _ hS106
         ·skip
          have hp116 := ite_f hp96 h98
          refine sx_run 4 (todo' := [.code (cd38 [1, 1, 1, 0, 0, 0, 1, 0, 1, 1, 1]), .inBlock 1, .inLoop (cd38 [1, 1, 1, 0, 0, 0]), .inBlock 0, .code (cd38 [1, 1, 1, 1])]) (us := [(54, .bool false)]) (by kernel_rfl) ?_
          refine Runs.fill (m := [some (.string a0), some (.int .i64 a1), none, none, none, some (.int .i64 t28), none, some (.bool t51), none, none, none, none, none, none, none, none, none, none, none, none, none, none, none, none, none, none, none, none, none, none, none, none, none, none, none, none, none, none, none, none, none, none, none, none, none, none, none, none, none, none, none, none, none, none, none, none, none, none, none, none, none, none, none, none, none, none, none, none, none, none, none, none, none, none, none, none]) (by kernel_rfl) ?_
          exact J63 t51 (Option.some.inj hp116) _ _ hS53
        ·skip
         have hp117 := ite_f hp93 h95
         refine sx_run 13 (todo' := [.code (cd38 [1, 1, 1, 0, 0, 0, 1, 0, 1, 1, 1]), .inBlock 1, .inLoop (cd38 [1, 1, 1, 0, 0, 0]), .inBlock 0, .code (cd38 [1, 1, 1, 1])]) (us := [(45, .bool false), (46, .bool false), (47, undef), (48, undef), (49, undef), (50, undef), (51, undef), (52, undef), (53, undef), (54, .bool false)]) (by kernel_rfl) ?_
         refine Runs.fill (m := [some (.string a0), some (.int .i64 a1), none, none, none, some (.int .i64 t28), none, some (.bool t51), none, none, none, none, none, none, none, none, none, none, none, none, none, none, none, none, none, none, none, none, none, none, none, none, none, none, none, none, none, none, none, none, none, none, none, none, none, none, none, none, none, none, none, none, none, none, none, none, none, none, none, none, none, none, none, none, none, none, none, none, none, none, none, none, none, none, none, none]) (by kernel_rfl) ?_
         exact J63 t51 (Option.some.inj hp117) _ _ hS53
      cases t43
      ·skip
       have hp118 := ite_f hv49 rfl
       refine sx_run 1 (todo' := [.inRegion (opsOf (cd38 [1, 1, 1, 0, 0, 0, 1, 0, 1, 0])) [4, 5, 6, 7, 8, 9, 10], .code (cd38 [1, 1, 1, 0, 0, 0, 1, 0, 1, 1]), .inBlock 1, .inLoop (cd38 [1, 1, 1, 0, 0, 0]), .inBlock 0, .code (cd38 [1, 1, 1, 1])]) (us := [(33, .int .u8 (byt a0 (IntKind.i64.wrap (a1 + t28))))]) (by kernel_rfl) ?_
       obtain ⟨t119, hr120, hp121⟩ := bind_some' hp118
       refine r_call1 (c := (cd38 [1, 1, 1, 0, 0, 0, 1, 0, 1, 0])) (i := 4) (d := (some 34)) (g := 48) (args := #[.int .u8 (byt a0 (IntKind.i64.wrap (a1 + t28)))]) (by kernel_rfl) (by kernel_rfl) (by kernel_rfl) (by kernel_rfl) (weirref05_digit.ok (byt a0 (IntKind.i64.wrap (a1 + t28))) hS47 hr120) ?_
       rintro _ w122 ⟨rfl, hS123⟩
       refine ⟨.bool t119, rfl, ?_⟩
       refine sx_run 2 (todo' := [.inRegion (opsOf (cd38 [1, 1, 1, 0, 0, 0, 1, 0, 1, 0])) [7, 8, 9, 10], .code (cd38 [1, 1, 1, 0, 0, 0, 1, 0, 1, 1]), .inBlock 1, .inLoop (cd38 [1, 1, 1, 0, 0, 0]), .inBlock 0, .code (cd38 [1, 1, 1, 1])]) (us := [(35, .bool t119), (36, .bool t119)]) (by kernel_rfl) ?_
       cases t119
       ·skip
        have hp124 := ite_f hp121 rfl
        refine sx_split 2 (todo' := [.inRegion (opsOf (cd38 [1, 1, 1, 0, 0, 0, 1, 0, 1, 0])) [9, 10], .code (cd38 [1, 1, 1, 0, 0, 0, 1, 0, 1, 1]), .inBlock 1, .inLoop (cd38 [1, 1, 1, 0, 0, 0]), .inBlock 0, .code (cd38 [1, 1, 1, 1])]) (us := [(37, .int .u8 (byt a0 (IntKind.i64.wrap (a1 + t28))))]) (d := 38) (t := ((byt a0 (IntKind.i64.wrap (a1 + t28))) == 46)) (by kernel_rfl) (fun h125 => ?_) (fun h126 => ?_)
        ·skip
         have hp127 := ite_t hp124 h125
         refine sx_run 5 (todo' := [.code (cd38 [1, 1, 1, 0, 0, 0, 1, 0, 1, 1, 0, 0]), .code (cd38 [1, 1, 1, 0, 0, 0, 1, 0, 1, 1, 0, 1]), .code (cd38 [1, 1, 1, 0, 0, 0, 1, 0, 1, 1, 1]), .inBlock 1, .inLoop (cd38 [1, 1, 1, 0, 0, 0]), .inBlock 0, .code (cd38 [1, 1, 1, 1])]) (us := [(39, .bool true), (7, .bool true)]) (by kernel_rfl) ?_
         refine Runs.fill (m := [some (.string a0), some (.int .i64 a1), none, none, none, some (.int .i64 t28), some (.int .u8 (byt a0 (IntKind.i64.wrap (a1 + t28)))), some (.bool true), none, none, none, none, none, none, none, none, none, none, none, none, none, none, none, none, none, none, none, none, none, none, none, none, none, none, none, none, none, none, none, none, none, none, none, none, none, none, none, none, none, none, none, none, none, none, none, none, none, none, none, none, none, none, none, none, none, none, none, none, none, none, none, none, none, none, none, none]) (by kernel_rfl) ?_
         exact J54 true (Option.some.inj hp127) _ _ hS123
        ·skip
         have hp128 := ite_f hp124 h126
         refine sx_run 5 (todo' := [.code (cd38 [1, 1, 1, 0, 0, 0, 1, 0, 1, 1, 0, 0]), .code (cd38 [1, 1, 1, 0, 0, 0, 1, 0, 1, 1, 0, 1]), .code (cd38 [1, 1, 1, 0, 0, 0, 1, 0, 1, 1, 1]), .inBlock 1, .inLoop (cd38 [1, 1, 1, 0, 0, 0]), .inBlock 0, .code (cd38 [1, 1, 1, 1])]) (us := [(39, .bool false), (7, .bool false)]) (by kernel_rfl) ?_
         refine Runs.fill (m := [some (.string a0), some (.int .i64 a1), none, none, none, some (.int .i64 t28), some (.int .u8 (byt a0 (IntKind.i64.wrap (a1 + t28)))), some (.bool false), none, none, none, none, none, none, none, none, none, none, none, none, none, none, none, none, none, none, none, none, none, none, none, none, none, none, none, none, none, none, none, none, none, none, none, none, none, none, none, none, none, none, none, none, none, none, none, none, none, none, none, none, none, none, none, none, none, none, none, none, none, none, none, none, none, none, none, none]) (by kernel_rfl) ?_
         exact J54 false (Option.some.inj hp128) _ _ hS123
       ·skip
        have hp129 := ite_t hp121 rfl
        refine sx_run 7 (todo' := [.code (cd38 [1, 1, 1, 0, 0, 0, 1, 0, 1, 1, 0, 0]), .code (cd38 [1, 1, 1, 0, 0, 0, 1, 0, 1, 1, 0, 1]), .code (cd38 [1, 1, 1, 0, 0, 0, 1, 0, 1, 1, 1]), .inBlock 1, .inLoop (cd38 [1, 1, 1, 0, 0, 0]), .inBlock 0, .code (cd38 [1, 1, 1, 1])]) (us := [(37, undef), (38, undef), (39, .bool true), (7, .bool true)]) (by kernel_rfl) ?_
        refine Runs.fill (m := [some (.string a0), some (.int .i64 a1), none, none, none, some (.int .i64 t28), some (.int .u8 (byt a0 (IntKind.i64.wrap (a1 + t28)))), some (.bool true), none, none, none, none, none, none, none, none, none, none, none, none, none, none, none, none, none, none, none, none, none, none, none, none, none, none, none, none, none, none, none, none, none, none, none, none, none, none, none, none, none, none, none, none, none, none, none, none, none, none, none, none, none, none, none, none, none, none, none, none, none, none, none, none, none, none, none, none]) (by kernel_rfl) ?_
        exact J54 true (Option.some.inj hp129) _ _ hS123
      ·skip
       have hp130 := ite_t hv49 rfl
       refine sx_run 11 (todo' := [.code (cd38 [1, 1, 1, 0, 0, 0, 1, 0, 1, 1, 0, 0]), .code (cd38 [1, 1, 1, 0, 0, 0, 1, 0, 1, 1, 0, 1]), .code (cd38 [1, 1, 1, 0, 0, 0, 1, 0, 1, 1, 1]), .inBlock 1, .inLoop (cd38 [1, 1, 1, 0, 0, 0]), .inBlock 0, .code (cd38 [1, 1, 1, 1])]) (us := [(33, undef), (34, undef), (35, .bool true), (36, .bool true), (37, undef), (38, undef), (39, .bool true), (7, .bool true)]) (by kernel_rfl) ?_
       refine Runs.fill (m := [some (.string a0), some (.int .i64 a1), none, none, none, some (.int .i64 t28), some (.int .u8 (byt a0 (IntKind.i64.wrap (a1 + t28)))), some (.bool true), none, none, none, none, none, none, none, none, none, none, none, none, none, none, none, none, none, none, none, none, none, none, none, none, none, none, none, none, none, none, none, none, none, none, none, none, none, none, none, none, none, none, none, none, none, none, none, none, none, none, none, none, none, none, none, none, none, none, none, none, none, none, none, none, none, none, none, none]) (by kernel_rfl) ?_
       exact J54 true (Option.some.inj hp130) _ _ hS47
     ·skip
      have hp131 := ite_f hb34 h39
      refine sx_run 3 (todo' := [.code (cd38 [1, 1, 1, 1])]) (us := []) (by kernel_rfl) ?_
      refine Runs.fill (m := [none, none, none, none, none, some (.int .i64 t28), none, none, none, none, none, none, none, none, none, none, none, none, none, none, none, none, none, none, none, none, none, none, none, none, none, none, none, none, none, none, none, none, none, none, none, none, none, none, none, none, none, none, none, none, none, none, none, none, none, none, none, none, none, none, none, none, none, none, none, none, none, none, none, none, none, none, none, none, none, none]) (by kernel_rfl) ?_
      exact J24 t28 ((Option.some.inj hp131).trans he33) _ _ hS30
    refine Runs.fill (m := [some (.string a0), some (.int .i64 a1), none, none, none, some (.int .i64 1), none, none, none, none, none, none, none, none, none, none, none, none, none, none, none, none, none, none, none, none, none, none, none, none, none, none, none, none, none, none, none, none, none, none, none, none, none, none, none, none, none, none, none, none, none, none, none, none, none, none, none, none, none, none, none, none, none, none, none, none, none, none, none, none, none, none, none, none, none, none]) (by kernel_rfl) ?_
    exact L37 1 _ hv19 rfl _ _ hS12

noncomputable def cd25 (p : List Nat) : Code := sub (bodyOf Tryd.f25) p
def weirref05_Name.f (a0 : ByteArray) : Option Bool :=
  (if (decide ((a0.size : Int) > 0)) = true then (if (decide ((a0.size : Int) ≤ 64)) = true then (weirref05_name.f a0 0 >>= (fun t7 => (if (t7 == (a0.size : Int)) = true then some (true) else some (false)))) else some (false)) else some (false))
set_option maxHeartbeats 16000000 in
theorem weirref05_Name.ok (a0 : ByteArray) {w0 : World} {Z : Zm} {fs : List XObj} {w : World} (hS0 : St w0 Z (fs) w) {q0 : Bool} (hp0 : weirref05_Name.f a0 = some q0) :
    Calls Tryd.prog 25 #[.string a0] w (fun e w' => e = .returned (.bool q0) ∧ St w0 Z (fs) w') := by
  refine calls_abs ?_; intro R hR
  unfold weirref05_Name.f at hp0
  refine calls_of_runs (fn := Tryd.f25) (c := cd25 []) Tryd.func25 (by kernel_rfl) (al := [.string a0]) rfl (n := 17) rfl ?_
  refine sx_split 9 (todo' := [.inRegion (opsOf (cd25 [1, 0])) [3, 4, 5, 6, 7, 8, 9, 10, 11, 12, 13, 14, 15], .code (cd25 [1, 1])]) (us := [(2, .bool false), (3, .string a0), (4, .int .i64 (a0.size : Int))]) (d := 5) (t := (decide ((a0.size : Int) > 0))) (by kernel_rfl) (fun h1 => ?_) (fun h2 => ?_)
  ·skip
   have hp3 := ite_t hp0 h1
   refine sx_split 4 (todo' := [.inRegion (opsOf (cd25 [1, 0])) [7, 8, 9, 10, 11, 12, 13, 14, 15], .code (cd25 [1, 1])]) (us := [(6, .bool true), (7, .string a0), (8, .int .i64 (a0.size : Int))]) (d := 9) (t := (decide ((a0.size : Int) ≤ 64))) (by kernel_rfl) (fun h4 => ?_) (fun h5 => ?_)
   ·skip
    have hp6 := ite_t hp3 h4
    refine sx_run 3 (todo' := [.inRegion (opsOf (cd25 [1, 0])) [10, 11, 12, 13, 14, 15], .code (cd25 [1, 1])]) (us := [(10, .bool true), (11, .bool true), (12, .string a0)]) (by kernel_rfl) ?_
    obtain ⟨t7, hr8, hp9⟩ := bind_some' hp6
    refine r_call1 (c := (cd25 [1, 0])) (i := 10) (d := (some 13)) (g := 38) (args := #[.string a0, .int .i64 0]) (by kernel_rfl) (by kernel_rfl) (by kernel_rfl) (by kernel_rfl) (weirref05_name.ok a0 0 hS0 hr8) ?_
    rintro _ w10 ⟨rfl, hS11⟩
    refine ⟨.int .i64 t7, rfl, ?_⟩
    refine sx_split 3 (todo' := [.inRegion (opsOf (cd25 [1, 0])) [14, 15], .code (cd25 [1, 1])]) (us := [(14, .string a0), (15, .int .i64 (a0.size : Int))]) (d := 16) (t := (t7 == (a0.size : Int))) (by kernel_rfl) (fun h12 => ?_) (fun h13 => ?_)
    ·skip
     have hp14 := ite_t hp9 h12
     refine sx_run 3 (todo' := [.code (cd25 [1, 1])]) (us := [(17, .bool true), (2, .bool true)]) (by kernel_rfl) ?_
     refine runs_ret (fn := Tryd.f25) (v := .bool true) Tryd.func25 (by kernel_rfl) ?_
     have hr15 := (Option.some.inj hp14)
     cases hr15
     exact hR _ _ ⟨rfl, hS11⟩
    ·skip
     have hp16 := ite_f hp9 h13
     refine sx_run 3 (todo' := [.code (cd25 [1, 1])]) (us := [(17, .bool false), (2, .bool false)]) (by kernel_rfl) ?_
     refine runs_ret (fn := Tryd.f25) (v := .bool false) Tryd.func25 (by kernel_rfl) ?_
     have hr17 := (Option.some.inj hp16)
     cases hr17
     exact hR _ _ ⟨rfl, hS11⟩
   ·skip
    have hp18 := ite_f hp3 h5
    refine sx_run 10 (todo' := [.code (cd25 [1, 1])]) (us := [(10, .bool false), (11, .bool false), (12, undef), (13, undef), (14, undef), (15, undef), (16, undef), (17, .bool false), (2, .bool false)]) (by kernel_rfl) ?_
    refine runs_ret (fn := Tryd.f25) (v := .bool false) Tryd.func25 (by kernel_rfl) ?_
    have hr19 := (Option.some.inj hp18)
    cases hr19
    exact hR _ _ ⟨rfl, hS0⟩
  ·skip
   have hp20 := ite_f hp0 h2
   refine sx_run 14 (todo' := [.code (cd25 [1, 1])]) (us := [(6, .bool false), (7, undef), (8, undef), (9, undef), (10, .bool false), (11, .bool false), (12, undef), (13, undef), (14, undef), (15, undef), (16, undef), (17, .bool false), (2, .bool false)]) (by kernel_rfl) ?_
   refine runs_ret (fn := Tryd.f25) (v := .bool false) Tryd.func25 (by kernel_rfl) ?_
   have hr21 := (Option.some.inj hp20)
   cases hr21
   exact hR _ _ ⟨rfl, hS0⟩

noncomputable def cd13 (p : List Nat) : Code := sub (bodyOf Tryd.f13) p
def weirref08_ref.f (a0 : api_Ref) : Option Bool :=
  (if (decide (a0.Thread ≥ (-1))) = true then (if (decide (a0.Thread ≤ 9999)) = true then (weirref05_Name.f a0.Name >>= (fun t11 => some (t11))) else some (false)) else some (false))
set_option maxHeartbeats 16000000 in
theorem weirref08_ref.ok (a0 : api_Ref) {w0 : World} {Z : Zm} {fs : List XObj} {w : World} (hS0 : St w0 Z (fs) w) {q0 : Bool} (hp0 : weirref08_ref.f a0 = some q0) :
    Calls Tryd.prog 13 #[.agg (enc_api_Ref a0).toArray] w (fun e w' => e = .returned (.bool q0) ∧ St w0 Z (fs) w') := by
  refine calls_abs ?_; intro R hR
  unfold weirref08_ref.f at hp0
  refine calls_of_runs (fn := Tryd.f13) (c := cd13 []) Tryd.func13 (by kernel_rfl) (al := [.agg (enc_api_Ref a0).toArray]) rfl (n := 15) rfl ?_
  refine sx_run 2 (todo' := [.inRegion (opsOf (cd13 [0])) [0, 1], .code (cd13 [1])]) (us := []) (by kernel_rfl) ?_
  refine r_box (c := (cd13 [0])) (i := 0) (d := (some 1)) (ty := 0) (x := (.tmp 0)) (v := .agg (enc_api_Ref a0).toArray) (t := 23) (cs := enc_api_Ref a0) hS0 (by kernel_rfl) (by kernel_rfl) (by kernel_rfl) (by kernel_rfl) ?_
  intro b1 w2 hS3
  refine sx_run 5 (todo' := [.inRegion (opsOf (cd13 [1, 0])) [1, 2, 3, 4, 5, 6, 7, 8, 9, 10, 11, 12, 13], .code (cd13 [1, 1])]) (us := [(2, .bool false), (3, .pointer (some ⟨b1, 0, none⟩))]) (by kernel_rfl) ?_
  refine r_load (c := (cd13 [1, 0])) (i := 1) (d := (some 4)) (ty := 3) (t := 3) (x := (.tmp 3)) (p := ⟨b1, 0, none⟩) (v := .int .i64 a0.Thread) (by kernel_rfl) (by kernel_rfl) (by kernel_rfl) (loads_at 0 (hS3.blk 0 rfl) (by kernel_rfl) (by kernel_rfl)) ?_
  refine sx_split 1 (todo' := [.inRegion (opsOf (cd13 [1, 0])) [3, 4, 5, 6, 7, 8, 9, 10, 11, 12, 13], .code (cd13 [1, 1])]) (us := []) (d := 5) (t := (decide (a0.Thread ≥ (-1)))) (by kernel_rfl) (fun h5 => ?_) (fun h6 => ?_)
  ·skip
   have hp7 := ite_t hp0 h5
   refine sx_run 2 (todo' := [.inRegion (opsOf (cd13 [1, 0])) [5, 6, 7, 8, 9, 10, 11, 12, 13], .code (cd13 [1, 1])]) (us := [(6, .bool true), (7, .pointer (some ⟨b1, 0, none⟩))]) (by kernel_rfl) ?_
   refine r_load (c := (cd13 [1, 0])) (i := 5) (d := (some 8)) (ty := 3) (t := 3) (x := (.tmp 7)) (p := ⟨b1, 0, none⟩) (v := .int .i64 a0.Thread) (by kernel_rfl) (by kernel_rfl) (by kernel_rfl) (loads_at 0 (hS3.blk 0 rfl) (by kernel_rfl) (by kernel_rfl)) ?_
   refine sx_split 1 (todo' := [.inRegion (opsOf (cd13 [1, 0])) [7, 8, 9, 10, 11, 12, 13], .code (cd13 [1, 1])]) (us := []) (d := 9) (t := (decide (a0.Thread ≤ 9999))) (by kernel_rfl) (fun h8 => ?_) (fun h9 => ?_)
   ·skip
    have hp10 := ite_t hp7 h8
    refine sx_run 3 (todo' := [.inRegion (opsOf (cd13 [1, 0])) [10, 11, 12, 13], .code (cd13 [1, 1])]) (us := [(10, .bool true), (11, .bool true), (12, .pointer (some ⟨b1, 1, none⟩))]) (by kernel_rfl) ?_
    refine r_load (c := (cd13 [1, 0])) (i := 10) (d := (some 13)) (ty := 9) (t := 9) (x := (.tmp 12)) (p := ⟨b1, 1, none⟩) (v := .string a0.Name) (by kernel_rfl) (by kernel_rfl) (by kernel_rfl) (loads_at 1 (hS3.blk 0 rfl) (by kernel_rfl) (by kernel_rfl)) ?_
    obtain ⟨t11, hr12, hp13⟩ := bind_some' hp10
    refine r_call1 (c := (cd13 [1, 0])) (i := 11) (d := (some 14)) (g := 25) (args := #[.string a0.Name]) (by kernel_rfl) (by kernel_rfl) (by kernel_rfl) (by kernel_rfl) (weirref05_Name.ok a0.Name hS3 hr12) ?_
    rintro _ w14 ⟨rfl, hS15⟩
    refine ⟨.bool t11, rfl, ?_⟩
    refine sx_run 3 (todo' := [.code (cd13 [1, 1])]) (us := [(15, .bool t11), (2, .bool t11)]) (by kernel_rfl) ?_
    have hS16 := hS15.drop
    refine runs_ret (fn := Tryd.f13) (v := .bool t11) Tryd.func13 (by kernel_rfl) ?_
    have hr17 := (Option.some.inj hp13)
    cases hr17
    exact hR _ _ ⟨rfl, hS16⟩
   ·skip
    have hp18 := ite_f hp7 h9
    refine sx_run 8 (todo' := [.code (cd13 [1, 1])]) (us := [(10, .bool false), (11, .bool false), (12, undef), (13, undef), (14, undef), (15, .bool false), (2, .bool false)]) (by kernel_rfl) ?_
    have hS19 := hS3.drop
    refine runs_ret (fn := Tryd.f13) (v := .bool false) Tryd.func13 (by kernel_rfl) ?_
    have hr20 := (Option.some.inj hp18)
    cases hr20
    exact hR _ _ ⟨rfl, hS19⟩
  ·skip
   have hp21 := ite_f hp0 h6
   refine sx_run 12 (todo' := [.code (cd13 [1, 1])]) (us := [(6, .bool false), (7, undef), (8, undef), (9, undef), (10, .bool false), (11, .bool false), (12, undef), (13, undef), (14, undef), (15, .bool false), (2, .bool false)]) (by kernel_rfl) ?_
   have hS22 := hS3.drop
   refine runs_ret (fn := Tryd.f13) (v := .bool false) Tryd.func13 (by kernel_rfl) ?_
   have hr23 := (Option.some.inj hp21)
   cases hr23
   exact hR _ _ ⟨rfl, hS22⟩

noncomputable def cd26 (p : List Nat) : Code := sub (bodyOf Tryd.f26) p
def weirref04_in.l0 (a1 : Int) (t16 : Int) (t17 : ByteArray) : Option (Int × ByteArray) :=
  (if (decide (t16 ≥ a1)) = true then (if a1 ≠ 0 then (if a1 ≠ 0 then (if 0 ≤ (t16.tmod a1) ∧ (t16.tmod a1) ≤ (IntKind.u64.wrap ((t16.tmod a1) + 1)) ∧ (IntKind.u64.wrap ((t16.tmod a1) + 1)) ≤ ((⟨#[48, 49, 50, 51, 52, 53, 54, 55, 56, 57, 97, 98, 99, 100, 101, 102]⟩ : ByteArray).size : Int) then (if ((⟨#[48, 49, 50, 51, 52, 53, 54, 55, 56, 57, 97, 98, 99, 100, 101, 102]⟩ : ByteArray).extract (t16.tmod a1).toNat (IntKind.u64.wrap ((t16.tmod a1) + 1)).toNat).size + t17.size ≤ 9223372036854775807 then (if a1 ≠ 0 then (weirref04_in.l0 a1 (IntKind.u64.wrap (t16.tdiv a1)) (((⟨#[48, 49, 50, 51, 52, 53, 54, 55, 56, 57, 97, 98, 99, 100, 101, 102]⟩ : ByteArray).extract (t16.tmod a1).toNat (IntKind.u64.wrap ((t16.tmod a1) + 1)).toNat) ++ t17)) else none) else none) else none) else none) else none) else some ((t16, t17)))
 partial_fixpoint
def weirref04_in.f (a0 : Int) (a1 : Int) : Option ByteArray :=
  (weirref04_in.l0 a1 a0 (⟨#[]⟩ : ByteArray) >>= (fun (t4, t5) => (if 0 ≤ t4 ∧ t4 ≤ (IntKind.u64.wrap (t4 + 1)) ∧ (IntKind.u64.wrap (t4 + 1)) ≤ ((⟨#[48, 49, 50, 51, 52, 53, 54, 55, 56, 57, 97, 98, 99, 100, 101, 102]⟩ : ByteArray).size : Int) then (if ((⟨#[48, 49, 50, 51, 52, 53, 54, 55, 56, 57, 97, 98, 99, 100, 101, 102]⟩ : ByteArray).extract t4.toNat (IntKind.u64.wrap (t4 + 1)).toNat).size + t5.size ≤ 9223372036854775807 then some ((((⟨#[48, 49, 50, 51, 52, 53, 54, 55, 56, 57, 97, 98, 99, 100, 101, 102]⟩ : ByteArray).extract t4.toNat (IntKind.u64.wrap (t4 + 1)).toNat) ++ t5)) else none) else none)))
set_option maxHeartbeats 16000000 in
theorem weirref04_in.ok (a0 : Int) (a1 : Int) {w0 : World} {Z : Zm} {fs : List XObj} {w : World} (hS0 : St w0 Z (fs) w) {q0 : ByteArray} (hp0 : weirref04_in.f a0 a1 = some q0) :
    Calls Tryd.prog 26 #[.int .u64 a0, .int .u64 a1] w (fun e w' => e = .returned (.string q0) ∧ St w0 Z (fs) w') := by
  refine calls_abs ?_; intro R hR
  unfold weirref04_in.f at hp0
  refine calls_of_runs (fn := Tryd.f26) (c := cd26 []) Tryd.func26 (by kernel_rfl) (al := [.int .u64 a0, .int .u64 a1]) rfl (n := 26) rfl ?_
  refine sx_run 11 (todo' := [.code (cd26 [1, 1, 0, 0, 0]), .inLoop (cd26 [1, 1, 0, 0, 0]), .inBlock 0, .code (cd26 [1, 1, 1])]) (us := [(4, .string (⟨#[]⟩ : ByteArray)), (5, .string (⟨#[]⟩ : ByteArray))]) (by kernel_rfl) ?_
  obtain ⟨v1, hv2, hp3⟩ := bind_some' hp0
  have J8 : ∀ (t4 : Int) (t5 : ByteArray) (he10 : (t4, t5) = v1) (l9 : List Value) (w6 : World) (hS7 : St w0 Z (fs) w6), Runs Tryd.prog 26 [.code (cd26 [1, 1, 1])] (fill [some (.int .u64 t4), none, none, none, none, some (.string t5), none, none, none, none, none, none, none, none, none, none, none, none, none, none, none, none, none, none, none, none, none, none] l9) w6 R := by
   intro t4 t5 he10 l9 w6 hS7
   subst he10
   try dsimp only at hp3
   refine sx_run 5 (todo' := [.inRegion (opsOf (cd26 [1, 1, 1, 0])) [3, 4, 5, 6], .code (cd26 [1, 1, 1, 1])]) (us := [(22, .int .u64 t4), (23, .int .u64 t4), (24, .int .u64 (IntKind.u64.wrap (t4 + 1)))]) (by kernel_rfl) ?_
   obtain ⟨g11, hp12⟩ := ite_some hp3
   refine r_val (c := (cd26 [1, 1, 1, 0])) (i := 3) (d := (some 25)) (ty := 9) (op := .slice 9 (.const (.string (⟨#[48, 49, 50, 51, 52, 53, 54, 55, 56, 57, 97, 98, 99, 100, 101, 102]⟩ : ByteArray))) (some (.tmp 22)) (some (.tmp 24)) none) (v := .string ((⟨#[48, 49, 50, 51, 52, 53, 54, 55, 56, 57, 97, 98, 99, 100, 101, 102]⟩ : ByteArray).extract t4.toNat (IntKind.u64.wrap (t4 + 1)).toNat)) (by kernel_rfl) (by kernel_rfl) (fun o ho _ => x_cutStr_ss (k := .u64) (k' := .u64) (by kernel_rfl) (by kernel_rfl) (by kernel_rfl) (by kernel_rfl) g11 ho) ?_
   refine sx_run 1 (todo' := [.inRegion (opsOf (cd26 [1, 1, 1, 0])) [5, 6], .code (cd26 [1, 1, 1, 1])]) (us := [(26, .string t5)]) (by kernel_rfl) ?_
   obtain ⟨g13, hp14⟩ := ite_some hp12
   refine r_val (c := (cd26 [1, 1, 1, 0])) (i := 5) (d := (some 27)) (ty := 9) (op := .binOp .add 9 (.tmp 25) (.tmp 26) 9) (v := .string (((⟨#[48, 49, 50, 51, 52, 53, 54, 55, 56, 57, 97, 98, 99, 100, 101, 102]⟩ : ByteArray).extract t4.toNat (IntKind.u64.wrap (t4 + 1)).toNat) ++ t5)) (by kernel_rfl) (by kernel_rfl) (fun o ho _ => x_concat (by kernel_rfl) (by kernel_rfl) g13 ho) ?_
   refine sx_run 2 (todo' := [.code (cd26 [1, 1, 1, 1])]) (us := [(4, .string (((⟨#[48, 49, 50, 51, 52, 53, 54, 55, 56, 57, 97, 98, 99, 100, 101, 102]⟩ : ByteArray).extract t4.toNat (IntKind.u64.wrap (t4 + 1)).toNat) ++ t5))]) (by kernel_rfl) ?_
   refine runs_ret (fn := Tryd.f26) (v := .string (((⟨#[48, 49, 50, 51, 52, 53, 54, 55, 56, 57, 97, 98, 99, 100, 101, 102]⟩ : ByteArray).extract t4.toNat (IntKind.u64.wrap (t4 + 1)).toNat) ++ t5)) Tryd.func26 (by kernel_rfl) ?_
   have hr15 := (Option.some.inj hp14)
   cases hr15
   exact hR _ _ ⟨rfl, hS7⟩
  have L26 : ∀ (t16 : Int) (t17 : ByteArray) (e21 : (Int × ByteArray)), weirref04_in.l0 a1 t16 t17 = some e21 → e21 = v1 → ∀ (l20 : List Value) (w18 : World) (hS19 : St w0 Z (fs) w18), Runs Tryd.prog 26 [.code (cd26 [1, 1, 0, 0, 0]), .inLoop (cd26 [1, 1, 0, 0, 0]), .inBlock 0, .code (cd26 [1, 1, 1])] (fill [some (.int .u64 t16), some (.int .u64 a1), none, none, none, some (.string t17), none, none, none, none, none, none, none, none, none, none, none, none, none, none, none, none, none, none, none, none, none, none] l20) w18 R := by
   refine weirref04_in.l0.partial_correctness a1 (fun t16 t17 e21 => e21 = v1 → ∀ (l20 : List Value) (w18 : World) (hS19 : St w0 Z (fs) w18), Runs Tryd.prog 26 [.code (cd26 [1, 1, 0, 0, 0]), .inLoop (cd26 [1, 1, 0, 0, 0]), .inBlock 0, .code (cd26 [1, 1, 1])] (fill [some (.int .u64 t16), some (.int .u64 a1), none, none, none, some (.string t17), none, none, none, none, none, none, none, none, none, none, none, none, none, none, none, none, none, none, none, none, none, none] l20) w18 R) ?_
   intro rec25 ih24 t16 t17 e21 hb23 he22 l20 w18 hS19
   refine sx_split 6 (todo' := [.inRegion (opsOf (cd26 [1, 1, 0, 0, 0, 0, 0])) [], .code (cd26 [1, 1, 0, 0, 0, 0, 1]), .code (cd26 [1, 1, 0, 0, 0, 1]), .inLoop (cd26 [1, 1, 0, 0, 0]), .inBlock 0, .code (cd26 [1, 1, 1])]) (us := [(6, .int .u64 t16), (7, .int .u64 a1)]) (d := 8) (t := (decide (t16 ≥ a1))) (by kernel_rfl) (fun h27 => ?_) (fun h28 => ?_)
   ·skip
    have hp29 := ite_t hb23 h27
    refine sx_run 5 (todo' := [.code (cd26 [1, 1, 0, 0, 0, 1, 0, 0]), .code (cd26 [1, 1, 0, 0, 0, 1, 0, 1]), .inBlock 1, .inLoop (cd26 [1, 1, 0, 0, 0]), .inBlock 0, .code (cd26 [1, 1, 1])]) (us := []) (by kernel_rfl) ?_
    refine r_quiet hS19 (c := (cd26 [1, 1, 0, 0, 0, 1, 0, 0])) (id := 3) (by kernel_rfl) (by kernel_rfl) (by kernel_rfl) (is := [0, 1, 2, 3, 4, 5, 6, 7, 8, 9, 10]) (by kernel_rfl) ?_
    refine q_run 2 (is' := [2, 3, 4, 5, 6, 7, 8, 9, 10]) (us := [(9, .int .u64 t16), (10, .int .u64 a1)]) (by kernel_rfl) ?_
    obtain ⟨g30, hp31⟩ := ite_some hp29
    refine q_val (c := (cd26 [1, 1, 0, 0, 0, 1, 0, 0])) (i := 2) (d := (some 11)) (ty := 59) (op := .binOp .rem 59 (.tmp 9) (.tmp 10) 59) (v := .int .u64 (t16.tmod a1)) (by kernel_rfl) (by kernel_rfl) (fun w hC o ho _ => (x_div (by kernel_rfl) (by kernel_rfl) g30).2 ho) ?_
    refine q_run 2 (is' := [5, 6, 7, 8, 9, 10]) (us := [(12, .int .u64 t16), (13, .int .u64 a1)]) (by kernel_rfl) ?_
    obtain ⟨g32, hp33⟩ := ite_some hp31
    refine q_val (c := (cd26 [1, 1, 0, 0, 0, 1, 0, 0])) (i := 5) (d := (some 14)) (ty := 59) (op := .binOp .rem 59 (.tmp 12) (.tmp 13) 59) (v := .int .u64 (t16.tmod a1)) (by kernel_rfl) (by kernel_rfl) (fun w hC o ho _ => (x_div (by kernel_rfl) (by kernel_rfl) g32).2 ho) ?_
    refine q_run 1 (is' := [7, 8, 9, 10]) (us := [(15, .int .u64 (IntKind.u64.wrap ((t16.tmod a1) + 1)))]) (by kernel_rfl) ?_
    obtain ⟨g34, hp35⟩ := ite_some hp33
    refine q_val (c := (cd26 [1, 1, 0, 0, 0, 1, 0, 0])) (i := 7) (d := (some 16)) (ty := 9) (op := .slice 9 (.const (.string (⟨#[48, 49, 50, 51, 52, 53, 54, 55, 56, 57, 97, 98, 99, 100, 101, 102]⟩ : ByteArray))) (some (.tmp 11)) (some (.tmp 15)) none) (v := .string ((⟨#[48, 49, 50, 51, 52, 53, 54, 55, 56, 57, 97, 98, 99, 100, 101, 102]⟩ : ByteArray).extract (t16.tmod a1).toNat (IntKind.u64.wrap ((t16.tmod a1) + 1)).toNat)) (by kernel_rfl) (by kernel_rfl) (fun w hC o ho _ => x_cutStr_ss (k := .u64) (k' := .u64) (by kernel_rfl) (by kernel_rfl) (by kernel_rfl) (by kernel_rfl) g34 ho) ?_
    refine q_run 1 (is' := [9, 10]) (us := [(17, .string t17)]) (by kernel_rfl) ?_
    obtain ⟨g36, hp37⟩ := ite_some hp35
    refine q_val (c := (cd26 [1, 1, 0, 0, 0, 1, 0, 0])) (i := 9) (d := (some 18)) (ty := 9) (op := .binOp .add 9 (.tmp 16) (.tmp 17) 9) (v := .string (((⟨#[48, 49, 50, 51, 52, 53, 54, 55, 56, 57, 97, 98, 99, 100, 101, 102]⟩ : ByteArray).extract (t16.tmod a1).toNat (IntKind.u64.wrap ((t16.tmod a1) + 1)).toNat) ++ t17)) (by kernel_rfl) (by kernel_rfl) (fun w hC o ho _ => x_concat (by kernel_rfl) (by kernel_rfl) g36 ho) ?_
    refine q_run 1 (is' := []) (us := [(5, .string (((⟨#[48, 49, 50, 51, 52, 53, 54, 55, 56, 57, 97, 98, 99, 100, 101, 102]⟩ : ByteArray).extract (t16.tmod a1).toNat (IntKind.u64.wrap ((t16.tmod a1) + 1)).toNat) ++ t17))]) (by kernel_rfl) ?_
    refine Qs.nil ?_
    intro w38 hS39
    refine sx_run 3 (todo' := [.inRegion (opsOf (cd26 [1, 1, 0, 0, 0, 1, 0, 1])) [2, 3], .inBlock 1, .inLoop (cd26 [1, 1, 0, 0, 0]), .inBlock 0, .code (cd26 [1, 1, 1])]) (us := [(19, .int .u64 t16), (20, .int .u64 a1)]) (by kernel_rfl) ?_
    obtain ⟨g40, hp41⟩ := ite_some hp37
    refine r_val (c := (cd26 [1, 1, 0, 0, 0, 1, 0, 1])) (i := 2) (d := (some 21)) (ty := 59) (op := .binOp .quo 59 (.tmp 19) (.tmp 20) 59) (v := .int .u64 (IntKind.u64.wrap (t16.tdiv a1))) (by kernel_rfl) (by kernel_rfl) (fun o ho _ => (x_div (by kernel_rfl) (by kernel_rfl) g40).1 ho) ?_
    refine sx_run 3 (todo' := [.inLoop (cd26 [1, 1, 0, 0, 0]), .inBlock 0, .code (cd26 [1, 1, 1])]) (us := [(0, .int .u64 (IntKind.u64.wrap (t16.tdiv a1)))]) (by kernel_rfl) ?_
    refine sx_run 1 (todo' := [.code (cd26 [1, 1, 0, 0, 0]), .inLoop (cd26 [1, 1, 0, 0, 0]), .inBlock 0, .code (cd26 [1, 1, 1])]) (us := []) (by kernel_rfl) ?_
    refine Runs.fill (m := [some (.int .u64 (IntKind.u64.wrap (t16.tdiv a1))), some (.int .u64 a1), none, none, none, some (.string (((⟨#[48, 49, 50, 51, 52, 53, 54, 55, 56, 57, 97, 98, 99, 100, 101, 102]⟩ : ByteArray).extract (t16.tmod a1).toNat (IntKind.u64.wrap ((t16.tmod a1) + 1)).toNat) ++ t17)), none, none, none, none, none, none, none, none, none, none, none, none, none, none, none, none, none, none, none, none, none, none]) (by kernel_rfl) ?_
    exact ih24 (IntKind.u64.wrap (t16.tdiv a1)) (((⟨#[48, 49, 50, 51, 52, 53, 54, 55, 56, 57, 97, 98, 99, 100, 101, 102]⟩ : ByteArray).extract (t16.tmod a1).toNat (IntKind.u64.wrap ((t16.tmod a1) + 1)).toNat) ++ t17) _ hp41 he22 _ _ hS39
   ·skip
    have hp42 := ite_f hb23 h28
    refine sx_run 3 (todo' := [.code (cd26 [1, 1, 1])]) (us := []) (by kernel_rfl) ?_
    refine Runs.fill (m := [some (.int .u64 t16), none, none, none, none, some (.string t17), none, none, none, none, none, none, none, none, none, none, none, none, none, none, none, none, none, none, none, none, none, none]) (by kernel_rfl) ?_
    exact J8 t16 t17 ((Option.some.inj hp42).trans he22) _ _ hS19
  refine Runs.fill (m := [some (.int .u64 a0), some (.int .u64 a1), none, none, none, some (.string (⟨#[]⟩ : ByteArray)), none, none, none, none, none, none, none, none, none, none, none, none, none, none, none, none, none, none, none, none, none, none]) (by kernel_rfl) ?_
  exact L26 a0 (⟨#[]⟩ : ByteArray) _ hv2 rfl _ _ hS0

noncomputable def cd14 (p : List Nat) : Code := sub (bodyOf Tryd.f14) p
def weirref04_Text.f (a0 : Int) : Option ByteArray :=
  (if (decide (a0 < 0)) = true then (weirref04_in.f (IntKind.u64.wrap (0 - (IntKind.u64.wrap a0))) 10 >>= (fun t4 => (if (⟨#[45]⟩ : ByteArray).size + t4.size ≤ 9223372036854775807 then some (((⟨#[45]⟩ : ByteArray) ++ t4)) else none))) else (weirref04_in.f (IntKind.u64.wrap a0) 10 >>= (fun t13 => some (t13))))
set_option maxHeartbeats 16000000 in
theorem weirref04_Text.ok (a0 : Int) {w0 : World} {Z : Zm} {fs : List XObj} {w : World} (hS0 : St w0 Z (fs) w) {q0 : ByteArray} (hp0 : weirref04_Text.f a0 = some q0) :
    Calls Tryd.prog 14 #[.int .i64 a0] w (fun e w' => e = .returned (.string q0) ∧ St w0 Z (fs) w') := by
  refine calls_abs ?_; intro R hR
  unfold weirref04_Text.f at hp0
  refine calls_of_runs (fn := Tryd.f14) (c := cd14 []) Tryd.func14 (by kernel_rfl) (al := [.int .i64 a0]) rfl (n := 12) rfl ?_
  refine sx_split 9 (todo' := [.inRegion (opsOf (cd14 [1, 0, 0])) [], .code (cd14 [1, 0, 1]), .code (cd14 [1, 1])]) (us := [(2, .string (⟨#[]⟩ : ByteArray)), (3, .int .i64 a0)]) (d := 4) (t := (decide (a0 < 0))) (by kernel_rfl) (fun h1 => ?_) (fun h2 => ?_)
  ·skip
   have hp3 := ite_t hp0 h1
   refine sx_run 7 (todo' := [.inRegion (opsOf (cd14 [1, 0, 1, 0, 0])) [3, 4, 5], .code (cd14 [1, 0, 1, 0, 1]), .code (cd14 [1, 1])]) (us := [(5, .int .i64 a0), (6, .int .u64 (IntKind.u64.wrap a0)), (7, .int .u64 (IntKind.u64.wrap (0 - (IntKind.u64.wrap a0))))]) (by kernel_rfl) ?_
   obtain ⟨t4, hr5, hp6⟩ := bind_some' hp3
   refine r_call1 (c := (cd14 [1, 0, 1, 0, 0])) (i := 3) (d := (some 8)) (g := 26) (args := #[.int .u64 (IntKind.u64.wrap (0 - (IntKind.u64.wrap a0))), .int .u64 10]) (by kernel_rfl) (by kernel_rfl) (by kernel_rfl) (by kernel_rfl) (weirref04_in.ok (IntKind.u64.wrap (0 - (IntKind.u64.wrap a0))) 10 hS0 hr5) ?_
   rintro _ w7 ⟨rfl, hS8⟩
   refine ⟨.string t4, rfl, ?_⟩
   obtain ⟨g9, hp10⟩ := ite_some hp6
   refine r_val (c := (cd14 [1, 0, 1, 0, 0])) (i := 4) (d := (some 9)) (ty := 9) (op := .binOp .add 9 (.const (.string (⟨#[45]⟩ : ByteArray))) (.tmp 8) 9) (v := .string ((⟨#[45]⟩ : ByteArray) ++ t4)) (by kernel_rfl) (by kernel_rfl) (fun o ho _ => x_concat (by kernel_rfl) (by kernel_rfl) g9 ho) ?_
   refine sx_run 2 (todo' := [.code (cd14 [1, 0, 1, 0, 1]), .code (cd14 [1, 1])]) (us := [(2, .string ((⟨#[45]⟩ : ByteArray) ++ t4))]) (by kernel_rfl) ?_
   refine runs_ret (fn := Tryd.f14) (v := .string ((⟨#[45]⟩ : ByteArray) ++ t4)) Tryd.func14 (by kernel_rfl) ?_
   have hr11 := (Option.some.inj hp10)
   cases hr11
   exact hR _ _ ⟨rfl, hS8⟩
  ·skip
   have hp12 := ite_f hp0 h2
   refine sx_run 7 (todo' := [.inRegion (opsOf (cd14 [1, 1, 0])) [2, 3], .code (cd14 [1, 1, 1])]) (us := [(10, .int .i64 a0), (11, .int .u64 (IntKind.u64.wrap a0))]) (by kernel_rfl) ?_
   obtain ⟨t13, hr14, hp15⟩ := bind_some' hp12
   refine r_call1 (c := (cd14 [1, 1, 0])) (i := 2) (d := (some 12)) (g := 26) (args := #[.int .u64 (IntKind.u64.wrap a0), .int .u64 10]) (by kernel_rfl) (by kernel_rfl) (by kernel_rfl) (by kernel_rfl) (weirref04_in.ok (IntKind.u64.wrap a0) 10 hS0 hr14) ?_
   rintro _ w16 ⟨rfl, hS17⟩
   refine ⟨.string t13, rfl, ?_⟩
   refine sx_run 2 (todo' := [.code (cd14 [1, 1, 1])]) (us := [(2, .string t13)]) (by kernel_rfl) ?_
   refine runs_ret (fn := Tryd.f14) (v := .string t13) Tryd.func14 (by kernel_rfl) ?_
   have hr18 := (Option.some.inj hp15)
   cases hr18
   exact hR _ _ ⟨rfl, hS17⟩

noncomputable def cd5 (p : List Nat) : Code := sub (bodyOf Tryd.f5) p
def weirref08_Ref.f (a0 : api_Ref) : Option (ByteArray × Int) :=
  (weirref08_ref.f a0 >>= (fun t5 => (if (!t5) = true then some (((⟨#[]⟩ : ByteArray), 80)) else (if (a0.Thread == (-1)) = true then some ((a0.Name, 0)) else (weirref04_Text.f a0.Thread >>= (fun t22 => (if t22.size + (⟨#[58]⟩ : ByteArray).size ≤ 9223372036854775807 then (if (t22 ++ (⟨#[58]⟩ : ByteArray)).size + a0.Name.size ≤ 9223372036854775807 then some ((((t22 ++ (⟨#[58]⟩ : ByteArray)) ++ a0.Name), 0)) else none) else none)))))))
set_option maxHeartbeats 16000000 in
theorem weirref08_Ref.ok (a0 : api_Ref) {w0 : World} {Z : Zm} {fs : List XObj} {w : World} (hS0 : St w0 Z (fs) w) {q0 : ByteArray} {q1 : Int} (hp0 : weirref08_Ref.f a0 = some (q0, q1)) :
    Calls Tryd.prog 5 #[.agg (enc_api_Ref a0).toArray] w (fun e w' => e = .returned (.tuple #[.string q0, .int .i64 q1]) ∧ St w0 Z (fs) w') := by
  refine calls_abs ?_; intro R hR
  unfold weirref08_Ref.f at hp0
  refine calls_of_runs (fn := Tryd.f5) (c := cd5 []) Tryd.func5 (by kernel_rfl) (al := [.agg (enc_api_Ref a0).toArray]) rfl (n := 18) rfl ?_
  refine sx_run 2 (todo' := [.inRegion (opsOf (cd5 [0])) [0, 1, 2], .code (cd5 [1])]) (us := []) (by kernel_rfl) ?_
  refine r_box (c := (cd5 [0])) (i := 0) (d := (some 1)) (ty := 0) (x := (.tmp 0)) (v := .agg (enc_api_Ref a0).toArray) (t := 23) (cs := enc_api_Ref a0) hS0 (by kernel_rfl) (by kernel_rfl) (by kernel_rfl) (by kernel_rfl) ?_
  intro b1 w2 hS3
  refine sx_run 6 (todo' := [.inRegion (opsOf (cd5 [1, 0, 0])) [0, 1, 2], .code (cd5 [1, 0, 1]), .code (cd5 [1, 1])]) (us := [(2, .string (⟨#[]⟩ : ByteArray)), (3, .int .i64 0)]) (by kernel_rfl) ?_
  refine r_load (c := (cd5 [1, 0, 0])) (i := 0) (d := (some 4)) (ty := 23) (t := 23) (x := (.tmp 1)) (p := ⟨b1, 0, none⟩) (v := .agg (enc_api_Ref a0).toArray) (by kernel_rfl) (by kernel_rfl) (by kernel_rfl) (loads_agg (hS3.blk 0 rfl) (by kernel_rfl) (by kernel_rfl)) ?_
  obtain ⟨t5, hr6, hp7⟩ := bind_some' hp0
  refine r_call1 (c := (cd5 [1, 0, 0])) (i := 1) (d := (some 5)) (g := 13) (args := #[.agg (enc_api_Ref a0).toArray]) (by kernel_rfl) (by kernel_rfl) (by kernel_rfl) (by kernel_rfl) (weirref08_ref.ok a0 hS3 hr6) ?_
  rintro _ w8 ⟨rfl, hS9⟩
  refine ⟨.bool t5, rfl, ?_⟩
  refine sx_split 1 (todo' := [.inRegion (opsOf (cd5 [1, 0, 0])) [], .code (cd5 [1, 0, 1]), .code (cd5 [1, 1])]) (us := []) (d := 6) (t := (!t5)) (by kernel_rfl) (fun h10 => ?_) (fun h11 => ?_)
  ·skip
   have hp12 := ite_t hp7 h10
   refine sx_run 7 (todo' := [.code (cd5 [1, 0, 1, 0, 1]), .code (cd5 [1, 1])]) (us := [(2, .string (⟨#[]⟩ : ByteArray)), (3, .int .i64 80)]) (by kernel_rfl) ?_
   have hS13 := hS9.drop
   refine runs_ret (fn := Tryd.f5) (v := .tuple #[.string (⟨#[]⟩ : ByteArray), .int .i64 80]) Tryd.func5 (by kernel_rfl) ?_
   have hr14 := (Option.some.inj hp12)
   cases hr14
   exact hR _ _ ⟨rfl, hS13⟩
  ·skip
   have hp15 := ite_f hp7 h11
   refine sx_run 7 (todo' := [.inRegion (opsOf (cd5 [1, 1, 0, 0])) [1, 2], .code (cd5 [1, 1, 0, 1]), .code (cd5 [1, 1, 1])]) (us := [(7, .pointer (some ⟨b1, 0, none⟩))]) (by kernel_rfl) ?_
   refine r_load (c := (cd5 [1, 1, 0, 0])) (i := 1) (d := (some 8)) (ty := 3) (t := 3) (x := (.tmp 7)) (p := ⟨b1, 0, none⟩) (v := .int .i64 a0.Thread) (by kernel_rfl) (by kernel_rfl) (by kernel_rfl) (loads_at 0 (hS9.blk 0 rfl) (by kernel_rfl) (by kernel_rfl)) ?_
   refine sx_split 1 (todo' := [.inRegion (opsOf (cd5 [1, 1, 0, 0])) [], .code (cd5 [1, 1, 0, 1]), .code (cd5 [1, 1, 1])]) (us := []) (d := 9) (t := (a0.Thread == (-1))) (by kernel_rfl) (fun h16 => ?_) (fun h17 => ?_)
   ·skip
    have hp18 := ite_t hp15 h16
    refine sx_run 5 (todo' := [.inRegion (opsOf (cd5 [1, 1, 0, 1, 0, 0])) [1, 2, 3], .code (cd5 [1, 1, 0, 1, 0, 1]), .code (cd5 [1, 1, 1])]) (us := [(10, .pointer (some ⟨b1, 1, none⟩))]) (by kernel_rfl) ?_
    refine r_load (c := (cd5 [1, 1, 0, 1, 0, 0])) (i := 1) (d := (some 11)) (ty := 9) (t := 9) (x := (.tmp 10)) (p := ⟨b1, 1, none⟩) (v := .string a0.Name) (by kernel_rfl) (by kernel_rfl) (by kernel_rfl) (loads_at 1 (hS9.blk 0 rfl) (by kernel_rfl) (by kernel_rfl)) ?_
    refine sx_run 3 (todo' := [.code (cd5 [1, 1, 0, 1, 0, 1]), .code (cd5 [1, 1, 1])]) (us := [(2, .string a0.Name), (3, .int .i64 0)]) (by kernel_rfl) ?_
    have hS19 := hS9.drop
    refine runs_ret (fn := Tryd.f5) (v := .tuple #[.string a0.Name, .int .i64 0]) Tryd.func5 (by kernel_rfl) ?_
    have hr20 := (Option.some.inj hp18)
    cases hr20
    exact hR _ _ ⟨rfl, hS19⟩
   ·skip
    have hp21 := ite_f hp15 h17
    refine sx_run 4 (todo' := [.code (cd5 [1, 1, 1, 0]), .code (cd5 [1, 1, 1, 1])]) (us := []) (by kernel_rfl) ?_
    refine r_quiet hS9 (c := (cd5 [1, 1, 1, 0])) (id := 5) (by kernel_rfl) (by kernel_rfl) (by kernel_rfl) (is := [0, 1, 2, 3, 4, 5, 6, 7, 8]) (by kernel_rfl) ?_
    refine q_run 1 (is' := [1, 2, 3, 4, 5, 6, 7, 8]) (us := [(12, .pointer (some ⟨b1, 0, none⟩))]) (by kernel_rfl) ?_
    refine q_load (c := (cd5 [1, 1, 1, 0])) (i := 1) (d := (some 13)) (ty := 3) (t := 3) (x := (.tmp 12)) (p := ⟨b1, 0, none⟩) (v := .int .i64 a0.Thread) (by kernel_rfl) (by kernel_rfl) (by kernel_rfl) (fun w hC => (loads_at 0 (hC.blk 0 rfl) (by kernel_rfl) (by kernel_rfl))) ?_
    obtain ⟨t22, hr23, hp24⟩ := bind_some' hp21
    refine q_call1 (c := (cd5 [1, 1, 1, 0])) (i := 2) (d := (some 14)) (v := .string t22) (g := 14) (args := #[.int .i64 a0.Thread]) (by kernel_rfl) (by kernel_rfl) (by kernel_rfl) (by kernel_rfl) (fun w hC => by
     refine (weirref04_Text.ok a0.Thread hC hr23).mono ?_
     rintro e w2 ⟨rfl, h2⟩
     exact ⟨rfl, h2⟩) ?_
    obtain ⟨g25, hp26⟩ := ite_some hp24
    refine q_val (c := (cd5 [1, 1, 1, 0])) (i := 3) (d := (some 15)) (ty := 9) (op := .binOp .add 9 (.tmp 14) (.const (.string (⟨#[58]⟩ : ByteArray))) 9) (v := .string (t22 ++ (⟨#[58]⟩ : ByteArray))) (by kernel_rfl) (by kernel_rfl) (fun w hC o ho _ => x_concat (by kernel_rfl) (by kernel_rfl) g25 ho) ?_
    refine q_run 1 (is' := [5, 6, 7, 8]) (us := [(16, .pointer (some ⟨b1, 1, none⟩))]) (by kernel_rfl) ?_
    refine q_load (c := (cd5 [1, 1, 1, 0])) (i := 5) (d := (some 17)) (ty := 9) (t := 9) (x := (.tmp 16)) (p := ⟨b1, 1, none⟩) (v := .string a0.Name) (by kernel_rfl) (by kernel_rfl) (by kernel_rfl) (fun w hC => (loads_at 1 (hC.blk 0 rfl) (by kernel_rfl) (by kernel_rfl))) ?_
    obtain ⟨g27, hp28⟩ := ite_some hp26
    refine q_val (c := (cd5 [1, 1, 1, 0])) (i := 6) (d := (some 18)) (ty := 9) (op := .binOp .add 9 (.tmp 15) (.tmp 17) 9) (v := .string ((t22 ++ (⟨#[58]⟩ : ByteArray)) ++ a0.Name)) (by kernel_rfl) (by kernel_rfl) (fun w hC o ho _ => x_concat (by kernel_rfl) (by kernel_rfl) g27 ho) ?_
    refine q_run 2 (is' := []) (us := [(2, .string ((t22 ++ (⟨#[58]⟩ : ByteArray)) ++ a0.Name)), (3, .int .i64 0)]) (by kernel_rfl) ?_
    refine Qs.nil ?_
    intro w29 hS30
    have hS31 := hS30.drop
    refine runs_ret (fn := Tryd.f5) (v := .tuple #[.string ((t22 ++ (⟨#[58]⟩ : ByteArray)) ++ a0.Name), .int .i64 0]) Tryd.func5 (by kernel_rfl) ?_
    have hr32 := (Option.some.inj hp28)
    cases hr32
    exact hR _ _ ⟨rfl, hS31⟩

noncomputable def cd15 (p : List Nat) : Code := sub (bodyOf Tryd.f15) p
def word_Text.f (a0 : Int) : Option ByteArray :=
  (strconv_FormatInt.f a0 10 >>= (fun t1 => some (t1)))
set_option maxHeartbeats 16000000 in
theorem word_Text.ok (a0 : Int) {w0 : World} {Z : Zm} {fs : List XObj} {w : World} (hS0 : St w0 Z (fs) w) (hE : Env Z) {q0 : ByteArray} (hp0 : word_Text.f a0 = some q0) :
    Calls Tryd.prog 15 #[.int .i64 a0] w (fun e w' => e = .returned (.string q0) ∧ St w0 Z (fs) w') := by
  refine calls_abs ?_; intro R hR
  unfold word_Text.f at hp0
  refine calls_of_runs (fn := Tryd.f15) (c := cd15 []) Tryd.func15 (by kernel_rfl) (al := [.int .i64 a0]) rfl (n := 4) rfl ?_
  refine sx_run 7 (todo' := [.inRegion (opsOf (cd15 [1, 0])) [1, 2], .code (cd15 [1, 1])]) (us := [(2, .string (⟨#[]⟩ : ByteArray)), (3, .int .i64 a0)]) (by kernel_rfl) ?_
  obtain ⟨t1, hr2, hp3⟩ := bind_some' hp0
  refine r_call1 (c := (cd15 [1, 0])) (i := 1) (d := (some 4)) (g := 27) (args := #[.int .i64 a0, .int .i64 10]) (by kernel_rfl) (by kernel_rfl) (by kernel_rfl) (by kernel_rfl) (strconv_FormatInt.ok a0 10 hS0 hE hr2) ?_
  rintro _ w4 ⟨rfl, hS5⟩
  refine ⟨.string t1, rfl, ?_⟩
  refine sx_run 2 (todo' := [.code (cd15 [1, 1])]) (us := [(2, .string t1)]) (by kernel_rfl) ?_
  refine runs_ret (fn := Tryd.f15) (v := .string t1) Tryd.func15 (by kernel_rfl) ?_
  have hr6 := (Option.some.inj hp3)
  cases hr6
  exact hR _ _ ⟨rfl, hS5⟩

noncomputable def cd6 (p : List Nat) : Code := sub (bodyOf Tryd.f6) p
def print_Init.f (a0 : api_Init) : Option (ByteArray × Int) :=
  (print_Ref.f a0.Ref >>= (fun (t5, t6) => (if (t6 != 0) = true then some (((⟨#[]⟩ : ByteArray), t6)) else (if t5.size + (⟨#[61]⟩ : ByteArray).size ≤ 9223372036854775807 then (word_Text.f a0.Value >>= (fun t19 => (if (t5 ++ (⟨#[61]⟩ : ByteArray)).size + t19.size ≤ 9223372036854775807 then some ((((t5 ++ (⟨#[61]⟩ : ByteArray)) ++ t19), 0)) else none))) else none))))
set_option maxHeartbeats 16000000 in
theorem print_Init.ok (a0 : api_Init) {w0 : World} {Z : Zm} {fs : List XObj} {w : World} (hS0 : St w0 Z (fs) w) (hE : Env Z) {q0 : ByteArray} {q1 : Int} (hp0 : print_Init.f a0 = some (q0, q1)) :
    Calls Tryd.prog 6 #[.agg (enc_api_Init a0).toArray] w (fun e w' => e = .returned (.tuple #[.string q0, .int .i64 q1]) ∧ St w0 Z (fs) w') := by
  refine calls_abs ?_; intro R hR
  unfold print_Init.f at hp0
  refine calls_of_runs (fn := Tryd.f6) (c := cd6 []) Tryd.func6 (by kernel_rfl) (al := [.agg (enc_api_Init a0).toArray]) rfl (n := 20) rfl ?_
  refine sx_run 2 (todo' := [.inRegion (opsOf (cd6 [0])) [0, 1, 2], .code (cd6 [1])]) (us := []) (by kernel_rfl) ?_
  refine r_box (c := (cd6 [0])) (i := 0) (d := (some 1)) (ty := 0) (x := (.tmp 0)) (v := .agg (enc_api_Init a0).toArray) (t := 25) (cs := enc_api_Init a0) hS0 (by kernel_rfl) (by kernel_rfl) (by kernel_rfl) (by kernel_rfl) ?_
  intro b1 w2 hS3
  refine sx_run 6 (todo' := [.inRegion (opsOf (cd6 [1, 0])) [1, 2, 3, 4, 5, 6, 7], .code (cd6 [1, 1])]) (us := [(2, .string (⟨#[]⟩ : ByteArray)), (3, .int .i64 0), (7, .pointer (some ⟨b1, 0, none⟩))]) (by kernel_rfl) ?_
  refine r_load (c := (cd6 [1, 0])) (i := 1) (d := (some 8)) (ty := 23) (t := 23) (x := (.tmp 7)) (p := ⟨b1, 0, none⟩) (v := .agg (enc_api_Ref a0.Ref).toArray) (by kernel_rfl) (by kernel_rfl) (by kernel_rfl) (loads_agg (sub_api_Init_Ref (hS3.blk 0 rfl)) (by kernel_rfl) (by kernel_rfl)) ?_
  obtain ⟨⟨t5, t6⟩, hr7, hp8⟩ := bind_some' hp0
  try dsimp only at hp8
  refine r_call1 (c := (cd6 [1, 0])) (i := 2) (d := (some 9)) (g := 4) (args := #[.agg (enc_api_Ref a0.Ref).toArray]) (by kernel_rfl) (by kernel_rfl) (by kernel_rfl) (by kernel_rfl) (print_Ref.ok a0.Ref hS3 hE hr7) ?_
  rintro _ w9 ⟨rfl, hS10⟩
  refine ⟨.tuple #[.string t5, .int .i64 t6], rfl, ?_⟩
  refine sx_split 11 (todo' := [.inRegion (opsOf (cd6 [1, 1, 0, 0])) [], .code (cd6 [1, 1, 0, 1]), .code (cd6 [1, 1, 1])]) (us := [(6, .tuple #[.string t5, .int .i64 t6]), (10, .string t5), (11, .int .i64 t6), (4, .string t5), (5, .int .i64 t6), (12, .int .i64 t6)]) (d := 13) (t := (t6 != 0)) (by kernel_rfl) (fun h11 => ?_) (fun h12 => ?_)
  ·skip
   have hp13 := ite_t hp8 h11
   refine sx_run 8 (todo' := [.code (cd6 [1, 1, 0, 1, 0, 1]), .code (cd6 [1, 1, 1])]) (us := [(14, .int .i64 t6), (2, .string (⟨#[]⟩ : ByteArray)), (3, .int .i64 t6)]) (by kernel_rfl) ?_
   have hS14 := hS10.drop
   refine runs_ret (fn := Tryd.f6) (v := .tuple #[.string (⟨#[]⟩ : ByteArray), .int .i64 t6]) Tryd.func6 (by kernel_rfl) ?_
   have hr15 := (Option.some.inj hp13)
   cases hr15
   exact hR _ _ ⟨rfl, hS14⟩
  ·skip
   have hp16 := ite_f hp8 h12
   refine sx_run 6 (todo' := [.inRegion (opsOf (cd6 [1, 1, 1, 0])) [1, 2, 3, 4, 5, 6, 7], .code (cd6 [1, 1, 1, 1])]) (us := [(15, .string t5)]) (by kernel_rfl) ?_
   obtain ⟨g17, hp18⟩ := ite_some hp16
   refine r_val (c := (cd6 [1, 1, 1, 0])) (i := 1) (d := (some 16)) (ty := 9) (op := .binOp .add 9 (.tmp 15) (.const (.string (⟨#[61]⟩ : ByteArray))) 9) (v := .string (t5 ++ (⟨#[61]⟩ : ByteArray))) (by kernel_rfl) (by kernel_rfl) (fun o ho _ => x_concat (by kernel_rfl) (by kernel_rfl) g17 ho) ?_
   refine sx_run 1 (todo' := [.inRegion (opsOf (cd6 [1, 1, 1, 0])) [3, 4, 5, 6, 7], .code (cd6 [1, 1, 1, 1])]) (us := [(17, .pointer (some ⟨b1, 2, none⟩))]) (by kernel_rfl) ?_
   refine r_load (c := (cd6 [1, 1, 1, 0])) (i := 3) (d := (some 18)) (ty := 2) (t := 2) (x := (.tmp 17)) (p := ⟨b1, 2, none⟩) (v := .int .i64 a0.Value) (by kernel_rfl) (by kernel_rfl) (by kernel_rfl) (loads_at 2 (hS10.blk 0 rfl) (by kernel_rfl) (by kernel_rfl)) ?_
   obtain ⟨t19, hr20, hp21⟩ := bind_some' hp18
   refine r_call1 (c := (cd6 [1, 1, 1, 0])) (i := 4) (d := (some 19)) (g := 15) (args := #[.int .i64 a0.Value]) (by kernel_rfl) (by kernel_rfl) (by kernel_rfl) (by kernel_rfl) (word_Text.ok a0.Value hS10 hE hr20) ?_
   rintro _ w22 ⟨rfl, hS23⟩
   refine ⟨.string t19, rfl, ?_⟩
   obtain ⟨g24, hp25⟩ := ite_some hp21
   refine r_val (c := (cd6 [1, 1, 1, 0])) (i := 5) (d := (some 20)) (ty := 9) (op := .binOp .add 9 (.tmp 16) (.tmp 19) 9) (v := .string ((t5 ++ (⟨#[61]⟩ : ByteArray)) ++ t19)) (by kernel_rfl) (by kernel_rfl) (fun o ho _ => x_concat (by kernel_rfl) (by kernel_rfl) g24 ho) ?_
   refine sx_run 3 (todo' := [.code (cd6 [1, 1, 1, 1])]) (us := [(2, .string ((t5 ++ (⟨#[61]⟩ : ByteArray)) ++ t19)), (3, .int .i64 0)]) (by kernel_rfl) ?_
   have hS26 := hS23.drop
   refine runs_ret (fn := Tryd.f6) (v := .tuple #[.string ((t5 ++ (⟨#[61]⟩ : ByteArray)) ++ t19), .int .i64 0]) Tryd.func6 (by kernel_rfl) ?_
   have hr27 := (Option.some.inj hp25)
   cases hr27
   exact hR _ _ ⟨rfl, hS26⟩

noncomputable def cd7 (p : List Nat) : Code := sub (bodyOf Tryd.f7) p
def weirref08_Init.f (a0 : api_Init) : Option (ByteArray × Int) :=
  (weirref08_Ref.f a0.Ref >>= (fun (t5, t6) => (if (t6 != 0) = true then some (((⟨#[]⟩ : ByteArray), t6)) else (if t5.size + (⟨#[61]⟩ : ByteArray).size ≤ 9223372036854775807 then (weirref04_Text.f a0.Value >>= (fun t19 => (if (t5 ++ (⟨#[61]⟩ : ByteArray)).size + t19.size ≤ 9223372036854775807 then some ((((t5 ++ (⟨#[61]⟩ : ByteArray)) ++ t19), 0)) else none))) else none))))
set_option maxHeartbeats 16000000 in
theorem weirref08_Init.ok (a0 : api_Init) {w0 : World} {Z : Zm} {fs : List XObj} {w : World} (hS0 : St w0 Z (fs) w) {q0 : ByteArray} {q1 : Int} (hp0 : weirref08_Init.f a0 = some (q0, q1)) :
    Calls Tryd.prog 7 #[.agg (enc_api_Init a0).toArray] w (fun e w' => e = .returned (.tuple #[.string q0, .int .i64 q1]) ∧ St w0 Z (fs) w') := by
  refine calls_abs ?_; intro R hR
  unfold weirref08_Init.f at hp0
  refine calls_of_runs (fn := Tryd.f7) (c := cd7 []) Tryd.func7 (by kernel_rfl) (al := [.agg (enc_api_Init a0).toArray]) rfl (n := 20) rfl ?_
  refine sx_run 2 (todo' := [.inRegion (opsOf (cd7 [0])) [0, 1, 2], .code (cd7 [1])]) (us := []) (by kernel_rfl) ?_
  refine r_box (c := (cd7 [0])) (i := 0) (d := (some 1)) (ty := 0) (x := (.tmp 0)) (v := .agg (enc_api_Init a0).toArray) (t := 25) (cs := enc_api_Init a0) hS0 (by kernel_rfl) (by kernel_rfl) (by kernel_rfl) (by kernel_rfl) ?_
  intro b1 w2 hS3
  refine sx_run 6 (todo' := [.inRegion (opsOf (cd7 [1, 0])) [1, 2, 3, 4, 5, 6, 7], .code (cd7 [1, 1])]) (us := [(2, .string (⟨#[]⟩ : ByteArray)), (3, .int .i64 0), (7, .pointer (some ⟨b1, 0, none⟩))]) (by kernel_rfl) ?_
  refine r_load (c := (cd7 [1, 0])) (i := 1) (d := (some 8)) (ty := 23) (t := 23) (x := (.tmp 7)) (p := ⟨b1, 0, none⟩) (v := .agg (enc_api_Ref a0.Ref).toArray) (by kernel_rfl) (by kernel_rfl) (by kernel_rfl) (loads_agg (sub_api_Init_Ref (hS3.blk 0 rfl)) (by kernel_rfl) (by kernel_rfl)) ?_
  obtain ⟨⟨t5, t6⟩, hr7, hp8⟩ := bind_some' hp0
  try dsimp only at hp8
  refine r_call1 (c := (cd7 [1, 0])) (i := 2) (d := (some 9)) (g := 5) (args := #[.agg (enc_api_Ref a0.Ref).toArray]) (by kernel_rfl) (by kernel_rfl) (by kernel_rfl) (by kernel_rfl) (weirref08_Ref.ok a0.Ref hS3 hr7) ?_
  rintro _ w9 ⟨rfl, hS10⟩
  refine ⟨.tuple #[.string t5, .int .i64 t6], rfl, ?_⟩
  refine sx_split 11 (todo' := [.inRegion (opsOf (cd7 [1, 1, 0, 0])) [], .code (cd7 [1, 1, 0, 1]), .code (cd7 [1, 1, 1])]) (us := [(6, .tuple #[.string t5, .int .i64 t6]), (10, .string t5), (11, .int .i64 t6), (4, .string t5), (5, .int .i64 t6), (12, .int .i64 t6)]) (d := 13) (t := (t6 != 0)) (by kernel_rfl) (fun h11 => ?_) (fun h12 => ?_)
  ·skip
   have hp13 := ite_t hp8 h11
   refine sx_run 8 (todo' := [.code (cd7 [1, 1, 0, 1, 0, 1]), .code (cd7 [1, 1, 1])]) (us := [(14, .int .i64 t6), (2, .string (⟨#[]⟩ : ByteArray)), (3, .int .i64 t6)]) (by kernel_rfl) ?_
   have hS14 := hS10.drop
   refine runs_ret (fn := Tryd.f7) (v := .tuple #[.string (⟨#[]⟩ : ByteArray), .int .i64 t6]) Tryd.func7 (by kernel_rfl) ?_
   have hr15 := (Option.some.inj hp13)
   cases hr15
   exact hR _ _ ⟨rfl, hS14⟩
  ·skip
   have hp16 := ite_f hp8 h12
   refine sx_run 6 (todo' := [.inRegion (opsOf (cd7 [1, 1, 1, 0])) [1, 2, 3, 4, 5, 6, 7], .code (cd7 [1, 1, 1, 1])]) (us := [(15, .string t5)]) (by kernel_rfl) ?_
   obtain ⟨g17, hp18⟩ := ite_some hp16
   refine r_val (c := (cd7 [1, 1, 1, 0])) (i := 1) (d := (some 16)) (ty := 9) (op := .binOp .add 9 (.tmp 15) (.const (.string (⟨#[61]⟩ : ByteArray))) 9) (v := .string (t5 ++ (⟨#[61]⟩ : ByteArray))) (by kernel_rfl) (by kernel_rfl) (fun o ho _ => x_concat (by kernel_rfl) (by kernel_rfl) g17 ho) ?_
   refine sx_run 1 (todo' := [.inRegion (opsOf (cd7 [1, 1, 1, 0])) [3, 4, 5, 6, 7], .code (cd7 [1, 1, 1, 1])]) (us := [(17, .pointer (some ⟨b1, 2, none⟩))]) (by kernel_rfl) ?_
   refine r_load (c := (cd7 [1, 1, 1, 0])) (i := 3) (d := (some 18)) (ty := 2) (t := 2) (x := (.tmp 17)) (p := ⟨b1, 2, none⟩) (v := .int .i64 a0.Value) (by kernel_rfl) (by kernel_rfl) (by kernel_rfl) (loads_at 2 (hS10.blk 0 rfl) (by kernel_rfl) (by kernel_rfl)) ?_
   obtain ⟨t19, hr20, hp21⟩ := bind_some' hp18
   refine r_call1 (c := (cd7 [1, 1, 1, 0])) (i := 4) (d := (some 19)) (g := 14) (args := #[.int .i64 a0.Value]) (by kernel_rfl) (by kernel_rfl) (by kernel_rfl) (by kernel_rfl) (weirref04_Text.ok a0.Value hS10 hr20) ?_
   rintro _ w22 ⟨rfl, hS23⟩
   refine ⟨.string t19, rfl, ?_⟩
   obtain ⟨g24, hp25⟩ := ite_some hp21
   refine r_val (c := (cd7 [1, 1, 1, 0])) (i := 5) (d := (some 20)) (ty := 9) (op := .binOp .add 9 (.tmp 16) (.tmp 19) 9) (v := .string ((t5 ++ (⟨#[61]⟩ : ByteArray)) ++ t19)) (by kernel_rfl) (by kernel_rfl) (fun o ho _ => x_concat (by kernel_rfl) (by kernel_rfl) g24 ho) ?_
   refine sx_run 3 (todo' := [.code (cd7 [1, 1, 1, 1])]) (us := [(2, .string ((t5 ++ (⟨#[61]⟩ : ByteArray)) ++ t19)), (3, .int .i64 0)]) (by kernel_rfl) ?_
   have hS26 := hS23.drop
   refine runs_ret (fn := Tryd.f7) (v := .tuple #[.string ((t5 ++ (⟨#[61]⟩ : ByteArray)) ++ t19), .int .i64 0]) Tryd.func7 (by kernel_rfl) ?_
   have hr27 := (Option.some.inj hp25)
   cases hr27
   exact hR _ _ ⟨rfl, hS26⟩

noncomputable def cd17 (p : List Nat) : Code := sub (bodyOf Tryd.f17) p
def print_shape.f (a0 : Int) : Option ByteArray :=
  (if (a0 == 1) = true then some ((⟨#[77, 79, 86, 32, 82, 44, 36, 86]⟩ : ByteArray)) else (if (a0 == 2) = true then some ((⟨#[77, 79, 86, 32, 82, 44, 83]⟩ : ByteArray)) else (if (a0 == 3) = true then some ((⟨#[77, 79, 86, 32, 82, 44, 91, 76, 93]⟩ : ByteArray)) else (if (a0 == 4) = true then some ((⟨#[77, 79, 86, 32, 91, 76, 93, 44, 36, 86]⟩ : ByteArray)) else (if (a0 == 5) = true then some ((⟨#[77, 79, 86, 32, 91, 76, 93, 44, 83]⟩ : ByteArray)) else (if (a0 == 6) = true then some ((⟨#[77, 70, 69, 78, 67, 69]⟩ : ByteArray)) else (if (a0 == 7) = true then some ((⟨#[88, 67, 72, 71, 32, 91, 76, 93, 44, 82]⟩ : ByteArray)) else (if (a0 == 8) = true then some ((⟨#[76, 79, 67, 75, 32, 67, 77, 80, 88, 67, 72, 71, 32, 91, 76, 93, 44, 83]⟩ : ByteArray)) else (if (a0 == 9) = true then some ((⟨#[76, 79, 67, 75, 32, 88, 65, 68, 68, 32, 91, 76, 93, 44, 82]⟩ : ByteArray)) else some ((⟨#[]⟩ : ByteArray)))))))))))
set_option maxHeartbeats 16000000 in
theorem print_shape.ok (a0 : Int) {w0 : World} {Z : Zm} {fs : List XObj} {w : World} (hS0 : St w0 Z (fs) w) {q0 : ByteArray} (hp0 : print_shape.f a0 = some q0) :
    Calls Tryd.prog 17 #[.int .i64 a0] w (fun e w' => e = .returned (.string q0) ∧ St w0 Z (fs) w') := by
  refine calls_abs ?_; intro R hR
  unfold print_shape.f at hp0
  refine calls_of_runs (fn := Tryd.f17) (c := cd17 []) Tryd.func17 (by kernel_rfl) (al := [.int .i64 a0]) rfl (n := 21) rfl ?_
  refine sx_split 13 (todo' := [.inRegion (opsOf (cd17 [1, 0, 1, 0, 0])) [1], .code (cd17 [1, 0, 1, 0, 1]), .inBlock 0, .code (cd17 [1, 1])]) (us := [(2, .string (⟨#[]⟩ : ByteArray)), (3, .int .i64 a0)]) (d := 5) (t := (a0 == 1)) (by kernel_rfl) (fun h1 => ?_) (fun h2 => ?_)
  ·skip
   have hp3 := ite_t hp0 h1
   refine sx_run 7 (todo' := [.code (cd17 [1, 0, 1, 0, 1, 0, 1]), .inBlock 0, .code (cd17 [1, 1])]) (us := [(4, .bool true), (2, .string (⟨#[77, 79, 86, 32, 82, 44, 36, 86]⟩ : ByteArray))]) (by kernel_rfl) ?_
   refine runs_ret (fn := Tryd.f17) (v := .string (⟨#[77, 79, 86, 32, 82, 44, 36, 86]⟩ : ByteArray)) Tryd.func17 (by kernel_rfl) ?_
   have hr4 := (Option.some.inj hp3)
   cases hr4
   exact hR _ _ ⟨rfl, hS0⟩
  ·skip
   have hp5 := ite_f hp0 h2
   refine sx_split 6 (todo' := [.inRegion (opsOf (cd17 [1, 0, 1, 0, 1, 1, 0])) [1], .code (cd17 [1, 0, 1, 0, 1, 1, 1]), .inBlock 0, .code (cd17 [1, 1])]) (us := [(4, .bool false)]) (d := 7) (t := (a0 == 2)) (by kernel_rfl) (fun h6 => ?_) (fun h7 => ?_)
   ·skip
    have hp8 := ite_t hp5 h6
    refine sx_run 7 (todo' := [.code (cd17 [1, 0, 1, 0, 1, 1, 1, 0, 1]), .inBlock 0, .code (cd17 [1, 1])]) (us := [(6, .bool true), (2, .string (⟨#[77, 79, 86, 32, 82, 44, 83]⟩ : ByteArray))]) (by kernel_rfl) ?_
    refine runs_ret (fn := Tryd.f17) (v := .string (⟨#[77, 79, 86, 32, 82, 44, 83]⟩ : ByteArray)) Tryd.func17 (by kernel_rfl) ?_
    have hr9 := (Option.some.inj hp8)
    cases hr9
    exact hR _ _ ⟨rfl, hS0⟩
   ·skip
    have hp10 := ite_f hp5 h7
    refine sx_split 6 (todo' := [.inRegion (opsOf (cd17 [1, 0, 1, 0, 1, 1, 1, 1, 0])) [1], .code (cd17 [1, 0, 1, 0, 1, 1, 1, 1, 1]), .inBlock 0, .code (cd17 [1, 1])]) (us := [(6, .bool false)]) (d := 9) (t := (a0 == 3)) (by kernel_rfl) (fun h11 => ?_) (fun h12 => ?_)
    ·skip
     have hp13 := ite_t hp10 h11
     refine sx_run 7 (todo' := [.code (cd17 [1, 0, 1, 0, 1, 1, 1, 1, 1, 0, 1]), .inBlock 0, .code (cd17 [1, 1])]) (us := [(8, .bool true), (2, .string (⟨#[77, 79, 86, 32, 82, 44, 91, 76, 93]⟩ : ByteArray))]) (by kernel_rfl) ?_
     refine runs_ret (fn := Tryd.f17) (v := .string (⟨#[77, 79, 86, 32, 82, 44, 91, 76, 93]⟩ : ByteArray)) Tryd.func17 (by kernel_rfl) ?_
     have hr14 := (Option.some.inj hp13)
     cases hr14
     exact hR _ _ ⟨rfl, hS0⟩
    ·skip
     have hp15 := ite_f hp10 h12
     refine sx_split 6 (todo' := [.inRegion (opsOf (cd17 [1, 0, 1, 0, 1, 1, 1, 1, 1, 1, 0])) [1], .code (cd17 [1, 0, 1, 0, 1, 1, 1, 1, 1, 1, 1]), .inBlock 0, .code (cd17 [1, 1])]) (us := [(8, .bool false)]) (d := 11) (t := (a0 == 4)) (by kernel_rfl) (fun h16 => ?_) (fun h17 => ?_)
     ·skip
      have hp18 := ite_t hp15 h16
      refine sx_run 7 (todo' := [.code (cd17 [1, 0, 1, 0, 1, 1, 1, 1, 1, 1, 1, 0, 1]), .inBlock 0, .code (cd17 [1, 1])]) (us := [(10, .bool true), (2, .string (⟨#[77, 79, 86, 32, 91, 76, 93, 44, 36, 86]⟩ : ByteArray))]) (by kernel_rfl) ?_
      refine runs_ret (fn := Tryd.f17) (v := .string (⟨#[77, 79, 86, 32, 91, 76, 93, 44, 36, 86]⟩ : ByteArray)) Tryd.func17 (by kernel_rfl) ?_
      have hr19 := (Option.some.inj hp18)
      cases hr19
      exact hR _ _ ⟨rfl, hS0⟩
     ·skip
      have hp20 := ite_f hp15 h17
      refine sx_split 6 (todo' := [.inRegion (opsOf (cd17 [1, 0, 1, 0, 1, 1, 1, 1, 1, 1, 1, 1, 0])) [1], .code (cd17 [1, 0, 1, 0, 1, 1, 1, 1, 1, 1, 1, 1, 1]), .inBlock 0, .code (cd17 [1, 1])]) (us := [(10, .bool false)]) (d := 13) (t := (a0 == 5)) (by kernel_rfl) (fun h21 => ?_) (fun h22 => ?_)
      ·skip
       have hp23 := ite_t hp20 h21
       refine sx_run 7 (todo' := [.code (cd17 [1, 0, 1, 0, 1, 1, 1, 1, 1, 1, 1, 1, 1, 0, 1]), .inBlock 0, .code (cd17 [1, 1])]) (us := [(12, .bool true), (2, .string (⟨#[77, 79, 86, 32, 91, 76, 93, 44, 83]⟩ : ByteArray))]) (by kernel_rfl) ?_
       refine runs_ret (fn := Tryd.f17) (v := .string (⟨#[77, 79, 86, 32, 91, 76, 93, 44, 83]⟩ : ByteArray)) Tryd.func17 (by kernel_rfl) ?_
       have hr24 := (Option.some.inj hp23)
       cases hr24
       exact hR _ _ ⟨rfl, hS0⟩
      ·skip
       have hp25 := ite_f hp20 h22
       refine sx_split 6 (todo' := [.inRegion (opsOf (cd17 [1, 0, 1, 0, 1, 1, 1, 1, 1, 1, 1, 1, 1, 1, 0])) [1], .code (cd17 [1, 0, 1, 0, 1, 1, 1, 1, 1, 1, 1, 1, 1, 1, 1]), .inBlock 0, .code (cd17 [1, 1])]) (us := [(12, .bool false)]) (d := 15) (t := (a0 == 6)) (by kernel_rfl) (fun h26 => ?_) (fun h27 => ?_)
       ·skip
        have hp28 := ite_t hp25 h26
        refine sx_run 7 (todo' := [.code (cd17 [1, 0, 1, 0, 1, 1, 1, 1, 1, 1, 1, 1, 1, 1, 1, 0, 1]), .inBlock 0, .code (cd17 [1, 1])]) (us := [(14, .bool true), (2, .string (⟨#[77, 70, 69, 78, 67, 69]⟩ : ByteArray))]) (by kernel_rfl) ?_
        refine runs_ret (fn := Tryd.f17) (v := .string (⟨#[77, 70, 69, 78, 67, 69]⟩ : ByteArray)) Tryd.func17 (by kernel_rfl) ?_
        have hr29 := (Option.some.inj hp28)
        cases hr29
        exact hR _ _ ⟨rfl, hS0⟩
       ·skip
        have hp30 := ite_f hp25 h27
        refine sx_split 6 (todo' := [.inRegion (opsOf (cd17 [1, 0, 1, 0, 1, 1, 1, 1, 1, 1, 1, 1, 1, 1, 1, 1, 0])) [1], .code (cd17 [1, 0, 1, 0, 1, 1, 1, 1, 1, 1, 1, 1, 1, 1, 1, 1, 1]), .inBlock 0, .code (cd17 [1, 1])]) (us := [(14, .bool false)]) (d := 17) (t := (a0 == 7)) (by kernel_rfl) (fun h31 => ?_) (fun h32 => ?_)
        ·skip
         have hp33 := ite_t hp30 h31
         refine sx_run 7 (todo' := [.code (cd17 [1, 0, 1, 0, 1, 1, 1, 1, 1, 1, 1, 1, 1, 1, 1, 1, 1, 0, 1]), .inBlock 0, .code (cd17 [1, 1])]) (us := [(16, .bool true), (2, .string (⟨#[88, 67, 72, 71, 32, 91, 76, 93, 44, 82]⟩ : ByteArray))]) (by kernel_rfl) ?_
         refine runs_ret (fn := Tryd.f17) (v := .string (⟨#[88, 67, 72, 71, 32, 91, 76, 93, 44, 82]⟩ : ByteArray)) Tryd.func17 (by kernel_rfl) ?_
         have hr34 := (Option.some.inj hp33)
         cases hr34
         exact hR _ _ ⟨rfl, hS0⟩
        ·skip
         have hp35 := ite_f hp30 h32
         refine sx_split 6 (todo' := [.inRegion (opsOf (cd17 [1, 0, 1, 0, 1, 1, 1, 1, 1, 1, 1, 1, 1, 1, 1, 1, 1, 1, 0])) [1], .code (cd17 [1, 0, 1, 0, 1, 1, 1, 1, 1, 1, 1, 1, 1, 1, 1, 1, 1, 1, 1]), .inBlock 0, .code (cd17 [1, 1])]) (us := [(16, .bool false)]) (d := 19) (t := (a0 == 8)) (by kernel_rfl) (fun h36 => ?_) (fun h37 => ?_)
         ·skip
          have hp38 := ite_t hp35 h36
          refine sx_run 7 (todo' := [.code (cd17 [1, 0, 1, 0, 1, 1, 1, 1, 1, 1, 1, 1, 1, 1, 1, 1, 1, 1, 1, 0, 1]), .inBlock 0, .code (cd17 [1, 1])]) (us := [(18, .bool true), (2, .string (⟨#[76, 79, 67, 75, 32, 67, 77, 80, 88, 67, 72, 71, 32, 91, 76, 93, 44, 83]⟩ : ByteArray))]) (by kernel_rfl) ?_
          refine runs_ret (fn := Tryd.f17) (v := .string (⟨#[76, 79, 67, 75, 32, 67, 77, 80, 88, 67, 72, 71, 32, 91, 76, 93, 44, 83]⟩ : ByteArray)) Tryd.func17 (by kernel_rfl) ?_
          have hr39 := (Option.some.inj hp38)
          cases hr39
          exact hR _ _ ⟨rfl, hS0⟩
         ·skip
          have hp40 := ite_f hp35 h37
          refine sx_split 6 (todo' := [.inRegion (opsOf (cd17 [1, 0, 1, 0, 1, 1, 1, 1, 1, 1, 1, 1, 1, 1, 1, 1, 1, 1, 1, 1, 0])) [1], .code (cd17 [1, 0, 1, 0, 1, 1, 1, 1, 1, 1, 1, 1, 1, 1, 1, 1, 1, 1, 1, 1, 1]), .inBlock 0, .code (cd17 [1, 1])]) (us := [(18, .bool false)]) (d := 21) (t := (a0 == 9)) (by kernel_rfl) (fun h41 => ?_) (fun h42 => ?_)
          ·skip
           have hp43 := ite_t hp40 h41
           refine sx_run 7 (todo' := [.code (cd17 [1, 0, 1, 0, 1, 1, 1, 1, 1, 1, 1, 1, 1, 1, 1, 1, 1, 1, 1, 1, 1, 0, 1]), .inBlock 0, .code (cd17 [1, 1])]) (us := [(20, .bool true), (2, .string (⟨#[76, 79, 67, 75, 32, 88, 65, 68, 68, 32, 91, 76, 93, 44, 82]⟩ : ByteArray))]) (by kernel_rfl) ?_
           refine runs_ret (fn := Tryd.f17) (v := .string (⟨#[76, 79, 67, 75, 32, 88, 65, 68, 68, 32, 91, 76, 93, 44, 82]⟩ : ByteArray)) Tryd.func17 (by kernel_rfl) ?_
           have hr44 := (Option.some.inj hp43)
           cases hr44
           exact hR _ _ ⟨rfl, hS0⟩
          ·skip
           have hp45 := ite_f hp40 h42
           refine sx_run 9 (todo' := [.code (cd17 [1, 1, 1])]) (us := [(20, .bool false), (2, .string (⟨#[]⟩ : ByteArray))]) (by kernel_rfl) ?_
           refine runs_ret (fn := Tryd.f17) (v := .string (⟨#[]⟩ : ByteArray)) Tryd.func17 (by kernel_rfl) ?_
           have hr46 := (Option.some.inj hp45)
           cases hr46
           exact hR _ _ ⟨rfl, hS0⟩

noncomputable def cd16 (p : List Nat) : Code := sub (bodyOf Tryd.f16) p
def print_cutLast.f (a0 : ByteArray) : Option (ByteArray × ByteArray × Bool) :=
  (strings_LastIndexByte.f a0 32 >>= (fun t1 => (if (decide (t1 < 0)) = true then some ((a0, (⟨#[]⟩ : ByteArray), false)) else (if 0 ≤ (IntKind.i64.wrap (t1 + 1)) ∧ (IntKind.i64.wrap (t1 + 1)) ≤ (a0.size : Int) then (if 0 ≤ (IntKind.i64.wrap (t1 + 1)) ∧ (IntKind.i64.wrap (t1 + 1)) ≤ (a0.size : Int) then some (((a0.extract 0 (IntKind.i64.wrap (t1 + 1)).toNat), (a0.extract (IntKind.i64.wrap (t1 + 1)).toNat a0.size), true)) else none) else none))))
set_option maxHeartbeats 16000000 in
theorem print_cutLast.ok (a0 : ByteArray) {w0 : World} {Z : Zm} {fs : List XObj} {w : World} (hS0 : St w0 Z (fs) w) {q0 : ByteArray} {q1 : ByteArray} {q2 : Bool} (hp0 : print_cutLast.f a0 = some (q0, q1, q2)) :
    Calls Tryd.prog 16 #[.string a0] w (fun e w' => e = .returned (.tuple #[.string q0, .string q1, .bool q2]) ∧ St w0 Z (fs) w') := by
  refine calls_abs ?_; intro R hR
  unfold print_cutLast.f at hp0
  refine calls_of_runs (fn := Tryd.f16) (c := cd16 []) Tryd.func16 (by kernel_rfl) (al := [.string a0]) rfl (n := 18) rfl ?_
  refine sx_run 9 (todo' := [.inRegion (opsOf (cd16 [1, 0])) [1, 2], .code (cd16 [1, 1])]) (us := [(2, .string (⟨#[]⟩ : ByteArray)), (3, .string (⟨#[]⟩ : ByteArray)), (4, .bool false), (6, .string a0)]) (by kernel_rfl) ?_
  obtain ⟨t1, hr2, hp3⟩ := bind_some' hp0
  refine r_call1 (c := (cd16 [1, 0])) (i := 1) (d := (some 7)) (g := 28) (args := #[.string a0, .int .u8 32]) (by kernel_rfl) (by kernel_rfl) (by kernel_rfl) (by kernel_rfl) (strings_LastIndexByte.ok a0 32 hS0 hr2) ?_
  rintro _ w4 ⟨rfl, hS5⟩
  refine ⟨.int .i64 t1, rfl, ?_⟩
  refine sx_split 7 (todo' := [.inRegion (opsOf (cd16 [1, 1, 0, 0])) [], .code (cd16 [1, 1, 0, 1]), .code (cd16 [1, 1, 1])]) (us := [(5, .int .i64 t1), (8, .int .i64 t1)]) (d := 9) (t := (decide (t1 < 0))) (by kernel_rfl) (fun h6 => ?_) (fun h7 => ?_)
  ·skip
   have hp8 := ite_t hp3 h6
   refine sx_run 9 (todo' := [.code (cd16 [1, 1, 0, 1, 0, 1]), .code (cd16 [1, 1, 1])]) (us := [(10, .string a0), (2, .string a0), (3, .string (⟨#[]⟩ : ByteArray)), (4, .bool false)]) (by kernel_rfl) ?_
   refine runs_ret (fn := Tryd.f16) (v := .tuple #[.string a0, .string (⟨#[]⟩ : ByteArray), .bool false]) Tryd.func16 (by kernel_rfl) ?_
   have hr9 := (Option.some.inj hp8)
   cases hr9
   exact hR _ _ ⟨rfl, hS5⟩
  ·skip
   have hp10 := ite_f hp3 h7
   refine sx_run 4 (todo' := [.code (cd16 [1, 1, 1, 0]), .code (cd16 [1, 1, 1, 1])]) (us := []) (by kernel_rfl) ?_
   refine r_quiet hS5 (c := (cd16 [1, 1, 1, 0])) (id := 4) (by kernel_rfl) (by kernel_rfl) (by kernel_rfl) (is := [0, 1, 2, 3, 4, 5, 6, 7, 8, 9, 10]) (by kernel_rfl) ?_
   refine q_run 3 (is' := [3, 4, 5, 6, 7, 8, 9, 10]) (us := [(11, .string a0), (12, .int .i64 t1), (13, .int .i64 (IntKind.i64.wrap (t1 + 1)))]) (by kernel_rfl) ?_
   obtain ⟨g11, hp12⟩ := ite_some hp10
   refine q_val (c := (cd16 [1, 1, 1, 0])) (i := 3) (d := (some 14)) (ty := 9) (op := .slice 9 (.tmp 11) none (some (.tmp 13)) none) (v := .string (a0.extract 0 (IntKind.i64.wrap (t1 + 1)).toNat)) (by kernel_rfl) (by kernel_rfl) (fun w hC o ho _ => x_cutStr_ns (k := .i64) (by kernel_rfl) (by kernel_rfl) (by kernel_rfl) g11 ho) ?_
   refine q_run 3 (is' := [7, 8, 9, 10]) (us := [(15, .string a0), (16, .int .i64 t1), (17, .int .i64 (IntKind.i64.wrap (t1 + 1)))]) (by kernel_rfl) ?_
   obtain ⟨g13, hp14⟩ := ite_some hp12
   refine q_val (c := (cd16 [1, 1, 1, 0])) (i := 7) (d := (some 18)) (ty := 9) (op := .slice 9 (.tmp 15) (some (.tmp 17)) none none) (v := .string (a0.extract (IntKind.i64.wrap (t1 + 1)).toNat a0.size)) (by kernel_rfl) (by kernel_rfl) (fun w hC o ho _ => x_cutStr_sn (k := .i64) (by kernel_rfl) (by kernel_rfl) (by kernel_rfl) g13 ho) ?_
   refine q_run 3 (is' := []) (us := [(2, .string (a0.extract 0 (IntKind.i64.wrap (t1 + 1)).toNat)), (3, .string (a0.extract (IntKind.i64.wrap (t1 + 1)).toNat a0.size)), (4, .bool true)]) (by kernel_rfl) ?_
   refine Qs.nil ?_
   intro w15 hS16
   refine runs_ret (fn := Tryd.f16) (v := .tuple #[.string (a0.extract 0 (IntKind.i64.wrap (t1 + 1)).toNat), .string (a0.extract (IntKind.i64.wrap (t1 + 1)).toNat a0.size), .bool true]) Tryd.func16 (by kernel_rfl) ?_
   have hr17 := (Option.some.inj hp14)
   cases hr17
   exact hR _ _ ⟨rfl, hS16⟩

end
end Go.Proofs.YtmgjnplkpmcleaaDoor.K
