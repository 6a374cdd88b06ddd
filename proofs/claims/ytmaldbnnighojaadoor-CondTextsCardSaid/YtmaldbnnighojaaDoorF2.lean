/- The walk, part 2: each Go function as a plain Lean function, and that its call answers as that function says. No condition. -/
import Derived.Test.YtmaldbnnighojaaDoorE
import Derived.Test.YtmaldbnnighojaaDoorNM
import Derived.Test.YtmaldbnnighojaaDoorNV
import Derived.Test.YtmaldbnnighojaaDoorNB
import Derived.Test.YtmaldbnnighojaaDoorF1
set_option linter.unusedVariables false
set_option linter.unusedSimpArgs false
set_option maxRecDepth 100000
namespace Go.Proofs.YtmaldbnnighojaaDoor.K
open Go Go.RowKit
noncomputable section
noncomputable def cd35 (p : List Nat) : Code := sub (bodyOf Tryd.f35) p
def weirref05_name.l0 (a0 : ByteArray) (a1 : Int) (t28 : Int) : Option Int :=
  (if (decide ((IntKind.i64.wrap (a1 + t28)) < (a0.size : Int))) = true then (if 0 ≤ (IntKind.i64.wrap (a1 + t28)) ∧ (IntKind.i64.wrap (a1 + t28)) < (a0.size : Int) then (weirref05_letter.f (byt a0 (IntKind.i64.wrap (a1 + t28))) >>= (fun t43 => (((if t43 = true then some (true) else (weirref05_digit.f (byt a0 (IntKind.i64.wrap (a1 + t28))) >>= (fun t119 => (if t119 = true then some (true) else (if ((byt a0 (IntKind.i64.wrap (a1 + t28))) == 46) = true then some (true) else some (false)))))) : Option Bool) >>= (fun t51 => (((if ((byt a0 (IntKind.i64.wrap (a1 + t28))) == 43) = true then (if (decide ((IntKind.i64.wrap ((IntKind.i64.wrap (a1 + t28)) + 1)) < (a0.size : Int))) = true then (if 0 ≤ (IntKind.i64.wrap ((IntKind.i64.wrap (a1 + t28)) + 1)) ∧ (IntKind.i64.wrap ((IntKind.i64.wrap (a1 + t28)) + 1)) < (a0.size : Int) then (weirref05_letter.f (byt a0 (IntKind.i64.wrap ((IntKind.i64.wrap (a1 + t28)) + 1))) >>= (fun t78 => (if t78 = true then some (true) else (if 0 ≤ (IntKind.i64.wrap ((IntKind.i64.wrap (a1 + t28)) + 1)) ∧ (IntKind.i64.wrap ((IntKind.i64.wrap (a1 + t28)) + 1)) < (a0.size : Int) then (weirref05_digit.f (byt a0 (IntKind.i64.wrap ((IntKind.i64.wrap (a1 + t28)) + 1))) >>= (fun t86 => some (t86))) else none)))) else none) else some (t51)) else (if ((byt a0 (IntKind.i64.wrap (a1 + t28))) == 45) = true then (if (decide ((IntKind.i64.wrap ((IntKind.i64.wrap (a1 + t28)) + 1)) < (a0.size : Int))) = true then (if 0 ≤ (IntKind.i64.wrap ((IntKind.i64.wrap (a1 + t28)) + 1)) ∧ (IntKind.i64.wrap ((IntKind.i64.wrap (a1 + t28)) + 1)) < (a0.size : Int) then (weirref05_letter.f (byt a0 (IntKind.i64.wrap ((IntKind.i64.wrap (a1 + t28)) + 1))) >>= (fun t102 => (if t102 = true then some (true) else (if 0 ≤ (IntKind.i64.wrap ((IntKind.i64.wrap (a1 + t28)) + 1)) ∧ (IntKind.i64.wrap ((IntKind.i64.wrap (a1 + t28)) + 1)) < (a0.size : Int) then (weirref05_digit.f (byt a0 (IntKind.i64.wrap ((IntKind.i64.wrap (a1 + t28)) + 1))) >>= (fun t110 => some (t110))) else none)))) else none) else some (t51)) else some (t51))) : Option Bool) >>= (fun t60 => (if (!t60) = true then some (t28) else (weirref05_name.l0 a0 a1 (IntKind.i64.wrap (t28 + 1)))))))))) else none) else some (t28))
 partial_fixpoint
def weirref05_name.f (a0 : ByteArray) (a1 : Int) : Option Int :=
  (if (decide (a1 ≥ (a0.size : Int))) = true then some (0) else (if 0 ≤ a1 ∧ a1 < (a0.size : Int) then (weirref05_letter.f (byt a0 a1) >>= (fun t8 => (if (!t8) = true then some (0) else (weirref05_name.l0 a0 a1 1 >>= (fun t21 => some (t21)))))) else none))
set_option maxHeartbeats 16000000 in
theorem weirref05_name.ok (a0 : ByteArray) (a1 : Int) {w0 : World} {Z : Zm} {fs : List XObj} {w : World} (hS0 : St w0 Z (fs) w) {q0 : Int} (hp0 : weirref05_name.f a0 a1 = some q0) :
    Calls Tryd.prog 35 #[.string a0, .int .i64 a1] w (fun e w' => e = .returned (.int .i64 q0) ∧ St w0 Z (fs) w') := by
  refine calls_abs ?_; intro R hR
  unfold weirref05_name.f at hp0
  refine calls_of_runs (fn := Tryd.f35) (c := cd35 []) Tryd.func35 (by kernel_rfl) (al := [.string a0, .int .i64 a1]) rfl (n := 74) rfl ?_
  refine sx_split 11 (todo' := [.inRegion (opsOf (cd35 [1, 0, 0])) [4, 5, 6, 7, 8, 9, 10], .code (cd35 [1, 0, 1]), .code (cd35 [1, 1])]) (us := [(4, .int .i64 0), (8, .int .i64 a1), (9, .string a0), (10, .int .i64 (a0.size : Int))]) (d := 11) (t := (decide (a1 ≥ (a0.size : Int)))) (by kernel_rfl) (fun h1 => ?_) (fun h2 => ?_)
  ·skip
   have hp3 := ite_t hp0 h1
   refine sx_run 13 (todo' := [.code (cd35 [1, 0, 1, 0, 1]), .code (cd35 [1, 1])]) (us := [(12, .bool true), (13, undef), (14, undef), (15, undef), (16, undef), (17, undef), (18, .bool true), (4, .int .i64 0)]) (by kernel_rfl) ?_
   refine runs_ret (fn := Tryd.f35) (v := .int .i64 0) Tryd.func35 (by kernel_rfl) ?_
   have hr4 := (Option.some.inj hp3)
   cases hr4
   exact hR _ _ ⟨rfl, hS0⟩
  ·skip
   have hp5 := ite_f hp0 h2
   refine sx_run 3 (todo' := [.inRegion (opsOf (cd35 [1, 0, 0])) [7, 8, 9, 10], .code (cd35 [1, 0, 1]), .code (cd35 [1, 1])]) (us := [(12, .bool false), (13, .string a0), (14, .int .i64 a1)]) (by kernel_rfl) ?_
   obtain ⟨g6, hp7⟩ := ite_some hp5
   refine r_val (c := (cd35 [1, 0, 0])) (i := 7) (d := (some 15)) (ty := 5) (op := .index 9 (.tmp 13) (.tmp 14)) (v := .int .u8 (byt a0 a1)) (by kernel_rfl) (by kernel_rfl) (fun o ho _ => x_indexStr (kk := .i64) (by kernel_rfl) (by kernel_rfl) (by kernel_rfl) g6.1 g6.2 ho) ?_
   obtain ⟨t8, hr9, hp10⟩ := bind_some' hp7
   refine r_call1 (c := (cd35 [1, 0, 0])) (i := 8) (d := (some 16)) (g := 40) (args := #[.int .u8 (byt a0 a1)]) (by kernel_rfl) (by kernel_rfl) (by kernel_rfl) (by kernel_rfl) (weirref05_letter.ok (byt a0 a1) hS0 hr9) ?_
   rintro _ w11 ⟨rfl, hS12⟩
   refine ⟨.bool t8, rfl, ?_⟩
   refine sx_split 1 (todo' := [.inRegion (opsOf (cd35 [1, 0, 0])) [10], .code (cd35 [1, 0, 1]), .code (cd35 [1, 1])]) (us := []) (d := 17) (t := (!t8)) (by kernel_rfl) (fun h13 => ?_) (fun h14 => ?_)
   ·skip
    have hp15 := ite_t hp10 h13
    refine sx_run 7 (todo' := [.code (cd35 [1, 0, 1, 0, 1]), .code (cd35 [1, 1])]) (us := [(18, .bool true), (4, .int .i64 0)]) (by kernel_rfl) ?_
    refine runs_ret (fn := Tryd.f35) (v := .int .i64 0) Tryd.func35 (by kernel_rfl) ?_
    have hr16 := (Option.some.inj hp15)
    cases hr16
    exact hR _ _ ⟨rfl, hS12⟩
   ·skip
    have hp17 := ite_f hp10 h14
    refine sx_run 11 (todo' := [.code (cd35 [1, 1, 1, 0, 0, 0]), .inLoop (cd35 [1, 1, 1, 0, 0, 0]), .inBlock 0, .code (cd35 [1, 1, 1, 1])]) (us := [(18, .bool false), (5, .int .i64 1)]) (by kernel_rfl) ?_
    obtain ⟨v18, hv19, hp20⟩ := bind_some' hp17
    have J24 : ∀ (t21 : Int) (he26 : t21 = v18) (l25 : List Value) (w22 : World) (hS23 : St w0 Z (fs) w22), Runs Tryd.prog 35 [.code (cd35 [1, 1, 1, 1])] (fill [none, none, none, none, none, some (.int .i64 t21), none, none, none, none, none, none, none, none, none, none, none, none, none, none, none, none, none, none, none, none, none, none, none, none, none, none, none, none, none, none, none, none, none, none, none, none, none, none, none, none, none, none, none, none, none, none, none, none, none, none, none, none, none, none, none, none, none, none, none, none, none, none, none, none, none, none, none, none, none, none] l25) w22 R := by
     intro t21 he26 l25 w22 hS23
     subst he26
     try dsimp only at hp20
     refine sx_run 5 (todo' := [.code (cd35 [1, 1, 1, 1, 1])]) (us := [(75, .int .i64 t21), (4, .int .i64 t21)]) (by kernel_rfl) ?_
     refine runs_ret (fn := Tryd.f35) (v := .int .i64 t21) Tryd.func35 (by kernel_rfl) ?_
     have hr27 := (Option.some.inj hp20)
     cases hr27
     exact hR _ _ ⟨rfl, hS23⟩
    have L37 : ∀ (t28 : Int) (e32 : Int), weirref05_name.l0 a0 a1 t28 = some e32 → e32 = v18 → ∀ (l31 : List Value) (w29 : World) (hS30 : St w0 Z (fs) w29), Runs Tryd.prog 35 [.code (cd35 [1, 1, 1, 0, 0, 0]), .inLoop (cd35 [1, 1, 1, 0, 0, 0]), .inBlock 0, .code (cd35 [1, 1, 1, 1])] (fill [some (.string a0), some (.int .i64 a1), none, none, none, some (.int .i64 t28), none, none, none, none, none, none, none, none, none, none, none, none, none, none, none, none, none, none, none, none, none, none, none, none, none, none, none, none, none, none, none, none, none, none, none, none, none, none, none, none, none, none, none, none, none, none, none, none, none, none, none, none, none, none, none, none, none, none, none, none, none, none, none, none, none, none, none, none, none, none] l31) w29 R := by
     refine weirref05_name.l0.partial_correctness a0 a1 (fun t28 e32 => e32 = v18 → ∀ (l31 : List Value) (w29 : World) (hS30 : St w0 Z (fs) w29), Runs Tryd.prog 35 [.code (cd35 [1, 1, 1, 0, 0, 0]), .inLoop (cd35 [1, 1, 1, 0, 0, 0]), .inBlock 0, .code (cd35 [1, 1, 1, 1])] (fill [some (.string a0), some (.int .i64 a1), none, none, none, some (.int .i64 t28), none, none, none, none, none, none, none, none, none, none, none, none, none, none, none, none, none, none, none, none, none, none, none, none, none, none, none, none, none, none, none, none, none, none, none, none, none, none, none, none, none, none, none, none, none, none, none, none, none, none, none, none, none, none, none, none, none, none, none, none, none, none, none, none, none, none, none, none, none, none] l31) w29 R) ?_
     intro rec36 ih35 t28 e32 hb34 he33 l31 w29 hS30
     refine sx_split 9 (todo' := [.inRegion (opsOf (cd35 [1, 1, 1, 0, 0, 0, 0, 0])) [], .code (cd35 [1, 1, 1, 0, 0, 0, 0, 1]), .code (cd35 [1, 1, 1, 0, 0, 0, 1]), .inLoop (cd35 [1, 1, 1, 0, 0, 0]), .inBlock 0, .code (cd35 [1, 1, 1, 1])]) (us := [(19, .int .i64 a1), (20, .int .i64 t28), (21, .int .i64 (IntKind.i64.wrap (a1 + t28))), (22, .string a0), (23, .int .i64 (a0.size : Int))]) (d := 24) (t := (decide ((IntKind.i64.wrap (a1 + t28)) < (a0.size : Int)))) (by kernel_rfl) (fun h38 => ?_) (fun h39 => ?_)
     ·skip
      have hp40 := ite_t hb34 h38
      refine sx_run 10 (todo' := [.inRegion (opsOf (cd35 [1, 1, 1, 0, 0, 0, 1, 0, 0])) [4, 5], .code (cd35 [1, 1, 1, 0, 0, 0, 1, 0, 1]), .inBlock 1, .inLoop (cd35 [1, 1, 1, 0, 0, 0]), .inBlock 0, .code (cd35 [1, 1, 1, 1])]) (us := [(25, .string a0), (26, .int .i64 a1), (27, .int .i64 t28), (28, .int .i64 (IntKind.i64.wrap (a1 + t28)))]) (by kernel_rfl) ?_
      obtain ⟨g41, hp42⟩ := ite_some hp40
      refine r_val (c := (cd35 [1, 1, 1, 0, 0, 0, 1, 0, 0])) (i := 4) (d := (some 29)) (ty := 5) (op := .index 9 (.tmp 25) (.tmp 28)) (v := .int .u8 (byt a0 (IntKind.i64.wrap (a1 + t28)))) (by kernel_rfl) (by kernel_rfl) (fun o ho _ => x_indexStr (kk := .i64) (by kernel_rfl) (by kernel_rfl) (by kernel_rfl) g41.1 g41.2 ho) ?_
      refine sx_run 5 (todo' := [.inRegion (opsOf (cd35 [1, 1, 1, 0, 0, 0, 1, 0, 1, 0])) [1, 2, 3, 4, 5, 6, 7, 8, 9, 10], .code (cd35 [1, 1, 1, 0, 0, 0, 1, 0, 1, 1]), .inBlock 1, .inLoop (cd35 [1, 1, 1, 0, 0, 0]), .inBlock 0, .code (cd35 [1, 1, 1, 1])]) (us := [(6, .int .u8 (byt a0 (IntKind.i64.wrap (a1 + t28)))), (30, .int .u8 (byt a0 (IntKind.i64.wrap (a1 + t28))))]) (by kernel_rfl) ?_
      obtain ⟨t43, hr44, hp45⟩ := bind_some' hp42
      refine r_call1 (c := (cd35 [1, 1, 1, 0, 0, 0, 1, 0, 1, 0])) (i := 1) (d := (some 31)) (g := 40) (args := #[.int .u8 (byt a0 (IntKind.i64.wrap (a1 + t28)))]) (by kernel_rfl) (by kernel_rfl) (by kernel_rfl) (by kernel_rfl) (weirref05_letter.ok (byt a0 (IntKind.i64.wrap (a1 + t28))) hS30 hr44) ?_
      rintro _ w46 ⟨rfl, hS47⟩
      refine ⟨.bool t43, rfl, ?_⟩
      refine sx_run 1 (todo' := [.inRegion (opsOf (cd35 [1, 1, 1, 0, 0, 0, 1, 0, 1, 0])) [3, 4, 5, 6, 7, 8, 9, 10], .code (cd35 [1, 1, 1, 0, 0, 0, 1, 0, 1, 1]), .inBlock 1, .inLoop (cd35 [1, 1, 1, 0, 0, 0]), .inBlock 0, .code (cd35 [1, 1, 1, 1])]) (us := [(32, .bool t43)]) (by kernel_rfl) ?_
      obtain ⟨v48, hv49, hp50⟩ := bind_some' hp45
      have J54 : ∀ (t51 : Bool) (he56 : t51 = v48) (l55 : List Value) (w52 : World) (hS53 : St w0 Z (fs) w52), Runs Tryd.prog 35 [.code (cd35 [1, 1, 1, 0, 0, 0, 1, 0, 1, 1, 0, 0]), .code (cd35 [1, 1, 1, 0, 0, 0, 1, 0, 1, 1, 0, 1]), .code (cd35 [1, 1, 1, 0, 0, 0, 1, 0, 1, 1, 1]), .inBlock 1, .inLoop (cd35 [1, 1, 1, 0, 0, 0]), .inBlock 0, .code (cd35 [1, 1, 1, 1])] (fill [some (.string a0), some (.int .i64 a1), none, none, none, some (.int .i64 t28), some (.int .u8 (byt a0 (IntKind.i64.wrap (a1 + t28)))), some (.bool t51), none, none, none, none, none, none, none, none, none, none, none, none, none, none, none, none, none, none, none, none, none, none, none, none, none, none, none, none, none, none, none, none, none, none, none, none, none, none, none, none, none, none, none, none, none, none, none, none, none, none, none, none, none, none, none, none, none, none, none, none, none, none, none, none, none, none, none, none] l55) w52 R := by
       intro t51 he56 l55 w52 hS53
       subst he56
       try dsimp only at hp50
       obtain ⟨v57, hv58, hp59⟩ := bind_some' hp50
       have J63 : ∀ (t60 : Bool) (he65 : t60 = v57) (l64 : List Value) (w61 : World) (hS62 : St w0 Z (fs) w61), Runs Tryd.prog 35 [.code (cd35 [1, 1, 1, 0, 0, 0, 1, 0, 1, 1, 1]), .inBlock 1, .inLoop (cd35 [1, 1, 1, 0, 0, 0]), .inBlock 0, .code (cd35 [1, 1, 1, 1])] (fill [some (.string a0), some (.int .i64 a1), none, none, none, some (.int .i64 t28), none, some (.bool t60), none, none, none, none, none, none, none, none, none, none, none, none, none, none, none, none, none, none, none, none, none, none, none, none, none, none, none, none, none, none, none, none, none, none, none, none, none, none, none, none, none, none, none, none, none, none, none, none, none, none, none, none, none, none, none, none, none, none, none, none, none, none, none, none, none, none, none, none] l64) w61 R := by
        intro t60 he65 l64 w61 hS62
        subst he65
        try dsimp only at hp59
        refine sx_split 5 (todo' := [.inRegion (opsOf (cd35 [1, 1, 1, 0, 0, 0, 1, 0, 1, 1, 1, 0, 0])) [], .code (cd35 [1, 1, 1, 0, 0, 0, 1, 0, 1, 1, 1, 0, 1]), .code (cd35 [1, 1, 1, 0, 0, 0, 1, 0, 1, 1, 1, 1]), .inBlock 1, .inLoop (cd35 [1, 1, 1, 0, 0, 0]), .inBlock 0, .code (cd35 [1, 1, 1, 1])]) (us := [(71, .bool t60)]) (d := 72) (t := (!t60)) (by kernel_rfl) (fun h66 => ?_) (fun h67 => ?_)
        ·skip
         have hp68 := ite_t hp59 h66
         refine sx_run 3 (todo' := [.code (cd35 [1, 1, 1, 1])]) (us := []) (by kernel_rfl) ?_
         refine Runs.fill (m := [none, none, none, none, none, some (.int .i64 t28), none, none, none, none, none, none, none, none, none, none, none, none, none, none, none, none, none, none, none, none, none, none, none, none, none, none, none, none, none, none, none, none, none, none, none, none, none, none, none, none, none, none, none, none, none, none, none, none, none, none, none, none, none, none, none, none, none, none, none, none, none, none, none, none, none, none, none, none, none, none]) (by kernel_rfl) ?_
         exact J24 t28 ((Option.some.inj hp68).trans he33) _ _ hS62
        ·skip
         have hp69 := ite_f hp59 h67
         refine sx_run 9 (todo' := [.inLoop (cd35 [1, 1, 1, 0, 0, 0]), .inBlock 0, .code (cd35 [1, 1, 1, 1])]) (us := [(73, .int .i64 t28), (74, .int .i64 (IntKind.i64.wrap (t28 + 1))), (5, .int .i64 (IntKind.i64.wrap (t28 + 1)))]) (by kernel_rfl) ?_
         refine sx_run 1 (todo' := [.code (cd35 [1, 1, 1, 0, 0, 0]), .inLoop (cd35 [1, 1, 1, 0, 0, 0]), .inBlock 0, .code (cd35 [1, 1, 1, 1])]) (us := []) (by kernel_rfl) ?_
         refine Runs.fill (m := [some (.string a0), some (.int .i64 a1), none, none, none, some (.int .i64 (IntKind.i64.wrap (t28 + 1))), none, none, none, none, none, none, none, none, none, none, none, none, none, none, none, none, none, none, none, none, none, none, none, none, none, none, none, none, none, none, none, none, none, none, none, none, none, none, none, none, none, none, none, none, none, none, none, none, none, none, none, none, none, none, none, none, none, none, none, none, none, none, none, none, none, none, none, none, none, none]) (by kernel_rfl) ?_
         exact ih35 (IntKind.i64.wrap (t28 + 1)) _ hp69 he33 _ _ hS62
       refine sx_split 3 (todo' := [.inRegion (opsOf (cd35 [1, 1, 1, 0, 0, 0, 1, 0, 1, 1, 0, 0])) [2, 3, 4, 5, 6, 7, 8, 9, 10, 11, 12, 13, 14], .code (cd35 [1, 1, 1, 0, 0, 0, 1, 0, 1, 1, 0, 1]), .code (cd35 [1, 1, 1, 0, 0, 0, 1, 0, 1, 1, 1]), .inBlock 1, .inLoop (cd35 [1, 1, 1, 0, 0, 0]), .inBlock 0, .code (cd35 [1, 1, 1, 1])]) (us := [(40, .int .u8 (byt a0 (IntKind.i64.wrap (a1 + t28))))]) (d := 41) (t := ((byt a0 (IntKind.i64.wrap (a1 + t28))) == 43)) (by kernel_rfl) (fun h70 => ?_) (fun h71 => ?_)
       ·skip
        have hp72 := ite_t hv58 h70
        refine sx_split 12 (todo' := [.inRegion (opsOf (cd35 [1, 1, 1, 0, 0, 0, 1, 0, 1, 1, 0, 0])) [14], .code (cd35 [1, 1, 1, 0, 0, 0, 1, 0, 1, 1, 0, 1]), .code (cd35 [1, 1, 1, 0, 0, 0, 1, 0, 1, 1, 1]), .inBlock 1, .inLoop (cd35 [1, 1, 1, 0, 0, 0]), .inBlock 0, .code (cd35 [1, 1, 1, 1])]) (us := [(42, .bool true), (43, undef), (44, undef), (45, .bool true), (46, .bool true), (47, .int .i64 a1), (48, .int .i64 t28), (49, .int .i64 (IntKind.i64.wrap (a1 + t28))), (50, .int .i64 (IntKind.i64.wrap ((IntKind.i64.wrap (a1 + t28)) + 1))), (51, .string a0), (52, .int .i64 (a0.size : Int))]) (d := 53) (t := (decide ((IntKind.i64.wrap ((IntKind.i64.wrap (a1 + t28)) + 1)) < (a0.size : Int)))) (by kernel_rfl) (fun h73 => ?_) (fun h74 => ?_)
        ·skip
         have hp75 := ite_t hp72 h73
         refine sx_run 9 (todo' := [.inRegion (opsOf (cd35 [1, 1, 1, 0, 0, 0, 1, 0, 1, 1, 0, 1, 0])) [5, 6, 7, 8, 9, 10, 11, 12, 13, 14, 15, 16], .code (cd35 [1, 1, 1, 0, 0, 0, 1, 0, 1, 1, 1]), .inBlock 1, .inLoop (cd35 [1, 1, 1, 0, 0, 0]), .inBlock 0, .code (cd35 [1, 1, 1, 1])]) (us := [(54, .bool true), (55, .string a0), (56, .int .i64 a1), (57, .int .i64 t28), (58, .int .i64 (IntKind.i64.wrap (a1 + t28))), (59, .int .i64 (IntKind.i64.wrap ((IntKind.i64.wrap (a1 + t28)) + 1)))]) (by kernel_rfl) ?_
         obtain ⟨g76, hp77⟩ := ite_some hp75
         refine r_val (c := (cd35 [1, 1, 1, 0, 0, 0, 1, 0, 1, 1, 0, 1, 0])) (i := 5) (d := (some 60)) (ty := 5) (op := .index 9 (.tmp 55) (.tmp 59)) (v := .int .u8 (byt a0 (IntKind.i64.wrap ((IntKind.i64.wrap (a1 + t28)) + 1)))) (by kernel_rfl) (by kernel_rfl) (fun o ho _ => x_indexStr (kk := .i64) (by kernel_rfl) (by kernel_rfl) (by kernel_rfl) g76.1 g76.2 ho) ?_
         obtain ⟨t78, hr79, hp80⟩ := bind_some' hp77
         refine r_call1 (c := (cd35 [1, 1, 1, 0, 0, 0, 1, 0, 1, 1, 0, 1, 0])) (i := 6) (d := (some 61)) (g := 40) (args := #[.int .u8 (byt a0 (IntKind.i64.wrap ((IntKind.i64.wrap (a1 + t28)) + 1)))]) (by kernel_rfl) (by kernel_rfl) (by kernel_rfl) (by kernel_rfl) (weirref05_letter.ok (byt a0 (IntKind.i64.wrap ((IntKind.i64.wrap (a1 + t28)) + 1))) hS53 hr79) ?_
         rintro _ w81 ⟨rfl, hS82⟩
         refine ⟨.bool t78, rfl, ?_⟩
         refine sx_run 1 (todo' := [.inRegion (opsOf (cd35 [1, 1, 1, 0, 0, 0, 1, 0, 1, 1, 0, 1, 0])) [8, 9, 10, 11, 12, 13, 14, 15, 16], .code (cd35 [1, 1, 1, 0, 0, 0, 1, 0, 1, 1, 1]), .inBlock 1, .inLoop (cd35 [1, 1, 1, 0, 0, 0]), .inBlock 0, .code (cd35 [1, 1, 1, 1])]) (us := [(62, .bool t78)]) (by kernel_rfl) ?_
         cases t78
         ·skip
          have hp83 := ite_f hp80 rfl
          refine sx_run 5 (todo' := [.inRegion (opsOf (cd35 [1, 1, 1, 0, 0, 0, 1, 0, 1, 1, 0, 1, 0])) [13, 14, 15, 16], .code (cd35 [1, 1, 1, 0, 0, 0, 1, 0, 1, 1, 1]), .inBlock 1, .inLoop (cd35 [1, 1, 1, 0, 0, 0]), .inBlock 0, .code (cd35 [1, 1, 1, 1])]) (us := [(63, .string a0), (64, .int .i64 a1), (65, .int .i64 t28), (66, .int .i64 (IntKind.i64.wrap (a1 + t28))), (67, .int .i64 (IntKind.i64.wrap ((IntKind.i64.wrap (a1 + t28)) + 1)))]) (by kernel_rfl) ?_
          obtain ⟨g84, hp85⟩ := ite_some hp83
          refine r_val (c := (cd35 [1, 1, 1, 0, 0, 0, 1, 0, 1, 1, 0, 1, 0])) (i := 13) (d := (some 68)) (ty := 5) (op := .index 9 (.tmp 63) (.tmp 67)) (v := .int .u8 (byt a0 (IntKind.i64.wrap ((IntKind.i64.wrap (a1 + t28)) + 1)))) (by kernel_rfl) (by kernel_rfl) (fun o ho _ => x_indexStr (kk := .i64) (by kernel_rfl) (by kernel_rfl) (by kernel_rfl) g84.1 g84.2 ho) ?_
          obtain ⟨t86, hr87, hp88⟩ := bind_some' hp85
          refine r_call1 (c := (cd35 [1, 1, 1, 0, 0, 0, 1, 0, 1, 1, 0, 1, 0])) (i := 14) (d := (some 69)) (g := 41) (args := #[.int .u8 (byt a0 (IntKind.i64.wrap ((IntKind.i64.wrap (a1 + t28)) + 1)))]) (by kernel_rfl) (by kernel_rfl) (by kernel_rfl) (by kernel_rfl) (weirref05_digit.ok (byt a0 (IntKind.i64.wrap ((IntKind.i64.wrap (a1 + t28)) + 1))) hS82 hr87) ?_
          rintro _ w89 ⟨rfl, hS90⟩
          refine ⟨.bool t86, rfl, ?_⟩
          refine sx_run 3 (todo' := [.code (cd35 [1, 1, 1, 0, 0, 0, 1, 0, 1, 1, 1]), .inBlock 1, .inLoop (cd35 [1, 1, 1, 0, 0, 0]), .inBlock 0, .code (cd35 [1, 1, 1, 1])]) (us := [(70, .bool t86), (7, .bool t86)]) (by kernel_rfl) ?_
          refine Runs.fill (m := [some (.string a0), some (.int .i64 a1), none, none, none, some (.int .i64 t28), none, some (.bool t86), none, none, none, none, none, none, none, none, none, none, none, none, none, none, none, none, none, none, none, none, none, none, none, none, none, none, none, none, none, none, none, none, none, none, none, none, none, none, none, none, none, none, none, none, none, none, none, none, none, none, none, none, none, none, none, none, none, none, none, none, none, none, none, none, none, none, none, none]) (by kernel_rfl) ?_
          exact J63 t86 (Option.some.inj hp88) _ _ hS90
         ·skip
          have hp91 := ite_t hp80 rfl
          refine sx_run 10 (todo' := [.code (cd35 [1, 1, 1, 0, 0, 0, 1, 0, 1, 1, 1]), .inBlock 1, .inLoop (cd35 [1, 1, 1, 0, 0, 0]), .inBlock 0, .code (cd35 [1, 1, 1, 1])]) (us := [(63, undef), (64, undef), (65, undef), (66, undef), (67, undef), (68, undef), (69, undef), (70, .bool true), (7, .bool true)]) (by kernel_rfl) ?_
          refine Runs.fill (m := [some (.string a0), some (.int .i64 a1), none, none, none, some (.int .i64 t28), none, some (.bool true), none, none, none, none, none, none, none, none, none, none, none, none, none, none, none, none, none, none, none, none, none, none, none, none, none, none, none, none, none, none, none, none, none, none, none, none, none, none, none, none, none, none, none, none, none, none, none, none, none, none, none, none, none, none, none, none, none, none, none, none, none, none, none, none, none, none, none, none]) (by kernel_rfl) ?_
          exact J63 true (Option.some.inj hp91) _ _ hS82
        ·skip
         have hp92 := ite_f hp72 h74
         refine sx_run 4 (todo' := [.code (cd35 [1, 1, 1, 0, 0, 0, 1, 0, 1, 1, 1]), .inBlock 1, .inLoop (cd35 [1, 1, 1, 0, 0, 0]), .inBlock 0, .code (cd35 [1, 1, 1, 1])]) (us := [(54, .bool false)]) (by kernel_rfl) ?_
         refine Runs.fill (m := [some (.string a0), some (.int .i64 a1), none, none, none, some (.int .i64 t28), none, some (.bool t51), none, none, none, none, none, none, none, none, none, none, none, none, none, none, none, none, none, none, none, none, none, none, none, none, none, none, none, none, none, none, none, none, none, none, none, none, none, none, none, none, none, none, none, none, none, none, none, none, none, none, none, none, none, none, none, none, none, none, none, none, none, none, none, none, none, none, none, none]) (by kernel_rfl) ?_
         exact J63 t51 (Option.some.inj hp92) _ _ hS53
       ·skip
        have hp93 := ite_f hv58 h71
        refine sx_split 3 (todo' := [.inRegion (opsOf (cd35 [1, 1, 1, 0, 0, 0, 1, 0, 1, 1, 0, 0])) [5, 6, 7, 8, 9, 10, 11, 12, 13, 14], .code (cd35 [1, 1, 1, 0, 0, 0, 1, 0, 1, 1, 0, 1]), .code (cd35 [1, 1, 1, 0, 0, 0, 1, 0, 1, 1, 1]), .inBlock 1, .inLoop (cd35 [1, 1, 1, 0, 0, 0]), .inBlock 0, .code (cd35 [1, 1, 1, 1])]) (us := [(42, .bool false), (43, .int .u8 (byt a0 (IntKind.i64.wrap (a1 + t28))))]) (d := 44) (t := ((byt a0 (IntKind.i64.wrap (a1 + t28))) == 45)) (by kernel_rfl) (fun h94 => ?_) (fun h95 => ?_)
        ·skip
         have hp96 := ite_t hp93 h94
         refine sx_split 9 (todo' := [.inRegion (opsOf (cd35 [1, 1, 1, 0, 0, 0, 1, 0, 1, 1, 0, 0])) [14], .code (cd35 [1, 1, 1, 0, 0, 0, 1, 0, 1, 1, 0, 1]), .code (cd35 [1, 1, 1, 0, 0, 0, 1, 0, 1, 1, 1]), .inBlock 1, .inLoop (cd35 [1, 1, 1, 0, 0, 0]), .inBlock 0, .code (cd35 [1, 1, 1, 1])]) (us := [(45, .bool true), (46, .bool true), (47, .int .i64 a1), (48, .int .i64 t28), (49, .int .i64 (IntKind.i64.wrap (a1 + t28))), (50, .int .i64 (IntKind.i64.wrap ((IntKind.i64.wrap (a1 + t28)) + 1))), (51, .string a0), (52, .int .i64 (a0.size : Int))]) (d := 53) (t := (decide ((IntKind.i64.wrap ((IntKind.i64.wrap (a1 + t28)) + 1)) < (a0.size : Int)))) (by kernel_rfl) (fun h97 => ?_) (fun h98 => ?_)
         ·skip
          have hp99 := ite_t hp96 h97
          refine sx_run 9 (todo' := [.inRegion (opsOf (cd35 [1, 1, 1, 0, 0, 0, 1, 0, 1, 1, 0, 1, 0])) [5, 6, 7, 8, 9, 10, 11, 12, 13, 14, 15, 16], .code (cd35 [1, 1, 1, 0, 0, 0, 1, 0, 1, 1, 1]), .inBlock 1, .inLoop (cd35 [1, 1, 1, 0, 0, 0]), .inBlock 0, .code (cd35 [1, 1, 1, 1])]) (us := [(54, .bool true), (55, .string a0), (56, .int .i64 a1), (57, .int .i64 t28), (58, .int .i64 (IntKind.i64.wrap (a1 + t28))), (59, .int .i64 (IntKind.i64.wrap ((IntKind.i64.wrap (a1 + t28)) + 1)))]) (by kernel_rfl) ?_
          obtain ⟨g100, hp101⟩ := ite_some hp99
          refine r_val (c := (cd35 [1, 1, 1, 0, 0, 0, 1, 0, 1, 1, 0, 1, 0])) (i := 5) (d := (some 60)) (ty := 5) (op := .index 9 (.tmp 55) (.tmp 59)) (v := .int .u8 (byt a0 (IntKind.i64.wrap ((IntKind.i64.wrap (a1 + t28)) + 1)))) (by kernel_rfl) (by kernel_rfl) (fun o ho _ => x_indexStr (kk := .i64) (by kernel_rfl) (by kernel_rfl) (by kernel_rfl) g100.1 g100.2 ho) ?_
          obtain ⟨t102, hr103, hp104⟩ := bind_some' hp101
          refine r_call1 (c := (cd35 [1, 1, 1, 0, 0, 0, 1, 0, 1, 1, 0, 1, 0])) (i := 6) (d := (some 61)) (g := 40) (args := #[.int .u8 (byt a0 (IntKind.i64.wrap ((IntKind.i64.wrap (a1 + t28)) + 1)))]) (by kernel_rfl) (by kernel_rfl) (by kernel_rfl) (by kernel_rfl) (weirref05_letter.ok (byt a0 (IntKind.i64.wrap ((IntKind.i64.wrap (a1 + t28)) + 1))) hS53 hr103) ?_
          rintro _ w105 ⟨rfl, hS106⟩
          refine ⟨.bool t102, rfl, ?_⟩
          refine sx_run 1 (todo' := [.inRegion (opsOf (cd35 [1, 1, 1, 0, 0, 0, 1, 0, 1, 1, 0, 1, 0])) [8, 9, 10, 11, 12, 13, 14, 15, 16], .code (cd35 [1, 1, 1, 0, 0, 0, 1, 0, 1, 1, 1]), .inBlock 1, .inLoop (cd35 [1, 1, 1, 0, 0, 0]), .inBlock 0, .code (cd35 [1, 1, 1, 1])]) (us := [(62, .bool t102)]) (by kernel_rfl) ?_
          cases t102
          ·skip
           have hp107 := ite_f hp104 rfl
           refine sx_run 5 (todo' := [.inRegion (opsOf (cd35 [1, 1, 1, 0, 0, 0, 1, 0, 1, 1, 0, 1, 0])) [13, 14, 15, 16], .code (cd35 [1, 1, 1, 0, 0, 0, 1, 0, 1, 1, 1]), .inBlock 1, .inLoop (cd35 [1, 1, 1, 0, 0, 0]), .inBlock 0, .code (cd35 [1, 1, 1, 1])]) (us := [(63, .string a0), (64, .int .i64 a1), (65, .int .i64 t28), (66, .int .i64 (IntKind.i64.wrap (a1 + t28))), (67, .int .i64 (IntKind.i64.wrap ((IntKind.i64.wrap (a1 + t28)) + 1)))]) (by kernel_rfl) ?_
           obtain ⟨g108, hp109⟩ := ite_some hp107
           refine r_val (c := (cd35 [1, 1, 1, 0, 0, 0, 1, 0, 1, 1, 0, 1, 0])) (i := 13) (d := (some 68)) (ty := 5) (op := .index 9 (.tmp 63) (.tmp 67)) (v := .int .u8 (byt a0 (IntKind.i64.wrap ((IntKind.i64.wrap (a1 + t28)) + 1)))) (by kernel_rfl) (by kernel_rfl) (fun o ho _ => x_indexStr (kk := .i64) (by kernel_rfl) (by kernel_rfl) (by kernel_rfl) g108.1 g108.2 ho) ?_
           obtain ⟨t110, hr111, hp112⟩ := bind_some' hp109
           refine r_call1 (c := (cd35 [1, 1, 1, 0, 0, 0, 1, 0, 1, 1, 0, 1, 0])) (i := 14) (d := (some 69)) (g := 41) (args := #[.int .u8 (byt a0 (IntKind.i64.wrap ((IntKind.i64.wrap (a1 + t28)) + 1)))]) (by kernel_rfl) (by kernel_rfl) (by kernel_rfl) (by kernel_rfl) (weirref05_digit.ok (byt a0 (IntKind.i64.wrap ((IntKind.i64.wrap (a1 + t28)) + 1))) hS106 hr111) ?_
           rintro _ w113 ⟨rfl, hS114⟩
           refine ⟨.bool t110, rfl, ?_⟩
           refine sx_run 3 (todo' := [.code (cd35 [1, 1, 1, 0, 0, 0, 1, 0, 1, 1, 1]), .inBlock 1, .inLoop (cd35 [1, 1, 1, 0, 0, 0]), .inBlock 0, .code (cd35 [1, 1, 1, 1])]) (us := [(70, .bool t110), (7, .bool t110)]) (by kernel_rfl) ?_
           refine Runs.fill (m := [some (.string a0), some (.int .i64 a1), none, none, none, some (.int .i64 t28), none, some (.bool t110), none, none, none, none, none, none, none, none, none, none, none, none, none, none, none, none, none, none, none, none, none, none, none, none, none, none, none, none, none, none, none, none, none, none, none, none, none, none, none, none, none, none, none, none, none, none, none, none, none, none, none, none, none, none, none, none, none, none, none, none, none, none, none, none, none, none, none, none]) (by kernel_rfl) ?_
           exact J63 t110 (Option.some.inj hp112) _ _ hS114
          ·skip
           have hp115 := ite_t hp104 rfl
           refine sx_run 10 (todo' := [.code (cd35 [1, 1, 1, 0, 0, 0, 1, 0, 1, 1, 1]), .inBlock 1, .inLoop (cd35 [1, 1, 1, 0, 0, 0]), .inBlock 0, .code (cd35 [1, 1, 1, 1])]) (us := [(63, undef), (64, undef), (65, undef), (66, undef), (67, undef), (68, undef), (69, undef), (70, .bool true), (7, .bool true)]) (by kernel_rfl) ?_
           refine Runs.fill (m := [some (.string a0), some (.int .i64 a1), none, none, none, some (.int .i64 t28), none, some (.bool true), none, none, none, none, none, none, none, none, none, none, none, none, none, none, none, none, none, none, none, none, none, none, none, none, none, none, none, none, none, none, none, none, none, none, none, none, none, none, none, none, none, none, none, none, none, none, none, none, none, none, none, none, none, none, none, none, none, none, none, none, none, none, none, none, none, none, none, none]) (by kernel_rfl) ?_
           exact J63 true (Option.some.inj hp115) _ _ hS106
         ·skip
          have hp116 := ite_f hp96 h98
          refine sx_run 4 (todo' := [.code (cd35 [1, 1, 1, 0, 0, 0, 1, 0, 1, 1, 1]), .inBlock 1, .inLoop (cd35 [1, 1, 1, 0, 0, 0]), .inBlock 0, .code (cd35 [1, 1, 1, 1])]) (us := [(54, .bool false)]) (by kernel_rfl) ?_
          refine Runs.fill (m := [some (.string a0), some (.int .i64 a1), none, none, none, some (.int .i64 t28), none, some (.bool t51), none, none, none, none, none, none, none, none, none, none, none, none, none, none, none, none, none, none, none, none, none, none, none, none, none, none, none, none, none, none, none, none, none, none, none, none, none, none, none, none, none, none, none, none, none, none, none, none, none, none, none, none, none, none, none, none, none, none, none, none, none, none, none, none, none, none, none, none]) (by kernel_rfl) ?_
          exact J63 t51 (Option.some.inj hp116) _ _ hS53
        ·skip
         have hp117 := ite_f hp93 h95
         refine sx_run 13 (todo' := [.code (cd35 [1, 1, 1, 0, 0, 0, 1, 0, 1, 1, 1]), .inBlock 1, .inLoop (cd35 [1, 1, 1, 0, 0, 0]), .inBlock 0, .code (cd35 [1, 1, 1, 1])]) (us := [(45, .bool false), (46, .bool false), (47, undef), (48, undef), (49, undef), (50, undef), (51, undef), (52, undef), (53, undef), (54, .bool false)]) (by kernel_rfl) ?_
         refine Runs.fill (m := [some (.string a0), some (.int .i64 a1), none, none, none, some (.int .i64 t28), none, some (.bool t51), none, none, none, none, none, none, none, none, none, none, none, none, none, none, none, none, none, none, none, none, none, none, none, none, none, none, none, none, none, none, none, none, none, none, none, none, none, none, none, none, none, none, none, none, none, none, none, none, none, none, none, none, none, none, none, none, none, none, none, none, none, none, none, none, none, none, none, none]) (by kernel_rfl) ?_
         exact J63 t51 (Option.some.inj hp117) _ _ hS53
      cases t43
      ·skip
       have hp118 := ite_f hv49 rfl
       refine sx_run 1 (todo' := [.inRegion (opsOf (cd35 [1, 1, 1, 0, 0, 0, 1, 0, 1, 0])) [4, 5, 6, 7, 8, 9, 10], .code (cd35 [1, 1, 1, 0, 0, 0, 1, 0, 1, 1]), .inBlock 1, .inLoop (cd35 [1, 1, 1, 0, 0, 0]), .inBlock 0, .code (cd35 [1, 1, 1, 1])]) (us := [(33, .int .u8 (byt a0 (IntKind.i64.wrap (a1 + t28))))]) (by kernel_rfl) ?_
       obtain ⟨t119, hr120, hp121⟩ := bind_some' hp118
       refine r_call1 (c := (cd35 [1, 1, 1, 0, 0, 0, 1, 0, 1, 0])) (i := 4) (d := (some 34)) (g := 41) (args := #[.int .u8 (byt a0 (IntKind.i64.wrap (a1 + t28)))]) (by kernel_rfl) (by kernel_rfl) (by kernel_rfl) (by kernel_rfl) (weirref05_digit.ok (byt a0 (IntKind.i64.wrap (a1 + t28))) hS47 hr120) ?_
       rintro _ w122 ⟨rfl, hS123⟩
       refine ⟨.bool t119, rfl, ?_⟩
       refine sx_run 2 (todo' := [.inRegion (opsOf (cd35 [1, 1, 1, 0, 0, 0, 1, 0, 1, 0])) [7, 8, 9, 10], .code (cd35 [1, 1, 1, 0, 0, 0, 1, 0, 1, 1]), .inBlock 1, .inLoop (cd35 [1, 1, 1, 0, 0, 0]), .inBlock 0, .code (cd35 [1, 1, 1, 1])]) (us := [(35, .bool t119), (36, .bool t119)]) (by kernel_rfl) ?_
       cases t119
       ·skip
        have hp124 := ite_f hp121 rfl
        refine sx_split 2 (todo' := [.inRegion (opsOf (cd35 [1, 1, 1, 0, 0, 0, 1, 0, 1, 0])) [9, 10], .code (cd35 [1, 1, 1, 0, 0, 0, 1, 0, 1, 1]), .inBlock 1, .inLoop (cd35 [1, 1, 1, 0, 0, 0]), .inBlock 0, .code (cd35 [1, 1, 1, 1])]) (us := [(37, .int .u8 (byt a0 (IntKind.i64.wrap (a1 + t28))))]) (d := 38) (t := ((byt a0 (IntKind.i64.wrap (a1 + t28))) == 46)) (by kernel_rfl) (fun h125 => ?_) (fun h126 => ?_)
        ·skip
         have hp127 := ite_t hp124 h125
         refine sx_run 5 (todo' := [.code (cd35 [1, 1, 1, 0, 0, 0, 1, 0, 1, 1, 0, 0]), .code (cd35 [1, 1, 1, 0, 0, 0, 1, 0, 1, 1, 0, 1]), .code (cd35 [1, 1, 1, 0, 0, 0, 1, 0, 1, 1, 1]), .inBlock 1, .inLoop (cd35 [1, 1, 1, 0, 0, 0]), .inBlock 0, .code (cd35 [1, 1, 1, 1])]) (us := [(39, .bool true), (7, .bool true)]) (by kernel_rfl) ?_
         refine Runs.fill (m := [some (.string a0), some (.int .i64 a1), none, none, none, some (.int .i64 t28), some (.int .u8 (byt a0 (IntKind.i64.wrap (a1 + t28)))), some (.bool true), none, none, none, none, none, none, none, none, none, none, none, none, none, none, none, none, none, none, none, none, none, none, none, none, none, none, none, none, none, none, none, none, none, none, none, none, none, none, none, none, none, none, none, none, none, none, none, none, none, none, none, none, none, none, none, none, none, none, none, none, none, none, none, none, none, none, none, none]) (by kernel_rfl) ?_
         exact J54 true (Option.some.inj hp127) _ _ hS123
        ·skip
         have hp128 := ite_f hp124 h126
         refine sx_run 5 (todo' := [.code (cd35 [1, 1, 1, 0, 0, 0, 1, 0, 1, 1, 0, 0]), .code (cd35 [1, 1, 1, 0, 0, 0, 1, 0, 1, 1, 0, 1]), .code (cd35 [1, 1, 1, 0, 0, 0, 1, 0, 1, 1, 1]), .inBlock 1, .inLoop (cd35 [1, 1, 1, 0, 0, 0]), .inBlock 0, .code (cd35 [1, 1, 1, 1])]) (us := [(39, .bool false), (7, .bool false)]) (by kernel_rfl) ?_
         refine Runs.fill (m := [some (.string a0), some (.int .i64 a1), none, none, none, some (.int .i64 t28), some (.int .u8 (byt a0 (IntKind.i64.wrap (a1 + t28)))), some (.bool false), none, none, none, none, none, none, none, none, none, none, none, none, none, none, none, none, none, none, none, none, none, none, none, none, none, none, none, none, none, none, none, none, none, none, none, none, none, none, none, none, none, none, none, none, none, none, none, none, none, none, none, none, none, none, none, none, none, none, none, none, none, none, none, none, none, none, none, none]) (by kernel_rfl) ?_
         exact J54 false (Option.some.inj hp128) _ _ hS123
       ·skip
        have hp129 := ite_t hp121 rfl
        refine sx_run 7 (todo' := [.code (cd35 [1, 1, 1, 0, 0, 0, 1, 0, 1, 1, 0, 0]), .code (cd35 [1, 1, 1, 0, 0, 0, 1, 0, 1, 1, 0, 1]), .code (cd35 [1, 1, 1, 0, 0, 0, 1, 0, 1, 1, 1]), .inBlock 1, .inLoop (cd35 [1, 1, 1, 0, 0, 0]), .inBlock 0, .code (cd35 [1, 1, 1, 1])]) (us := [(37, undef), (38, undef), (39, .bool true), (7, .bool true)]) (by kernel_rfl) ?_
        refine Runs.fill (m := [some (.string a0), some (.int .i64 a1), none, none, none, some (.int .i64 t28), some (.int .u8 (byt a0 (IntKind.i64.wrap (a1 + t28)))), some (.bool true), none, none, none, none, none, none, none, none, none, none, none, none, none, none, none, none, none, none, none, none, none, none, none, none, none, none, none, none, none, none, none, none, none, none, none, none, none, none, none, none, none, none, none, none, none, none, none, none, none, none, none, none, none, none, none, none, none, none, none, none, none, none, none, none, none, none, none, none]) (by kernel_rfl) ?_
        exact J54 true (Option.some.inj hp129) _ _ hS123
      ·skip
       have hp130 := ite_t hv49 rfl
       refine sx_run 11 (todo' := [.code (cd35 [1, 1, 1, 0, 0, 0, 1, 0, 1, 1, 0, 0]), .code (cd35 [1, 1, 1, 0, 0, 0, 1, 0, 1, 1, 0, 1]), .code (cd35 [1, 1, 1, 0, 0, 0, 1, 0, 1, 1, 1]), .inBlock 1, .inLoop (cd35 [1, 1, 1, 0, 0, 0]), .inBlock 0, .code (cd35 [1, 1, 1, 1])]) (us := [(33, undef), (34, undef), (35, .bool true), (36, .bool true), (37, undef), (38, undef), (39, .bool true), (7, .bool true)]) (by kernel_rfl) ?_
       refine Runs.fill (m := [some (.string a0), some (.int .i64 a1), none, none, none, some (.int .i64 t28), some (.int .u8 (byt a0 (IntKind.i64.wrap (a1 + t28)))), some (.bool true), none, none, none, none, none, none, none, none, none, none, none, none, none, none, none, none, none, none, none, none, none, none, none, none, none, none, none, none, none, none, none, none, none, none, none, none, none, none, none, none, none, none, none, none, none, none, none, none, none, none, none, none, none, none, none, none, none, none, none, none, none, none, none, none, none, none, none, none]) (by kernel_rfl) ?_
       exact J54 true (Option.some.inj hp130) _ _ hS47
     ·skip
      have hp131 := ite_f hb34 h39
      refine sx_run 3 (todo' := [.code (cd35 [1, 1, 1, 1])]) (us := []) (by kernel_rfl) ?_
      refine Runs.fill (m := [none, none, none, none, none, some (.int .i64 t28), none, none, none, none, none, none, none, none, none, none, none, none, none, none, none, none, none, none, none, none, none, none, none, none, none, none, none, none, none, none, none, none, none, none, none, none, none, none, none, none, none, none, none, none, none, none, none, none, none, none, none, none, none, none, none, none, none, none, none, none, none, none, none, none, none, none, none, none, none, none]) (by kernel_rfl) ?_
      exact J24 t28 ((Option.some.inj hp131).trans he33) _ _ hS30
    refine Runs.fill (m := [some (.string a0), some (.int .i64 a1), none, none, none, some (.int .i64 1), none, none, none, none, none, none, none, none, none, none, none, none, none, none, none, none, none, none, none, none, none, none, none, none, none, none, none, none, none, none, none, none, none, none, none, none, none, none, none, none, none, none, none, none, none, none, none, none, none, none, none, none, none, none, none, none, none, none, none, none, none, none, none, none, none, none, none, none, none, none]) (by kernel_rfl) ?_
    exact L37 1 _ hv19 rfl _ _ hS12

noncomputable def cd28 (p : List Nat) : Code := sub (bodyOf Tryd.f28) p
def weirref05_Name.f (a0 : ByteArray) : Option Bool :=
  (if (decide ((a0.size : Int) > 0)) = true then (if (decide ((a0.size : Int) ≤ 64)) = true then (weirref05_name.f a0 0 >>= (fun t7 => (if (t7 == (a0.size : Int)) = true then some (true) else some (false)))) else some (false)) else some (false))
set_option maxHeartbeats 16000000 in
theorem weirref05_Name.ok (a0 : ByteArray) {w0 : World} {Z : Zm} {fs : List XObj} {w : World} (hS0 : St w0 Z (fs) w) {q0 : Bool} (hp0 : weirref05_Name.f a0 = some q0) :
    Calls Tryd.prog 28 #[.string a0] w (fun e w' => e = .returned (.bool q0) ∧ St w0 Z (fs) w') := by
  refine calls_abs ?_; intro R hR
  unfold weirref05_Name.f at hp0
  refine calls_of_runs (fn := Tryd.f28) (c := cd28 []) Tryd.func28 (by kernel_rfl) (al := [.string a0]) rfl (n := 17) rfl ?_
  refine sx_split 9 (todo' := [.inRegion (opsOf (cd28 [1, 0])) [3, 4, 5, 6, 7, 8, 9, 10, 11, 12, 13, 14, 15], .code (cd28 [1, 1])]) (us := [(2, .bool false), (3, .string a0), (4, .int .i64 (a0.size : Int))]) (d := 5) (t := (decide ((a0.size : Int) > 0))) (by kernel_rfl) (fun h1 => ?_) (fun h2 => ?_)
  ·skip
   have hp3 := ite_t hp0 h1
   refine sx_split 4 (todo' := [.inRegion (opsOf (cd28 [1, 0])) [7, 8, 9, 10, 11, 12, 13, 14, 15], .code (cd28 [1, 1])]) (us := [(6, .bool true), (7, .string a0), (8, .int .i64 (a0.size : Int))]) (d := 9) (t := (decide ((a0.size : Int) ≤ 64))) (by kernel_rfl) (fun h4 => ?_) (fun h5 => ?_)
   ·skip
    have hp6 := ite_t hp3 h4
    refine sx_run 3 (todo' := [.inRegion (opsOf (cd28 [1, 0])) [10, 11, 12, 13, 14, 15], .code (cd28 [1, 1])]) (us := [(10, .bool true), (11, .bool true), (12, .string a0)]) (by kernel_rfl) ?_
    obtain ⟨t7, hr8, hp9⟩ := bind_some' hp6
    refine r_call1 (c := (cd28 [1, 0])) (i := 10) (d := (some 13)) (g := 35) (args := #[.string a0, .int .i64 0]) (by kernel_rfl) (by kernel_rfl) (by kernel_rfl) (by kernel_rfl) (weirref05_name.ok a0 0 hS0 hr8) ?_
    rintro _ w10 ⟨rfl, hS11⟩
    refine ⟨.int .i64 t7, rfl, ?_⟩
    refine sx_split 3 (todo' := [.inRegion (opsOf (cd28 [1, 0])) [14, 15], .code (cd28 [1, 1])]) (us := [(14, .string a0), (15, .int .i64 (a0.size : Int))]) (d := 16) (t := (t7 == (a0.size : Int))) (by kernel_rfl) (fun h12 => ?_) (fun h13 => ?_)
    ·skip
     have hp14 := ite_t hp9 h12
     refine sx_run 3 (todo' := [.code (cd28 [1, 1])]) (us := [(17, .bool true), (2, .bool true)]) (by kernel_rfl) ?_
     refine runs_ret (fn := Tryd.f28) (v := .bool true) Tryd.func28 (by kernel_rfl) ?_
     have hr15 := (Option.some.inj hp14)
     cases hr15
     exact hR _ _ ⟨rfl, hS11⟩
    ·skip
     have hp16 := ite_f hp9 h13
     refine sx_run 3 (todo' := [.code (cd28 [1, 1])]) (us := [(17, .bool false), (2, .bool false)]) (by kernel_rfl) ?_
     refine runs_ret (fn := Tryd.f28) (v := .bool false) Tryd.func28 (by kernel_rfl) ?_
     have hr17 := (Option.some.inj hp16)
     cases hr17
     exact hR _ _ ⟨rfl, hS11⟩
   ·skip
    have hp18 := ite_f hp3 h5
    refine sx_run 10 (todo' := [.code (cd28 [1, 1])]) (us := [(10, .bool false), (11, .bool false), (12, undef), (13, undef), (14, undef), (15, undef), (16, undef), (17, .bool false), (2, .bool false)]) (by kernel_rfl) ?_
    refine runs_ret (fn := Tryd.f28) (v := .bool false) Tryd.func28 (by kernel_rfl) ?_
    have hr19 := (Option.some.inj hp18)
    cases hr19
    exact hR _ _ ⟨rfl, hS0⟩
  ·skip
   have hp20 := ite_f hp0 h2
   refine sx_run 14 (todo' := [.code (cd28 [1, 1])]) (us := [(6, .bool false), (7, undef), (8, undef), (9, undef), (10, .bool false), (11, .bool false), (12, undef), (13, undef), (14, undef), (15, undef), (16, undef), (17, .bool false), (2, .bool false)]) (by kernel_rfl) ?_
   refine runs_ret (fn := Tryd.f28) (v := .bool false) Tryd.func28 (by kernel_rfl) ?_
   have hr21 := (Option.some.inj hp20)
   cases hr21
   exact hR _ _ ⟨rfl, hS0⟩

noncomputable def cd16 (p : List Nat) : Code := sub (bodyOf Tryd.f16) p
def weirref06_Makes.l0 (a0 : List api_Node) (t32 : List Int) (t36 : Int) : Option (Sum (List Int) Bool) :=
  (if (decide (t36 < (a0.length : Int))) = true then (if 0 ≤ t36 ∧ t36 < (a0.length : Int) then (((if (((gt a0 t36).Op) == 1) = true then some (true) else (if (((gt a0 t36).Op) == 2) = true then some (true) else some (false))) : Option Bool) >>= (fun t65 => (((if t65 = true then some (.inl 0) else (if (((gt a0 t36).Op) == 3) = true then some (.inl 1) else (((if (((gt a0 t36).Op) == 4) = true then some (true) else (if (((gt a0 t36).Op) == 5) = true then some (true) else some (false))) : Option Bool) >>= (fun t613 => (if t613 = true then some (.inl 2) else some (.inr (.inr (false)))))))) : Option (Sum Int (Sum (List Int) Bool))) >>= (fun | .inl t74 => (((if (decide ((t32.length : Int) < t74)) = true then some (.inr (.inr (false))) else (if (t74 == 0) = true then (if (((gt a0 t36).A) != 0) = true then some (.inr (.inr (false))) else (if (decide (t74 < 2)) = true then (if (((gt a0 t36).B) != 0) = true then some (.inr (.inr (false))) else (if (t74 == 1) = true then (if 0 ≤ (IntKind.i64.wrap ((t32.length : Int) - 1)) ∧ (IntKind.i64.wrap ((t32.length : Int) - 1)) < (t32.length : Int) then (if (((gt a0 t36).A) != (gt t32 (IntKind.i64.wrap ((t32.length : Int) - 1)))) = true then some (.inr (.inr (false))) else (if (t74 == 2) = true then (if 0 ≤ (IntKind.i64.wrap ((t32.length : Int) - 2)) ∧ (IntKind.i64.wrap ((t32.length : Int) - 2)) < (t32.length : Int) then (if (((gt a0 t36).A) != (gt t32 (IntKind.i64.wrap ((t32.length : Int) - 2)))) = true then some (.inr (.inr (false))) else (if 0 ≤ (IntKind.i64.wrap ((t32.length : Int) - 1)) ∧ (IntKind.i64.wrap ((t32.length : Int) - 1)) < (t32.length : Int) then (if (((gt a0 t36).B) != (gt t32 (IntKind.i64.wrap ((t32.length : Int) - 1)))) = true then some (.inr (.inr (false))) else some (.inl ())) else none)) else none) else some (.inl ()))) else none) else (if (t74 == 2) = true then (if 0 ≤ (IntKind.i64.wrap ((t32.length : Int) - 2)) ∧ (IntKind.i64.wrap ((t32.length : Int) - 2)) < (t32.length : Int) then (if (((gt a0 t36).A) != (gt t32 (IntKind.i64.wrap ((t32.length : Int) - 2)))) = true then some (.inr (.inr (false))) else (if 0 ≤ (IntKind.i64.wrap ((t32.length : Int) - 1)) ∧ (IntKind.i64.wrap ((t32.length : Int) - 1)) < (t32.length : Int) then (if (((gt a0 t36).B) != (gt t32 (IntKind.i64.wrap ((t32.length : Int) - 1)))) = true then some (.inr (.inr (false))) else some (.inl ())) else none)) else none) else some (.inl ())))) else (if (t74 == 1) = true then (if 0 ≤ (IntKind.i64.wrap ((t32.length : Int) - 1)) ∧ (IntKind.i64.wrap ((t32.length : Int) - 1)) < (t32.length : Int) then (if (((gt a0 t36).A) != (gt t32 (IntKind.i64.wrap ((t32.length : Int) - 1)))) = true then some (.inr (.inr (false))) else (if (t74 == 2) = true then (if 0 ≤ (IntKind.i64.wrap ((t32.length : Int) - 2)) ∧ (IntKind.i64.wrap ((t32.length : Int) - 2)) < (t32.length : Int) then (if (((gt a0 t36).A) != (gt t32 (IntKind.i64.wrap ((t32.length : Int) - 2)))) = true then some (.inr (.inr (false))) else (if 0 ≤ (IntKind.i64.wrap ((t32.length : Int) - 1)) ∧ (IntKind.i64.wrap ((t32.length : Int) - 1)) < (t32.length : Int) then (if (((gt a0 t36).B) != (gt t32 (IntKind.i64.wrap ((t32.length : Int) - 1)))) = true then some (.inr (.inr (false))) else some (.inl ())) else none)) else none) else some (.inl ()))) else none) else (if (t74 == 2) = true then (if 0 ≤ (IntKind.i64.wrap ((t32.length : Int) - 2)) ∧ (IntKind.i64.wrap ((t32.length : Int) - 2)) < (t32.length : Int) then (if (((gt a0 t36).A) != (gt t32 (IntKind.i64.wrap ((t32.length : Int) - 2)))) = true then some (.inr (.inr (false))) else (if 0 ≤ (IntKind.i64.wrap ((t32.length : Int) - 1)) ∧ (IntKind.i64.wrap ((t32.length : Int) - 1)) < (t32.length : Int) then (if (((gt a0 t36).B) != (gt t32 (IntKind.i64.wrap ((t32.length : Int) - 1)))) = true then some (.inr (.inr (false))) else some (.inl ())) else none)) else none) else some (.inl ()))))) else (if (decide (t74 < 2)) = true then (if (((gt a0 t36).B) != 0) = true then some (.inr (.inr (false))) else (if (t74 == 1) = true then (if 0 ≤ (IntKind.i64.wrap ((t32.length : Int) - 1)) ∧ (IntKind.i64.wrap ((t32.length : Int) - 1)) < (t32.length : Int) then (if (((gt a0 t36).A) != (gt t32 (IntKind.i64.wrap ((t32.length : Int) - 1)))) = true then some (.inr (.inr (false))) else (if (t74 == 2) = true then (if 0 ≤ (IntKind.i64.wrap ((t32.length : Int) - 2)) ∧ (IntKind.i64.wrap ((t32.length : Int) - 2)) < (t32.length : Int) then (if (((gt a0 t36).A) != (gt t32 (IntKind.i64.wrap ((t32.length : Int) - 2)))) = true then some (.inr (.inr (false))) else (if 0 ≤ (IntKind.i64.wrap ((t32.length : Int) - 1)) ∧ (IntKind.i64.wrap ((t32.length : Int) - 1)) < (t32.length : Int) then (if (((gt a0 t36).B) != (gt t32 (IntKind.i64.wrap ((t32.length : Int) - 1)))) = true then some (.inr (.inr (false))) else some (.inl ())) else none)) else none) else some (.inl ()))) else none) else (if (t74 == 2) = true then (if 0 ≤ (IntKind.i64.wrap ((t32.length : Int) - 2)) ∧ (IntKind.i64.wrap ((t32.length : Int) - 2)) < (t32.length : Int) then (if (((gt a0 t36).A) != (gt t32 (IntKind.i64.wrap ((t32.length : Int) - 2)))) = true then some (.inr (.inr (false))) else (if 0 ≤ (IntKind.i64.wrap ((t32.length : Int) - 1)) ∧ (IntKind.i64.wrap ((t32.length : Int) - 1)) < (t32.length : Int) then (if (((gt a0 t36).B) != (gt t32 (IntKind.i64.wrap ((t32.length : Int) - 1)))) = true then some (.inr (.inr (false))) else some (.inl ())) else none)) else none) else some (.inl ())))) else (if (t74 == 1) = true then (if 0 ≤ (IntKind.i64.wrap ((t32.length : Int) - 1)) ∧ (IntKind.i64.wrap ((t32.length : Int) - 1)) < (t32.length : Int) then (if (((gt a0 t36).A) != (gt t32 (IntKind.i64.wrap ((t32.length : Int) - 1)))) = true then some (.inr (.inr (false))) else (if (t74 == 2) = true then (if 0 ≤ (IntKind.i64.wrap ((t32.length : Int) - 2)) ∧ (IntKind.i64.wrap ((t32.length : Int) - 2)) < (t32.length : Int) then (if (((gt a0 t36).A) != (gt t32 (IntKind.i64.wrap ((t32.length : Int) - 2)))) = true then some (.inr (.inr (false))) else (if 0 ≤ (IntKind.i64.wrap ((t32.length : Int) - 1)) ∧ (IntKind.i64.wrap ((t32.length : Int) - 1)) < (t32.length : Int) then (if (((gt a0 t36).B) != (gt t32 (IntKind.i64.wrap ((t32.length : Int) - 1)))) = true then some (.inr (.inr (false))) else some (.inl ())) else none)) else none) else some (.inl ()))) else none) else (if (t74 == 2) = true then (if 0 ≤ (IntKind.i64.wrap ((t32.length : Int) - 2)) ∧ (IntKind.i64.wrap ((t32.length : Int) - 2)) < (t32.length : Int) then (if (((gt a0 t36).A) != (gt t32 (IntKind.i64.wrap ((t32.length : Int) - 2)))) = true then some (.inr (.inr (false))) else (if 0 ≤ (IntKind.i64.wrap ((t32.length : Int) - 1)) ∧ (IntKind.i64.wrap ((t32.length : Int) - 1)) < (t32.length : Int) then (if (((gt a0 t36).B) != (gt t32 (IntKind.i64.wrap ((t32.length : Int) - 1)))) = true then some (.inr (.inr (false))) else some (.inl ())) else none)) else none) else some (.inl ())))))) : Option (Sum Unit (Sum (List Int) Bool))) >>= (fun | .inl () => (if 0 ≤ (IntKind.i64.wrap ((t32.length : Int) - t74)) ∧ (IntKind.i64.wrap ((t32.length : Int) - t74)) ≤ (t32.length : Int) then (if (((t32.take ((IntKind.i64.wrap ((t32.length : Int) - t74)).toNat)).drop 0).length + ([t36] : List Int).length) * 8 ≤ 140737488355328 then (((if (((gt a0 t36).Op) != 2) = true then (if (!(decide ((gt a0 t36).Ref = (⟨0, (⟨#[]⟩ : ByteArray)⟩ : api_Ref)))) = true then some (.inr (.inr (false))) else (if (((gt a0 t36).Value) != 0) = true then some (.inr (.inr (false))) else some (.inl ()))) else some (.inl ())) : Option (Sum Unit (Sum (List Int) Bool))) >>= (fun | .inl () => (if (((gt a0 t36).Op) == 2) = true then (if (decide ((((gt a0 t36).Ref).Thread) < (-1))) = true then some (.inr (false)) else (if (decide ((((gt a0 t36).Ref).Thread) > 9999)) = true then some (.inr (false)) else (weirref05_Name.f (((gt a0 t36).Ref).Name) >>= (fun t136 => (if (!t136) = true then some (.inr (false)) else (weirref06_Makes.l0 a0 (((t32.take ((IntKind.i64.wrap ((t32.length : Int) - t74)).toNat)).drop 0) ++ ([t36] : List Int)) (IntKind.i64.wrap (t36 + 1)))))))) else (weirref06_Makes.l0 a0 (((t32.take ((IntKind.i64.wrap ((t32.length : Int) - t74)).toNat)).drop 0) ++ ([t36] : List Int)) (IntKind.i64.wrap (t36 + 1)))) | .inr e => some e)) else none) else none) | .inr e => some e)) | .inr e => some e)))) else none) else some (.inl t32))
 partial_fixpoint
def weirref06_Makes.f (a0 : List api_Node) : Option Bool :=
  (if (decide ((a0.length : Int) < 1)) = true then some (false) else (if (decide ((a0.length : Int) > 1024)) = true then some (false) else (weirref06_Makes.l0 a0 [] 0 >>= (fun | .inl t14 => (if ((t14.length : Int) == 1) = true then some (true) else some (false)) | .inr e => some e))))
set_option maxHeartbeats 16000000 in
theorem weirref06_Makes.ok (a0 : List api_Node) (Aa0 : Option Addr) (ca0 : Nat) {w0 : World} {Z : Zm} {fs : List XObj} {w : World} (hS0 : St w0 Z (fs) w) (ha0 : SlZ (flat enc_api_Node) 6 Z Aa0 ca0 a0) {q0 : Bool} (hp0 : weirref06_Makes.f a0 = some q0) :
    Calls Tryd.prog 16 #[.slice Aa0 a0.length ca0] w (fun e w' => e = .returned (.bool q0) ∧ St w0 Z (fs) w') := by
  refine calls_abs ?_; intro R hR
  unfold weirref06_Makes.f at hp0
  refine calls_of_runs (fn := Tryd.f16) (c := cd16 []) Tryd.func16 (by kernel_rfl) (al := [.slice Aa0 a0.length ca0]) rfl (n := 143) rfl ?_
  refine sx_split 10 (todo' := [.inRegion (opsOf (cd16 [1, 0, 0])) [3, 4, 5, 6, 7], .code (cd16 [1, 0, 1]), .code (cd16 [1, 1])]) (us := [(2, .bool false), (8, .slice Aa0 a0.length ca0), (9, .int .i64 (a0.length : Int))]) (d := 10) (t := (decide ((a0.length : Int) < 1))) (by kernel_rfl) (fun h1 => ?_) (fun h2 => ?_)
  ·skip
   have hp3 := ite_t hp0 h1
   refine sx_run 11 (todo' := [.code (cd16 [1, 0, 1, 0, 1]), .code (cd16 [1, 1])]) (us := [(11, .bool true), (12, undef), (13, undef), (14, undef), (15, .bool true), (2, .bool false)]) (by kernel_rfl) ?_
   refine runs_ret (fn := Tryd.f16) (v := .bool false) Tryd.func16 (by kernel_rfl) ?_
   have hr4 := (Option.some.inj hp3)
   cases hr4
   exact hR _ _ ⟨rfl, hS0⟩
  ·skip
   have hp5 := ite_f hp0 h2
   refine sx_split 4 (todo' := [.inRegion (opsOf (cd16 [1, 0, 0])) [7], .code (cd16 [1, 0, 1]), .code (cd16 [1, 1])]) (us := [(11, .bool false), (12, .slice Aa0 a0.length ca0), (13, .int .i64 (a0.length : Int))]) (d := 14) (t := (decide ((a0.length : Int) > 1024))) (by kernel_rfl) (fun h6 => ?_) (fun h7 => ?_)
   ·skip
    have hp8 := ite_t hp5 h6
    refine sx_run 7 (todo' := [.code (cd16 [1, 0, 1, 0, 1]), .code (cd16 [1, 1])]) (us := [(15, .bool true), (2, .bool false)]) (by kernel_rfl) ?_
    refine runs_ret (fn := Tryd.f16) (v := .bool false) Tryd.func16 (by kernel_rfl) ?_
    have hr9 := (Option.some.inj hp8)
    cases hr9
    exact hR _ _ ⟨rfl, hS0⟩
   ·skip
    have hp10 := ite_f hp5 h7
    refine sx_run 15 (todo' := [.code (cd16 [1, 1, 1, 0, 1, 0, 0]), .inLoop (cd16 [1, 1, 1, 0, 1, 0, 0]), .inBlock 0, .code (cd16 [1, 1, 1, 1])]) (us := [(15, .bool false), (3, .slice none 0 0), (4, .int .i64 0)]) (by kernel_rfl) ?_
    obtain ⟨v11, hv12, hp13⟩ := bind_some' hp10
    have hq20 : ∀ x, Sum.inr x = v11 → x = q0 := by intro x hx; subst hx; simpa using hp13
    have J21 : ∀ (t14 : List Int) (he23 : Sum.inl t14 = v11) (l22 : List Value) (A15 : Option Addr) (c16 : Nat) (w18 : World) (hS19 : St w0 Z (xrow A15 c16 3 1 (t14.flatMap (encI .i64)) :: fs) w18), Runs Tryd.prog 16 [.code (cd16 [1, 1, 1, 1])] (fill [none, none, none, some (.slice A15 t14.length c16), none, none, none, none, none, none, none, none, none, none, none, none, none, none, none, none, none, none, none, none, none, none, none, none, none, none, none, none, none, none, none, none, none, none, none, none, none, none, none, none, none, none, none, none, none, none, none, none, none, none, none, none, none, none, none, none, none, none, none, none, none, none, none, none, none, none, none, none, none, none, none, none, none, none, none, none, none, none, none, none, none, none, none, none, none, none, none, none, none, none, none, none, none, none, none, none, none, none, none, none, none, none, none, none, none, none, none, none, none, none, none, none, none, none, none, none, none, none, none, none, none, none, none, none, none, none, none, none, none, none, none, none, none, none, none, none, none, none, none, none] l22) w18 R := by
     intro t14 he23 l22 A15 c16 w18 hS19
     subst he23
     try dsimp only at hp13
     refine sx_split 5 (todo' := [.inRegion (opsOf (cd16 [1, 1, 1, 1, 0])) [3], .code (cd16 [1, 1, 1, 1, 1])]) (us := [(141, .slice A15 t14.length c16), (142, .int .i64 (t14.length : Int))]) (d := 143) (t := ((t14.length : Int) == 1)) (by kernel_rfl) (fun h24 => ?_) (fun h25 => ?_)
     ·skip
      have hp26 := ite_t hp13 h24
      refine sx_run 2 (todo' := [.code (cd16 [1, 1, 1, 1, 1])]) (us := [(2, .bool true)]) (by kernel_rfl) ?_
      have hS27 := hS19.drop
      refine runs_ret (fn := Tryd.f16) (v := .bool true) Tryd.func16 (by kernel_rfl) ?_
      have hr28 := (Option.some.inj hp26)
      cases hr28
      exact hR _ _ ⟨rfl, hS27⟩
     ·skip
      have hp29 := ite_f hp13 h25
      refine sx_run 2 (todo' := [.code (cd16 [1, 1, 1, 1, 1])]) (us := [(2, .bool false)]) (by kernel_rfl) ?_
      have hS30 := hS19.drop
      refine runs_ret (fn := Tryd.f16) (v := .bool false) Tryd.func16 (by kernel_rfl) ?_
      have hr31 := (Option.some.inj hp29)
      cases hr31
      exact hR _ _ ⟨rfl, hS30⟩
    have L45 : ∀ (t32 : List Int) (t36 : Int) (e40 : Sum (List Int) Bool), weirref06_Makes.l0 a0 t32 t36 = some e40 → e40 = v11 → ∀ (l39 : List Value) (A33 : Option Addr) (c34 : Nat) (w37 : World) (hS38 : St w0 Z (xrow A33 c34 3 1 (t32.flatMap (encI .i64)) :: fs) w37), Runs Tryd.prog 16 [.code (cd16 [1, 1, 1, 0, 1, 0, 0]), .inLoop (cd16 [1, 1, 1, 0, 1, 0, 0]), .inBlock 0, .code (cd16 [1, 1, 1, 1])] (fill [some (.slice Aa0 a0.length ca0), none, none, some (.slice A33 t32.length c34), some (.int .i64 t36), none, none, none, none, none, none, none, none, none, none, none, none, none, none, none, none, none, none, none, none, none, none, none, none, none, none, none, none, none, none, none, none, none, none, none, none, none, none, none, none, none, none, none, none, none, none, none, none, none, none, none, none, none, none, none, none, none, none, none, none, none, none, none, none, none, none, none, none, none, none, none, none, none, none, none, none, none, none, none, none, none, none, none, none, none, none, none, none, none, none, none, none, none, none, none, none, none, none, none, none, none, none, none, none, none, none, none, none, none, none, none, none, none, none, none, none, none, none, none, none, none, none, none, none, none, none, none, none, none, none, none, none, none, none, none, none, none, none, none] l39) w37 R := by
     refine weirref06_Makes.l0.partial_correctness a0 (fun t32 t36 e40 => e40 = v11 → ∀ (l39 : List Value) (A33 : Option Addr) (c34 : Nat) (w37 : World) (hS38 : St w0 Z (xrow A33 c34 3 1 (t32.flatMap (encI .i64)) :: fs) w37), Runs Tryd.prog 16 [.code (cd16 [1, 1, 1, 0, 1, 0, 0]), .inLoop (cd16 [1, 1, 1, 0, 1, 0, 0]), .inBlock 0, .code (cd16 [1, 1, 1, 1])] (fill [some (.slice Aa0 a0.length ca0), none, none, some (.slice A33 t32.length c34), some (.int .i64 t36), none, none, none, none, none, none, none, none, none, none, none, none, none, none, none, none, none, none, none, none, none, none, none, none, none, none, none, none, none, none, none, none, none, none, none, none, none, none, none, none, none, none, none, none, none, none, none, none, none, none, none, none, none, none, none, none, none, none, none, none, none, none, none, none, none, none, none, none, none, none, none, none, none, none, none, none, none, none, none, none, none, none, none, none, none, none, none, none, none, none, none, none, none, none, none, none, none, none, none, none, none, none, none, none, none, none, none, none, none, none, none, none, none, none, none, none, none, none, none, none, none, none, none, none, none, none, none, none, none, none, none, none, none, none, none, none, none, none, none] l39) w37 R) ?_
     intro rec44 ih43 t32 t36 e40 hb42 he41 l39 A33 c34 w37 hS38
     have hq46 : ∀ x, Sum.inr x = e40 → x = q0 := fun x hx => hq20 x (hx.trans he41)
     refine sx_split 7 (todo' := [.inRegion (opsOf (cd16 [1, 1, 1, 0, 1, 0, 0, 0, 0])) [], .code (cd16 [1, 1, 1, 0, 1, 0, 0, 0, 1]), .code (cd16 [1, 1, 1, 0, 1, 0, 0, 1]), .inLoop (cd16 [1, 1, 1, 0, 1, 0, 0]), .inBlock 0, .code (cd16 [1, 1, 1, 1])]) (us := [(16, .int .i64 t36), (17, .slice Aa0 a0.length ca0), (18, .int .i64 (a0.length : Int))]) (d := 19) (t := (decide (t36 < (a0.length : Int)))) (by kernel_rfl) (fun h47 => ?_) (fun h48 => ?_)
     ·skip
      have hp49 := ite_t hb42 h47
      refine sx_run 9 (todo' := [.inRegion (opsOf (cd16 [1, 1, 1, 0, 1, 0, 0, 1, 0, 0, 0])) [2, 3, 4, 5], .code (cd16 [1, 1, 1, 0, 1, 0, 0, 1, 0, 0, 1]), .inBlock 1, .code (cd16 [1, 1, 1, 0, 1, 0, 0, 1, 1]), .inLoop (cd16 [1, 1, 1, 0, 1, 0, 0]), .inBlock 0, .code (cd16 [1, 1, 1, 1])]) (us := [(22, .slice Aa0 a0.length ca0), (23, .int .i64 t36)]) (by kernel_rfl) ?_
      obtain ⟨g50, hp51⟩ := ite_some hp49
      obtain ⟨b52, p53, hA54, hc55⟩ := ha0.atF g50.1 g50.2
      refine r_indexAddr (c := (cd16 [1, 1, 1, 0, 1, 0, 0, 1, 0, 0, 0])) (i := 2) (d := (some 24)) (ty := 0) (t := 23) (e := 38) (n := a0.length) (cp := ca0) (sz := 6) (kk := .i64) (x := (.tmp 22)) (y := (.tmp 23)) (b := b52) (o' := p53) (j := t36) (by kernel_rfl) (by kernel_rfl) (slv (by kernel_rfl) hA54) (by kernel_rfl) (by kernel_rfl) (by kernel_rfl) g50.1 g50.2 ?_
      refine r_load (c := (cd16 [1, 1, 1, 0, 1, 0, 0, 1, 0, 0, 0])) (i := 3) (d := (some 25)) (ty := 38) (t := 38) (x := (.tmp 24)) (p := ⟨b52, p53 + t36.toNat * 6, none⟩) (v := .agg (enc_api_Node (gt a0 t36)).toArray) (by kernel_rfl) (by kernel_rfl) (by kernel_rfl) (loads_agg (hc55.cells hS38) (by kernel_rfl) (by kernel_rfl)) ?_
      refine r_alloc (c := (cd16 [1, 1, 1, 0, 1, 0, 0, 1, 0, 0, 0])) (i := 4) (d := (some 5)) (ty := 0) (z := .agg (enc_api_Node (⟨0, 0, 0, ⟨0, (⟨#[]⟩ : ByteArray)⟩, 0⟩ : api_Node)).toArray) (t := 38) (cs := enc_api_Node (⟨0, 0, 0, ⟨0, (⟨#[]⟩ : ByteArray)⟩, 0⟩ : api_Node)) hS38 (by kernel_rfl) (by kernel_rfl) (by kernel_rfl) (by kernel_rfl) ?_
      intro b56 w57 hS58
      refine r_store (c := (cd16 [1, 1, 1, 0, 1, 0, 0, 1, 0, 0, 0])) (i := 5) (d := none) (ty := 0) (t := 38) (x := (.tmp 5)) (y := (.tmp 25)) (b := b56) (o := 0) (e := 38) (cs := enc_api_Node (⟨0, 0, 0, ⟨0, (⟨#[]⟩ : ByteArray)⟩, 0⟩ : api_Node)) (v := .agg (enc_api_Node (gt a0 t36)).toArray) (vs := enc_api_Node (gt a0 t36)) (cs' := enc_api_Node (gt a0 t36)) hS58 (by kernel_rfl) (by kernel_rfl) (by kernel_rfl) (by kernel_rfl) (by kernel_rfl) (by kernel_rfl) (one_api_Node _) (Nat.le_of_ble_eq_true (by kernel_rfl)) (by kernel_rfl) ?_
      intro w60 hS61
      refine sx_run 9 (todo' := [.inRegion (opsOf (cd16 [1, 1, 1, 0, 1, 0, 0, 1, 0, 0, 1, 1, 0, 0])) [1], .code (cd16 [1, 1, 1, 0, 1, 0, 0, 1, 0, 0, 1, 1, 0, 1]), .code (cd16 [1, 1, 1, 0, 1, 0, 0, 1, 0, 0, 1, 1, 1]), .inBlock 1, .code (cd16 [1, 1, 1, 0, 1, 0, 0, 1, 1]), .inLoop (cd16 [1, 1, 1, 0, 1, 0, 0]), .inBlock 0, .code (cd16 [1, 1, 1, 1])]) (us := [(6, .int .i64 0), (26, .pointer (some ⟨b56, 0, none⟩))]) (by kernel_rfl) ?_
      refine r_load (c := (cd16 [1, 1, 1, 0, 1, 0, 0, 1, 0, 0, 1, 1, 0, 0])) (i := 1) (d := (some 27)) (ty := 3) (t := 3) (x := (.tmp 26)) (p := ⟨b56, 0, none⟩) (v := .int .i64 ((gt a0 t36).Op)) (by kernel_rfl) (by kernel_rfl) (by kernel_rfl) (loads_at 0 (hS61.blk 0 rfl) (by kernel_rfl) (by kernel_rfl)) ?_
      obtain ⟨v62, hv63, hp64⟩ := bind_some' hp51
      have J68 : ∀ (t65 : Bool) (he70 : t65 = v62) (l69 : List Value) (w66 : World) (hS67 : St w0 Z (xrow A33 c34 3 1 (t32.flatMap (encI .i64)) :: xblk b56 38 (enc_api_Node (gt a0 t36)) :: fs) w66), Runs Tryd.prog 16 [.code (cd16 [1, 1, 1, 0, 1, 0, 0, 1, 0, 0, 1, 1, 0, 1, 0, 1]), .inBlock 2, .code (cd16 [1, 1, 1, 0, 1, 0, 0, 1, 0, 0, 1, 1, 1]), .inBlock 1, .code (cd16 [1, 1, 1, 0, 1, 0, 0, 1, 1]), .inLoop (cd16 [1, 1, 1, 0, 1, 0, 0]), .inBlock 0, .code (cd16 [1, 1, 1, 1])] (fill [some (.slice Aa0 a0.length ca0), none, none, some (.slice A33 t32.length c34), some (.int .i64 t36), some (.pointer (some ⟨b56, 0, none⟩)), some (.int .i64 0), none, none, none, none, none, none, none, none, none, none, none, none, none, none, none, none, none, none, none, none, some (.int .i64 ((gt a0 t36).Op)), some (.bool t65), none, none, none, none, none, none, none, none, none, none, none, none, none, none, none, none, none, none, none, none, none, none, none, none, none, none, none, none, none, none, none, none, none, none, none, none, none, none, none, none, none, none, none, none, none, none, none, none, none, none, none, none, none, none, none, none, none, none, none, none, none, none, none, none, none, none, none, none, none, none, none, none, none, none, none, none, none, none, none, none, none, none, none, none, none, none, none, none, none, none, none, none, none, none, none, none, none, none, none, none, none, none, none, none, none, none, none, none, none, none, none, none, none, none, none] l69) w66 R := by
       intro t65 he70 l69 w66 hS67
       subst he70
       try dsimp only at hp64
       obtain ⟨v71, hv72, hp73⟩ := bind_some' hp64
       have hq77 : ∀ x, Sum.inr x = v71 → x = e40 := by intro x hx; subst hx; simpa using hp73
       have J78 : ∀ (t74 : Int) (he80 : Sum.inl t74 = v71) (l79 : List Value) (w75 : World) (hS76 : St w0 Z (xrow A33 c34 3 1 (t32.flatMap (encI .i64)) :: xblk b56 38 (enc_api_Node (gt a0 t36)) :: fs) w75), Runs Tryd.prog 16 [.code (cd16 [1, 1, 1, 0, 1, 0, 0, 1, 0, 0, 1, 1, 1]), .inBlock 1, .code (cd16 [1, 1, 1, 0, 1, 0, 0, 1, 1]), .inLoop (cd16 [1, 1, 1, 0, 1, 0, 0]), .inBlock 0, .code (cd16 [1, 1, 1, 1])] (fill [some (.slice Aa0 a0.length ca0), none, none, some (.slice A33 t32.length c34), some (.int .i64 t36), some (.pointer (some ⟨b56, 0, none⟩)), some (.int .i64 t74), none, none, none, none, none, none, none, none, none, none, none, none, none, none, none, none, none, none, none, none, none, none, none, none, none, none, none, none, none, none, none, none, none, none, none, none, none, none, none, none, none, none, none, none, none, none, none, none, none, none, none, none, none, none, none, none, none, none, none, none, none, none, none, none, none, none, none, none, none, none, none, none, none, none, none, none, none, none, none, none, none, none, none, none, none, none, none, none, none, none, none, none, none, none, none, none, none, none, none, none, none, none, none, none, none, none, none, none, none, none, none, none, none, none, none, none, none, none, none, none, none, none, none, none, none, none, none, none, none, none, none, none, none, none, none, none, none] l79) w75 R := by
        intro t74 he80 l79 w75 hS76
        subst he80
        try dsimp only at hp73
        refine sx_run 8 (todo' := [.code (cd16 [1, 1, 1, 0, 1, 0, 0, 1, 0, 0, 1, 1, 1, 1, 0, 0]), .code (cd16 [1, 1, 1, 0, 1, 0, 0, 1, 0, 0, 1, 1, 1, 1, 0, 1]), .code (cd16 [1, 1, 1, 0, 1, 0, 0, 1, 0, 0, 1, 1, 1, 1, 1]), .inBlock 1, .code (cd16 [1, 1, 1, 0, 1, 0, 0, 1, 1]), .inLoop (cd16 [1, 1, 1, 0, 1, 0, 0]), .inBlock 0, .code (cd16 [1, 1, 1, 1])]) (us := [(36, .slice A33 t32.length c34), (37, .int .i64 (t32.length : Int)), (7, .int .i64 (t32.length : Int))]) (by kernel_rfl) ?_
        obtain ⟨v81, hv82, hp83⟩ := bind_some' hp73
        have hq86 : ∀ x, Sum.inr x = v81 → x = e40 := by intro x hx; subst hx; simpa using hp83
        have J87 : ∀ (he89 : Sum.inl () = v81) (l88 : List Value) (w84 : World) (hS85 : St w0 Z (xrow A33 c34 3 1 (t32.flatMap (encI .i64)) :: xblk b56 38 (enc_api_Node (gt a0 t36)) :: fs) w84), Runs Tryd.prog 16 [.code (cd16 [1, 1, 1, 0, 1, 0, 0, 1, 0, 0, 1, 1, 1, 1, 1]), .inBlock 1, .code (cd16 [1, 1, 1, 0, 1, 0, 0, 1, 1]), .inLoop (cd16 [1, 1, 1, 0, 1, 0, 0]), .inBlock 0, .code (cd16 [1, 1, 1, 1])] (fill [some (.slice Aa0 a0.length ca0), none, none, some (.slice A33 t32.length c34), some (.int .i64 t36), some (.pointer (some ⟨b56, 0, none⟩)), some (.int .i64 t74), some (.int .i64 (t32.length : Int)), none, none, none, none, none, none, none, none, none, none, none, none, none, none, none, none, none, none, none, none, none, none, none, none, none, none, none, none, none, none, none, none, none, none, none, none, none, none, none, none, none, none, none, none, none, none, none, none, none, none, none, none, none, none, none, none, none, none, none, none, none, none, none, none, none, none, none, none, none, none, none, none, none, none, none, none, none, none, none, none, none, none, none, none, none, none, none, none, none, none, none, none, none, none, none, none, none, none, none, none, none, none, none, none, none, none, none, none, none, none, none, none, none, none, none, none, none, none, none, none, none, none, none, none, none, none, none, none, none, none, none, none, none, none, none, none] l88) w84 R := by
         intro he89 l88 w84 hS85
         subst he89
         try dsimp only at hp83
         refine sx_run 6 (todo' := [.inRegion (opsOf (cd16 [1, 1, 1, 0, 1, 0, 0, 1, 0, 0, 1, 1, 1, 1, 1, 0])) [4, 5, 6, 7, 8], .code (cd16 [1, 1, 1, 0, 1, 0, 0, 1, 0, 0, 1, 1, 1, 1, 1, 1]), .inBlock 1, .code (cd16 [1, 1, 1, 0, 1, 0, 0, 1, 1]), .inLoop (cd16 [1, 1, 1, 0, 1, 0, 0]), .inBlock 0, .code (cd16 [1, 1, 1, 1])]) (us := [(97, .slice A33 t32.length c34), (98, .int .i64 (t32.length : Int)), (99, .int .i64 t74), (100, .int .i64 (IntKind.i64.wrap ((t32.length : Int) - t74)))]) (by kernel_rfl) ?_
         obtain ⟨g90, hp91⟩ := ite_some hp83
         have hcap97 := (hS85.row 0 rfl).cap (len_encI .i64) (by omega)
         obtain ⟨A92, c93, hr94, hS96⟩ := hS85.cutrow (len_encI .i64) (by omega) (0) ((IntKind.i64.wrap ((t32.length : Int) - t74)).toNat) (by omega) (by omega)
         refine r_val (c := (cd16 [1, 1, 1, 0, 1, 0, 0, 1, 0, 0, 1, 1, 1, 1, 1, 0])) (i := 4) (d := (some 101)) (ty := 59) (op := .slice 59 (.tmp 97) none (some (.tmp 100)) none) (v := .slice A92 ((t32.take ((IntKind.i64.wrap ((t32.length : Int) - t74)).toNat)).drop 0).length c93) (by kernel_rfl) (by kernel_rfl) (fun o ho _ => x_cutSl_ns (e := 3) (sz := 1) (A := A33) (n := t32.length) (c := c34) (k := .i64) (by kernel_rfl) (by kernel_rfl) (by kernel_rfl) (by kernel_rfl) g90 hcap97 hr94 ho) ?_
         refine sx_run 1 (todo' := [.inRegion (opsOf (cd16 [1, 1, 1, 0, 1, 0, 0, 1, 0, 0, 1, 1, 1, 1, 1, 0])) [6, 7, 8], .code (cd16 [1, 1, 1, 0, 1, 0, 0, 1, 0, 0, 1, 1, 1, 1, 1, 1]), .inBlock 1, .code (cd16 [1, 1, 1, 0, 1, 0, 0, 1, 1]), .inLoop (cd16 [1, 1, 1, 0, 1, 0, 0]), .inBlock 0, .code (cd16 [1, 1, 1, 1])]) (us := [(102, .int .i64 t36)]) (by kernel_rfl) ?_
         refine r_lit (c := (cd16 [1, 1, 1, 0, 1, 0, 0, 1, 0, 0, 1, 1, 1, 1, 1, 0])) (i := 6) (d := (some 103)) (ty := 59) (t := 59) (e := 3) (sz := 1) (n := 1) (parts := #[(0, (.tmp 102))]) (vs := [(0, .int .i64 t36)]) (z := zeroOf Tryd.prog 3) (cs' := ([t36] : List Int).flatMap (encI .i64)) hS96 (by kernel_rfl) (by kernel_rfl) (by kernel_rfl) (by kernel_rfl) (by kernel_rfl) (by decide) (by decide) (by kernel_rfl) rfl (Parts.cons (c := [.int .i64 t36]) (by kernel_rfl) rfl Parts.nil) rfl ?_
         intro b99 w100 hS101
         have hS102 := hS101.pick1
         obtain ⟨g103, hp104⟩ := ite_some hp91
         refine r_append (c := (cd16 [1, 1, 1, 0, 1, 0, 0, 1, 0, 0, 1, 1, 1, 1, 1, 0])) (i := 7) (d := (some 104)) (ty := 59) (enc := (encI .i64)) (e := 3) (u := 3) (t := 59) (t2 := 59) (sz := 1) (cp := c93) (A := A92) (bytes := 8) (xs := ((t32.take ((IntKind.i64.wrap ((t32.length : Int) - t74)).toNat)).drop 0)) (ys := ([t36] : List Int)) (s := (.tmp 101)) (x := (.tmp 103)) (xv := .slice (some ⟨b99, 0, none⟩) ([t36] : List Int).length 1) (info := infoOf Tryd.prog 3) (z := zeroOf Tryd.prog 3) (ycs := ([t36] : List Int).flatMap (encI .i64)) hS102 (by kernel_rfl) (by kernel_rfl) (by kernel_rfl) (by kernel_rfl) (by kernel_rfl) (.inl (by kernel_rfl)) (by kernel_rfl) (by kernel_rfl) (by kernel_rfl) (by kernel_rfl) (by kernel_rfl) (by omega) (len_encI .i64) (one_encI .i64) (src_row (hS102.row 1 rfl) (by omega) (len_encI .i64)) rfl g103 (by omega) ?_
         intro A105 c106 w107 hS108
         refine sx_run 6 (todo' := [.inRegion (opsOf (cd16 [1, 1, 1, 0, 1, 0, 0, 1, 0, 0, 1, 1, 1, 1, 1, 1, 0, 0])) [1, 2, 3, 4, 5, 6, 7, 8, 9, 10, 11, 12, 13], .code (cd16 [1, 1, 1, 0, 1, 0, 0, 1, 0, 0, 1, 1, 1, 1, 1, 1, 0, 1]), .code (cd16 [1, 1, 1, 0, 1, 0, 0, 1, 0, 0, 1, 1, 1, 1, 1, 1, 1]), .inBlock 1, .code (cd16 [1, 1, 1, 0, 1, 0, 0, 1, 1]), .inLoop (cd16 [1, 1, 1, 0, 1, 0, 0]), .inBlock 0, .code (cd16 [1, 1, 1, 1])]) (us := [(3, .slice A105 (((t32.take ((IntKind.i64.wrap ((t32.length : Int) - t74)).toNat)).drop 0) ++ ([t36] : List Int)).length c106), (105, .pointer (some ⟨b56, 0, none⟩))]) (by kernel_rfl) ?_
         refine r_load (c := (cd16 [1, 1, 1, 0, 1, 0, 0, 1, 0, 0, 1, 1, 1, 1, 1, 1, 0, 0])) (i := 1) (d := (some 106)) (ty := 3) (t := 3) (x := (.tmp 105)) (p := ⟨b56, 0, none⟩) (v := .int .i64 ((gt a0 t36).Op)) (by kernel_rfl) (by kernel_rfl) (by kernel_rfl) (loads_at 0 (hS108.blk 2 rfl) (by kernel_rfl) (by kernel_rfl)) ?_
         obtain ⟨v110, hv111, hp112⟩ := bind_some' hp104
         have hq115 : ∀ x, Sum.inr x = v110 → x = e40 := by intro x hx; subst hx; simpa using hp112
         have J116 : ∀ (he118 : Sum.inl () = v110) (l117 : List Value) (w113 : World) (hS114 : St w0 Z (xrow A105 c106 3 1 ((((t32.take ((IntKind.i64.wrap ((t32.length : Int) - t74)).toNat)).drop 0) ++ ([t36] : List Int)).flatMap (encI .i64)) :: xblk b56 38 (enc_api_Node (gt a0 t36)) :: fs) w113), Runs Tryd.prog 16 [.code (cd16 [1, 1, 1, 0, 1, 0, 0, 1, 0, 0, 1, 1, 1, 1, 1, 1, 1]), .inBlock 1, .code (cd16 [1, 1, 1, 0, 1, 0, 0, 1, 1]), .inLoop (cd16 [1, 1, 1, 0, 1, 0, 0]), .inBlock 0, .code (cd16 [1, 1, 1, 1])] (fill [some (.slice Aa0 a0.length ca0), none, none, some (.slice A105 (((t32.take ((IntKind.i64.wrap ((t32.length : Int) - t74)).toNat)).drop 0) ++ ([t36] : List Int)).length c106), some (.int .i64 t36), some (.pointer (some ⟨b56, 0, none⟩)), none, none, none, none, none, none, none, none, none, none, none, none, none, none, none, none, none, none, none, none, none, none, none, none, none, none, none, none, none, none, none, none, none, none, none, none, none, none, none, none, none, none, none, none, none, none, none, none, none, none, none, none, none, none, none, none, none, none, none, none, none, none, none, none, none, none, none, none, none, none, none, none, none, none, none, none, none, none, none, none, none, none, none, none, none, none, none, none, none, none, none, none, none, none, none, none, none, none, none, none, none, none, none, none, none, none, none, none, none, none, none, none, none, none, none, none, none, none, none, none, none, none, none, none, none, none, none, none, none, none, none, none, none, none, none, none, none, none] l117) w113 R := by
          intro he118 l117 w113 hS114
          subst he118
          try dsimp only at hp112
          refine sx_run 3 (todo' := [.inRegion (opsOf (cd16 [1, 1, 1, 0, 1, 0, 0, 1, 0, 0, 1, 1, 1, 1, 1, 1, 1, 0])) [1, 2, 3, 4, 5, 6, 7, 8, 9, 10, 11, 12, 13, 14, 15, 16, 17, 18, 19, 20, 21], .code (cd16 [1, 1, 1, 0, 1, 0, 0, 1, 0, 0, 1, 1, 1, 1, 1, 1, 1, 1]), .inBlock 1, .code (cd16 [1, 1, 1, 0, 1, 0, 0, 1, 1]), .inLoop (cd16 [1, 1, 1, 0, 1, 0, 0]), .inBlock 0, .code (cd16 [1, 1, 1, 1])]) (us := [(119, .pointer (some ⟨b56, 0, none⟩))]) (by kernel_rfl) ?_
          refine r_load (c := (cd16 [1, 1, 1, 0, 1, 0, 0, 1, 0, 0, 1, 1, 1, 1, 1, 1, 1, 0])) (i := 1) (d := (some 120)) (ty := 3) (t := 3) (x := (.tmp 119)) (p := ⟨b56, 0, none⟩) (v := .int .i64 ((gt a0 t36).Op)) (by kernel_rfl) (by kernel_rfl) (by kernel_rfl) (loads_at 0 (hS114.blk 1 rfl) (by kernel_rfl) (by kernel_rfl)) ?_
          refine sx_split 1 (todo' := [.inRegion (opsOf (cd16 [1, 1, 1, 0, 1, 0, 0, 1, 0, 0, 1, 1, 1, 1, 1, 1, 1, 0])) [3, 4, 5, 6, 7, 8, 9, 10, 11, 12, 13, 14, 15, 16, 17, 18, 19, 20, 21], .code (cd16 [1, 1, 1, 0, 1, 0, 0, 1, 0, 0, 1, 1, 1, 1, 1, 1, 1, 1]), .inBlock 1, .code (cd16 [1, 1, 1, 0, 1, 0, 0, 1, 1]), .inLoop (cd16 [1, 1, 1, 0, 1, 0, 0]), .inBlock 0, .code (cd16 [1, 1, 1, 1])]) (us := []) (d := 121) (t := (((gt a0 t36).Op) == 2)) (by kernel_rfl) (fun h119 => ?_) (fun h120 => ?_)
          ·skip
           have hp121 := ite_t hp112 h119
           refine sx_run 3 (todo' := [.inRegion (opsOf (cd16 [1, 1, 1, 0, 1, 0, 0, 1, 0, 0, 1, 1, 1, 1, 1, 1, 1, 0])) [6, 7, 8, 9, 10, 11, 12, 13, 14, 15, 16, 17, 18, 19, 20, 21], .code (cd16 [1, 1, 1, 0, 1, 0, 0, 1, 0, 0, 1, 1, 1, 1, 1, 1, 1, 1]), .inBlock 1, .code (cd16 [1, 1, 1, 0, 1, 0, 0, 1, 1]), .inLoop (cd16 [1, 1, 1, 0, 1, 0, 0]), .inBlock 0, .code (cd16 [1, 1, 1, 1])]) (us := [(122, .bool true), (123, .pointer (some ⟨b56, 3, none⟩)), (124, .pointer (some ⟨b56, 3, none⟩))]) (by kernel_rfl) ?_
           refine r_load (c := (cd16 [1, 1, 1, 0, 1, 0, 0, 1, 0, 0, 1, 1, 1, 1, 1, 1, 1, 0])) (i := 6) (d := (some 125)) (ty := 3) (t := 3) (x := (.tmp 124)) (p := ⟨b56, 3, none⟩) (v := .int .i64 (((gt a0 t36).Ref).Thread)) (by kernel_rfl) (by kernel_rfl) (by kernel_rfl) (loads_at 0 (sub_api_Node_Ref (hS114.blk 1 rfl)) (by kernel_rfl) (by kernel_rfl)) ?_
           refine sx_split 1 (todo' := [.inRegion (opsOf (cd16 [1, 1, 1, 0, 1, 0, 0, 1, 0, 0, 1, 1, 1, 1, 1, 1, 1, 0])) [8, 9, 10, 11, 12, 13, 14, 15, 16, 17, 18, 19, 20, 21], .code (cd16 [1, 1, 1, 0, 1, 0, 0, 1, 0, 0, 1, 1, 1, 1, 1, 1, 1, 1]), .inBlock 1, .code (cd16 [1, 1, 1, 0, 1, 0, 0, 1, 1]), .inLoop (cd16 [1, 1, 1, 0, 1, 0, 0]), .inBlock 0, .code (cd16 [1, 1, 1, 1])]) (us := []) (d := 126) (t := (decide ((((gt a0 t36).Ref).Thread) < (-1)))) (by kernel_rfl) (fun h122 => ?_) (fun h123 => ?_)
           ·skip
            have hp124 := ite_t hp121 h122
            refine sx_run 20 (todo' := [.code (cd16 [1, 1, 1, 0, 1, 0, 0, 1, 0, 0, 1, 1, 1, 1, 1, 1, 1, 1, 0, 1]), .inBlock 1, .code (cd16 [1, 1, 1, 0, 1, 0, 0, 1, 1]), .inLoop (cd16 [1, 1, 1, 0, 1, 0, 0]), .inBlock 0, .code (cd16 [1, 1, 1, 1])]) (us := [(127, .bool true), (128, undef), (129, undef), (130, undef), (131, undef), (132, .bool true), (133, .bool true), (134, undef), (135, undef), (136, undef), (137, undef), (138, undef), (139, .bool true), (140, .bool true), (2, .bool false)]) (by kernel_rfl) ?_
            have hS125 := hS114.drop
            have hS126 := hS125.drop
            refine runs_ret (fn := Tryd.f16) (v := .bool false) Tryd.func16 (by kernel_rfl) ?_
            have hr127 := (hq46 _ (Option.some.inj hp124))
            cases hr127
            exact hR _ _ ⟨rfl, hS126⟩
           ·skip
            have hp128 := ite_f hp121 h123
            refine sx_run 3 (todo' := [.inRegion (opsOf (cd16 [1, 1, 1, 0, 1, 0, 0, 1, 0, 0, 1, 1, 1, 1, 1, 1, 1, 0])) [11, 12, 13, 14, 15, 16, 17, 18, 19, 20, 21], .code (cd16 [1, 1, 1, 0, 1, 0, 0, 1, 0, 0, 1, 1, 1, 1, 1, 1, 1, 1]), .inBlock 1, .code (cd16 [1, 1, 1, 0, 1, 0, 0, 1, 1]), .inLoop (cd16 [1, 1, 1, 0, 1, 0, 0]), .inBlock 0, .code (cd16 [1, 1, 1, 1])]) (us := [(127, .bool false), (128, .pointer (some ⟨b56, 3, none⟩)), (129, .pointer (some ⟨b56, 3, none⟩))]) (by kernel_rfl) ?_
            refine r_load (c := (cd16 [1, 1, 1, 0, 1, 0, 0, 1, 0, 0, 1, 1, 1, 1, 1, 1, 1, 0])) (i := 11) (d := (some 130)) (ty := 3) (t := 3) (x := (.tmp 129)) (p := ⟨b56, 3, none⟩) (v := .int .i64 (((gt a0 t36).Ref).Thread)) (by kernel_rfl) (by kernel_rfl) (by kernel_rfl) (loads_at 0 (sub_api_Node_Ref (hS114.blk 1 rfl)) (by kernel_rfl) (by kernel_rfl)) ?_
            refine sx_split 1 (todo' := [.inRegion (opsOf (cd16 [1, 1, 1, 0, 1, 0, 0, 1, 0, 0, 1, 1, 1, 1, 1, 1, 1, 0])) [13, 14, 15, 16, 17, 18, 19, 20, 21], .code (cd16 [1, 1, 1, 0, 1, 0, 0, 1, 0, 0, 1, 1, 1, 1, 1, 1, 1, 1]), .inBlock 1, .code (cd16 [1, 1, 1, 0, 1, 0, 0, 1, 1]), .inLoop (cd16 [1, 1, 1, 0, 1, 0, 0]), .inBlock 0, .code (cd16 [1, 1, 1, 1])]) (us := []) (d := 131) (t := (decide ((((gt a0 t36).Ref).Thread) > 9999))) (by kernel_rfl) (fun h129 => ?_) (fun h130 => ?_)
            ·skip
             have hp131 := ite_t hp128 h129
             refine sx_run 15 (todo' := [.code (cd16 [1, 1, 1, 0, 1, 0, 0, 1, 0, 0, 1, 1, 1, 1, 1, 1, 1, 1, 0, 1]), .inBlock 1, .code (cd16 [1, 1, 1, 0, 1, 0, 0, 1, 1]), .inLoop (cd16 [1, 1, 1, 0, 1, 0, 0]), .inBlock 0, .code (cd16 [1, 1, 1, 1])]) (us := [(132, .bool true), (133, .bool true), (134, undef), (135, undef), (136, undef), (137, undef), (138, undef), (139, .bool true), (140, .bool true), (2, .bool false)]) (by kernel_rfl) ?_
             have hS132 := hS114.drop
             have hS133 := hS132.drop
             refine runs_ret (fn := Tryd.f16) (v := .bool false) Tryd.func16 (by kernel_rfl) ?_
             have hr134 := (hq46 _ (Option.some.inj hp131))
             cases hr134
             exact hR _ _ ⟨rfl, hS133⟩
            ·skip
             have hp135 := ite_f hp128 h130
             refine sx_run 4 (todo' := [.inRegion (opsOf (cd16 [1, 1, 1, 0, 1, 0, 0, 1, 0, 0, 1, 1, 1, 1, 1, 1, 1, 0])) [17, 18, 19, 20, 21], .code (cd16 [1, 1, 1, 0, 1, 0, 0, 1, 0, 0, 1, 1, 1, 1, 1, 1, 1, 1]), .inBlock 1, .code (cd16 [1, 1, 1, 0, 1, 0, 0, 1, 1]), .inLoop (cd16 [1, 1, 1, 0, 1, 0, 0]), .inBlock 0, .code (cd16 [1, 1, 1, 1])]) (us := [(132, .bool false), (133, .bool false), (134, .pointer (some ⟨b56, 3, none⟩)), (135, .pointer (some ⟨b56, 4, none⟩))]) (by kernel_rfl) ?_
             refine r_load (c := (cd16 [1, 1, 1, 0, 1, 0, 0, 1, 0, 0, 1, 1, 1, 1, 1, 1, 1, 0])) (i := 17) (d := (some 136)) (ty := 9) (t := 9) (x := (.tmp 135)) (p := ⟨b56, 4, none⟩) (v := .string (((gt a0 t36).Ref).Name)) (by kernel_rfl) (by kernel_rfl) (by kernel_rfl) (loads_at 1 (sub_api_Node_Ref (hS114.blk 1 rfl)) (by kernel_rfl) (by kernel_rfl)) ?_
             obtain ⟨t136, hr137, hp138⟩ := bind_some' hp135
             refine r_call1 (c := (cd16 [1, 1, 1, 0, 1, 0, 0, 1, 0, 0, 1, 1, 1, 1, 1, 1, 1, 0])) (i := 18) (d := (some 137)) (g := 28) (args := #[.string (((gt a0 t36).Ref).Name)]) (by kernel_rfl) (by kernel_rfl) (by kernel_rfl) (by kernel_rfl) (weirref05_Name.ok (((gt a0 t36).Ref).Name) hS114 hr137) ?_
             rintro _ w139 ⟨rfl, hS140⟩
             refine ⟨.bool t136, rfl, ?_⟩
             refine sx_split 1 (todo' := [.inRegion (opsOf (cd16 [1, 1, 1, 0, 1, 0, 0, 1, 0, 0, 1, 1, 1, 1, 1, 1, 1, 0])) [20, 21], .code (cd16 [1, 1, 1, 0, 1, 0, 0, 1, 0, 0, 1, 1, 1, 1, 1, 1, 1, 1]), .inBlock 1, .code (cd16 [1, 1, 1, 0, 1, 0, 0, 1, 1]), .inLoop (cd16 [1, 1, 1, 0, 1, 0, 0]), .inBlock 0, .code (cd16 [1, 1, 1, 1])]) (us := []) (d := 138) (t := (!t136)) (by kernel_rfl) (fun h141 => ?_) (fun h142 => ?_)
             ·skip
              have hp143 := ite_t hp138 h141
              refine sx_run 8 (todo' := [.code (cd16 [1, 1, 1, 0, 1, 0, 0, 1, 0, 0, 1, 1, 1, 1, 1, 1, 1, 1, 0, 1]), .inBlock 1, .code (cd16 [1, 1, 1, 0, 1, 0, 0, 1, 1]), .inLoop (cd16 [1, 1, 1, 0, 1, 0, 0]), .inBlock 0, .code (cd16 [1, 1, 1, 1])]) (us := [(139, .bool true), (140, .bool true), (2, .bool false)]) (by kernel_rfl) ?_
              have hS144 := hS140.drop
              have hS145 := hS144.drop
              refine runs_ret (fn := Tryd.f16) (v := .bool false) Tryd.func16 (by kernel_rfl) ?_
              have hr146 := (hq46 _ (Option.some.inj hp143))
              cases hr146
              exact hR _ _ ⟨rfl, hS145⟩
             ·skip
              have hp147 := ite_f hp138 h142
              refine sx_run 11 (todo' := [.inLoop (cd16 [1, 1, 1, 0, 1, 0, 0]), .inBlock 0, .code (cd16 [1, 1, 1, 1])]) (us := [(139, .bool false), (140, .bool false), (20, .int .i64 t36), (21, .int .i64 (IntKind.i64.wrap (t36 + 1))), (4, .int .i64 (IntKind.i64.wrap (t36 + 1)))]) (by kernel_rfl) ?_
              have hS148 := hS140.pick1
              have hS149 := hS148.drop
              refine sx_run 1 (todo' := [.code (cd16 [1, 1, 1, 0, 1, 0, 0]), .inLoop (cd16 [1, 1, 1, 0, 1, 0, 0]), .inBlock 0, .code (cd16 [1, 1, 1, 1])]) (us := []) (by kernel_rfl) ?_
              refine Runs.fill (m := [some (.slice Aa0 a0.length ca0), none, none, some (.slice A105 (((t32.take ((IntKind.i64.wrap ((t32.length : Int) - t74)).toNat)).drop 0) ++ ([t36] : List Int)).length c106), some (.int .i64 (IntKind.i64.wrap (t36 + 1))), none, none, none, none, none, none, none, none, none, none, none, none, none, none, none, none, none, none, none, none, none, none, none, none, none, none, none, none, none, none, none, none, none, none, none, none, none, none, none, none, none, none, none, none, none, none, none, none, none, none, none, none, none, none, none, none, none, none, none, none, none, none, none, none, none, none, none, none, none, none, none, none, none, none, none, none, none, none, none, none, none, none, none, none, none, none, none, none, none, none, none, none, none, none, none, none, none, none, none, none, none, none, none, none, none, none, none, none, none, none, none, none, none, none, none, none, none, none, none, none, none, none, none, none, none, none, none, none, none, none, none, none, none, none, none, none, none, none, none]) (by kernel_rfl) ?_
              exact ih43 (((t32.take ((IntKind.i64.wrap ((t32.length : Int) - t74)).toNat)).drop 0) ++ ([t36] : List Int)) (IntKind.i64.wrap (t36 + 1)) _ hp147 he41 _ A105 c106 _ hS149
          ·skip
           have hp150 := ite_f hp112 h120
           refine sx_run 28 (todo' := [.inLoop (cd16 [1, 1, 1, 0, 1, 0, 0]), .inBlock 0, .code (cd16 [1, 1, 1, 1])]) (us := [(122, .bool false), (123, undef), (124, undef), (125, undef), (126, undef), (127, undef), (128, undef), (129, undef), (130, undef), (131, undef), (132, undef), (133, undef), (134, undef), (135, undef), (136, undef), (137, undef), (138, undef), (139, undef), (140, .bool false), (20, .int .i64 t36), (21, .int .i64 (IntKind.i64.wrap (t36 + 1))), (4, .int .i64 (IntKind.i64.wrap (t36 + 1)))]) (by kernel_rfl) ?_
           have hS151 := hS114.pick1
           have hS152 := hS151.drop
           refine sx_run 1 (todo' := [.code (cd16 [1, 1, 1, 0, 1, 0, 0]), .inLoop (cd16 [1, 1, 1, 0, 1, 0, 0]), .inBlock 0, .code (cd16 [1, 1, 1, 1])]) (us := []) (by kernel_rfl) ?_
           refine Runs.fill (m := [some (.slice Aa0 a0.length ca0), none, none, some (.slice A105 (((t32.take ((IntKind.i64.wrap ((t32.length : Int) - t74)).toNat)).drop 0) ++ ([t36] : List Int)).length c106), some (.int .i64 (IntKind.i64.wrap (t36 + 1))), none, none, none, none, none, none, none, none, none, none, none, none, none, none, none, none, none, none, none, none, none, none, none, none, none, none, none, none, none, none, none, none, none, none, none, none, none, none, none, none, none, none, none, none, none, none, none, none, none, none, none, none, none, none, none, none, none, none, none, none, none, none, none, none, none, none, none, none, none, none, none, none, none, none, none, none, none, none, none, none, none, none, none, none, none, none, none, none, none, none, none, none, none, none, none, none, none, none, none, none, none, none, none, none, none, none, none, none, none, none, none, none, none, none, none, none, none, none, none, none, none, none, none, none, none, none, none, none, none, none, none, none, none, none, none, none, none, none, none]) (by kernel_rfl) ?_
           exact ih43 (((t32.take ((IntKind.i64.wrap ((t32.length : Int) - t74)).toNat)).drop 0) ++ ([t36] : List Int)) (IntKind.i64.wrap (t36 + 1)) _ hp150 he41 _ A105 c106 _ hS152
         refine sx_split 1 (todo' := [.inRegion (opsOf (cd16 [1, 1, 1, 0, 1, 0, 0, 1, 0, 0, 1, 1, 1, 1, 1, 1, 0, 0])) [3, 4, 5, 6, 7, 8, 9, 10, 11, 12, 13], .code (cd16 [1, 1, 1, 0, 1, 0, 0, 1, 0, 0, 1, 1, 1, 1, 1, 1, 0, 1]), .code (cd16 [1, 1, 1, 0, 1, 0, 0, 1, 0, 0, 1, 1, 1, 1, 1, 1, 1]), .inBlock 1, .code (cd16 [1, 1, 1, 0, 1, 0, 0, 1, 1]), .inLoop (cd16 [1, 1, 1, 0, 1, 0, 0]), .inBlock 0, .code (cd16 [1, 1, 1, 1])]) (us := []) (d := 107) (t := (((gt a0 t36).Op) != 2)) (by kernel_rfl) (fun h153 => ?_) (fun h154 => ?_)
         ·skip
          have hp155 := ite_t hv111 h153
          refine sx_run 2 (todo' := [.inRegion (opsOf (cd16 [1, 1, 1, 0, 1, 0, 0, 1, 0, 0, 1, 1, 1, 1, 1, 1, 0, 0])) [5, 6, 7, 8, 9, 10, 11, 12, 13], .code (cd16 [1, 1, 1, 0, 1, 0, 0, 1, 0, 0, 1, 1, 1, 1, 1, 1, 0, 1]), .code (cd16 [1, 1, 1, 0, 1, 0, 0, 1, 0, 0, 1, 1, 1, 1, 1, 1, 1]), .inBlock 1, .code (cd16 [1, 1, 1, 0, 1, 0, 0, 1, 1]), .inLoop (cd16 [1, 1, 1, 0, 1, 0, 0]), .inBlock 0, .code (cd16 [1, 1, 1, 1])]) (us := [(108, .bool true), (109, .pointer (some ⟨b56, 3, none⟩))]) (by kernel_rfl) ?_
          refine r_load (c := (cd16 [1, 1, 1, 0, 1, 0, 0, 1, 0, 0, 1, 1, 1, 1, 1, 1, 0, 0])) (i := 5) (d := (some 110)) (ty := 36) (t := 36) (x := (.tmp 109)) (p := ⟨b56, 3, none⟩) (v := .agg (enc_api_Ref ((gt a0 t36).Ref)).toArray) (by kernel_rfl) (by kernel_rfl) (by kernel_rfl) (loads_agg (sub_api_Node_Ref (hS108.blk 2 rfl)) (by kernel_rfl) (by kernel_rfl)) ?_
          refine sx_run 1 (todo' := [.inRegion (opsOf (cd16 [1, 1, 1, 0, 1, 0, 0, 1, 0, 0, 1, 1, 1, 1, 1, 1, 0, 0])) [7, 8, 9, 10, 11, 12, 13], .code (cd16 [1, 1, 1, 0, 1, 0, 0, 1, 0, 0, 1, 1, 1, 1, 1, 1, 0, 1]), .code (cd16 [1, 1, 1, 0, 1, 0, 0, 1, 0, 0, 1, 1, 1, 1, 1, 1, 1]), .inBlock 1, .code (cd16 [1, 1, 1, 0, 1, 0, 0, 1, 1]), .inLoop (cd16 [1, 1, 1, 0, 1, 0, 0]), .inBlock 0, .code (cd16 [1, 1, 1, 1])]) (us := [(111, .agg (enc_api_Ref (⟨0, (⟨#[]⟩ : ByteArray)⟩ : api_Ref)).toArray)]) (by kernel_rfl) ?_
          refine r_val (c := (cd16 [1, 1, 1, 0, 1, 0, 0, 1, 0, 0, 1, 1, 1, 1, 1, 1, 0, 0])) (i := 7) (d := (some 112)) (ty := 4) (op := .binOp .neq 36 (.tmp 110) (.tmp 111) 36) (v := .bool (!(decide ((gt a0 t36).Ref = (⟨0, (⟨#[]⟩ : ByteArray)⟩ : api_Ref))))) (by kernel_rfl) (by kernel_rfl) (fun o ho _ => x_neq_api_Ref (by kernel_rfl) (by kernel_rfl) ho) ?_
          refine r_split (!(decide ((gt a0 t36).Ref = (⟨0, (⟨#[]⟩ : ByteArray)⟩ : api_Ref)))) (fun h156 => ?_) (fun h157 => ?_)
          ·skip
           have hp158 := ite_t hp155 h156
           refine sx_run 12 (todo' := [.code (cd16 [1, 1, 1, 0, 1, 0, 0, 1, 0, 0, 1, 1, 1, 1, 1, 1, 0, 1, 0, 1]), .code (cd16 [1, 1, 1, 0, 1, 0, 0, 1, 0, 0, 1, 1, 1, 1, 1, 1, 1]), .inBlock 1, .code (cd16 [1, 1, 1, 0, 1, 0, 0, 1, 1]), .inLoop (cd16 [1, 1, 1, 0, 1, 0, 0]), .inBlock 0, .code (cd16 [1, 1, 1, 1])]) (us := [(113, .bool true), (114, undef), (115, undef), (116, undef), (117, .bool true), (118, .bool true), (2, .bool false)]) (by kernel_rfl) ?_
           have hS159 := hS108.drop
           have hS160 := hS159.drop
           have hS161 := hS160.drop
           refine runs_ret (fn := Tryd.f16) (v := .bool false) Tryd.func16 (by kernel_rfl) ?_
           have hr162 := (hq46 _ (hq115 _ (Option.some.inj hp158)))
           cases hr162
           exact hR _ _ ⟨rfl, hS161⟩
          ·skip
           have hp163 := ite_f hp155 h157
           refine sx_run 2 (todo' := [.inRegion (opsOf (cd16 [1, 1, 1, 0, 1, 0, 0, 1, 0, 0, 1, 1, 1, 1, 1, 1, 0, 0])) [10, 11, 12, 13], .code (cd16 [1, 1, 1, 0, 1, 0, 0, 1, 0, 0, 1, 1, 1, 1, 1, 1, 0, 1]), .code (cd16 [1, 1, 1, 0, 1, 0, 0, 1, 0, 0, 1, 1, 1, 1, 1, 1, 1]), .inBlock 1, .code (cd16 [1, 1, 1, 0, 1, 0, 0, 1, 1]), .inLoop (cd16 [1, 1, 1, 0, 1, 0, 0]), .inBlock 0, .code (cd16 [1, 1, 1, 1])]) (us := [(113, .bool false), (114, .pointer (some ⟨b56, 5, none⟩))]) (by kernel_rfl) ?_
           refine r_load (c := (cd16 [1, 1, 1, 0, 1, 0, 0, 1, 0, 0, 1, 1, 1, 1, 1, 1, 0, 0])) (i := 10) (d := (some 115)) (ty := 2) (t := 2) (x := (.tmp 114)) (p := ⟨b56, 5, none⟩) (v := .int .i64 ((gt a0 t36).Value)) (by kernel_rfl) (by kernel_rfl) (by kernel_rfl) (loads_at 5 (hS108.blk 2 rfl) (by kernel_rfl) (by kernel_rfl)) ?_
           refine sx_split 1 (todo' := [.inRegion (opsOf (cd16 [1, 1, 1, 0, 1, 0, 0, 1, 0, 0, 1, 1, 1, 1, 1, 1, 0, 0])) [12, 13], .code (cd16 [1, 1, 1, 0, 1, 0, 0, 1, 0, 0, 1, 1, 1, 1, 1, 1, 0, 1]), .code (cd16 [1, 1, 1, 0, 1, 0, 0, 1, 0, 0, 1, 1, 1, 1, 1, 1, 1]), .inBlock 1, .code (cd16 [1, 1, 1, 0, 1, 0, 0, 1, 1]), .inLoop (cd16 [1, 1, 1, 0, 1, 0, 0]), .inBlock 0, .code (cd16 [1, 1, 1, 1])]) (us := []) (d := 116) (t := (((gt a0 t36).Value) != 0)) (by kernel_rfl) (fun h164 => ?_) (fun h165 => ?_)
           ·skip
            have hp166 := ite_t hp163 h164
            refine sx_run 8 (todo' := [.code (cd16 [1, 1, 1, 0, 1, 0, 0, 1, 0, 0, 1, 1, 1, 1, 1, 1, 0, 1, 0, 1]), .code (cd16 [1, 1, 1, 0, 1, 0, 0, 1, 0, 0, 1, 1, 1, 1, 1, 1, 1]), .inBlock 1, .code (cd16 [1, 1, 1, 0, 1, 0, 0, 1, 1]), .inLoop (cd16 [1, 1, 1, 0, 1, 0, 0]), .inBlock 0, .code (cd16 [1, 1, 1, 1])]) (us := [(117, .bool true), (118, .bool true), (2, .bool false)]) (by kernel_rfl) ?_
            have hS167 := hS108.drop
            have hS168 := hS167.drop
            have hS169 := hS168.drop
            refine runs_ret (fn := Tryd.f16) (v := .bool false) Tryd.func16 (by kernel_rfl) ?_
            have hr170 := (hq46 _ (hq115 _ (Option.some.inj hp166)))
            cases hr170
            exact hR _ _ ⟨rfl, hS169⟩
           ·skip
            have hp171 := ite_f hp163 h165
            refine sx_run 5 (todo' := [.code (cd16 [1, 1, 1, 0, 1, 0, 0, 1, 0, 0, 1, 1, 1, 1, 1, 1, 1]), .inBlock 1, .code (cd16 [1, 1, 1, 0, 1, 0, 0, 1, 1]), .inLoop (cd16 [1, 1, 1, 0, 1, 0, 0]), .inBlock 0, .code (cd16 [1, 1, 1, 1])]) (us := [(117, .bool false), (118, .bool false)]) (by kernel_rfl) ?_
            have hS172 := hS108.pick1
            have hS173 := hS172.drop
            refine Runs.fill (m := [some (.slice Aa0 a0.length ca0), none, none, some (.slice A105 (((t32.take ((IntKind.i64.wrap ((t32.length : Int) - t74)).toNat)).drop 0) ++ ([t36] : List Int)).length c106), some (.int .i64 t36), some (.pointer (some ⟨b56, 0, none⟩)), none, none, none, none, none, none, none, none, none, none, none, none, none, none, none, none, none, none, none, none, none, none, none, none, none, none, none, none, none, none, none, none, none, none, none, none, none, none, none, none, none, none, none, none, none, none, none, none, none, none, none, none, none, none, none, none, none, none, none, none, none, none, none, none, none, none, none, none, none, none, none, none, none, none, none, none, none, none, none, none, none, none, none, none, none, none, none, none, none, none, none, none, none, none, none, none, none, none, none, none, none, none, none, none, none, none, none, none, none, none, none, none, none, none, none, none, none, none, none, none, none, none, none, none, none, none, none, none, none, none, none, none, none, none, none, none, none, none]) (by kernel_rfl) ?_
            exact J116 (Option.some.inj hp171) _ _ hS173
         ·skip
          have hp174 := ite_f hv111 h154
          refine sx_run 14 (todo' := [.code (cd16 [1, 1, 1, 0, 1, 0, 0, 1, 0, 0, 1, 1, 1, 1, 1, 1, 1]), .inBlock 1, .code (cd16 [1, 1, 1, 0, 1, 0, 0, 1, 1]), .inLoop (cd16 [1, 1, 1, 0, 1, 0, 0]), .inBlock 0, .code (cd16 [1, 1, 1, 1])]) (us := [(108, .bool false), (109, undef), (110, undef), (111, undef), (112, undef), (113, undef), (114, undef), (115, undef), (116, undef), (117, undef), (118, .bool false)]) (by kernel_rfl) ?_
          have hS175 := hS108.pick1
          have hS176 := hS175.drop
          refine Runs.fill (m := [some (.slice Aa0 a0.length ca0), none, none, some (.slice A105 (((t32.take ((IntKind.i64.wrap ((t32.length : Int) - t74)).toNat)).drop 0) ++ ([t36] : List Int)).length c106), some (.int .i64 t36), some (.pointer (some ⟨b56, 0, none⟩)), none, none, none, none, none, none, none, none, none, none, none, none, none, none, none, none, none, none, none, none, none, none, none, none, none, none, none, none, none, none, none, none, none, none, none, none, none, none, none, none, none, none, none, none, none, none, none, none, none, none, none, none, none, none, none, none, none, none, none, none, none, none, none, none, none, none, none, none, none, none, none, none, none, none, none, none, none, none, none, none, none, none, none, none, none, none, none, none, none, none, none, none, none, none, none, none, none, none, none, none, none, none, none, none, none, none, none, none, none, none, none, none, none, none, none, none, none, none, none, none, none, none, none, none, none, none, none, none, none, none, none, none, none, none, none, none, none, none]) (by kernel_rfl) ?_
          exact J116 (Option.some.inj hp174) _ _ hS176
        refine r_quiet hS76 (c := (cd16 [1, 1, 1, 0, 1, 0, 0, 1, 0, 0, 1, 1, 1, 1, 0, 0])) (id := 19) (by kernel_rfl) (by kernel_rfl) (by kernel_rfl) (is := [0, 1, 2, 3, 4, 5, 6, 7, 8, 9, 10, 11, 12, 13, 14, 15, 16, 17, 18, 19, 20, 21, 22, 23, 24, 25, 26, 27, 28, 29, 30, 31, 32, 33, 34, 35, 36, 37, 38, 39, 40, 41, 42, 43, 44, 45, 46, 47, 48, 49, 50, 51, 52, 53, 54, 55, 56, 57, 58]) (by kernel_rfl) ?_
        refine q_splitr 3 (is' := [3, 4, 5, 6, 7, 8, 9, 10, 11, 12, 13, 14, 15, 16, 17, 18, 19, 20, 21, 22, 23, 24, 25, 26, 27, 28, 29, 30, 31, 32, 33, 34, 35, 36, 37, 38, 39, 40, 41, 42, 43, 44, 45, 46, 47, 48, 49, 50, 51, 52, 53, 54, 55, 56, 57, 58]) (us := [(38, .int .i64 (t32.length : Int)), (39, .int .i64 t74)]) (d := 40) (t := (decide ((t32.length : Int) < t74))) (by kernel_rfl) (fun h177 => ?_) (fun h178 => ?_)
        ·skip
         have hp179 := ite_t hv82 h177
         refine q_run 56 (is' := []) (us := [(41, .bool true), (42, undef), (43, undef), (44, undef), (45, undef), (46, undef), (47, undef), (48, undef), (49, .bool true), (50, .bool true), (51, undef), (52, undef), (53, undef), (54, undef), (55, undef), (56, undef), (57, undef), (58, .bool true), (59, .bool true), (60, undef), (61, undef), (62, undef), (63, undef), (64, undef), (65, undef), (66, undef), (67, undef), (68, undef), (69, undef), (70, undef), (71, undef), (72, .bool true), (73, .bool true), (74, undef), (75, undef), (76, undef), (77, undef), (78, undef), (79, undef), (80, undef), (81, undef), (82, undef), (83, undef), (84, undef), (85, undef), (86, undef), (87, undef), (88, undef), (89, undef), (90, undef), (91, undef), (92, undef), (93, undef), (94, undef), (95, undef), (96, .bool true)]) (by kernel_rfl) ?_
         refine Qs.nil ?_
         intro w180 hS181
         refine sx_run 5 (todo' := [.code (cd16 [1, 1, 1, 0, 1, 0, 0, 1, 0, 0, 1, 1, 1, 1, 0, 1, 0, 1]), .code (cd16 [1, 1, 1, 0, 1, 0, 0, 1, 0, 0, 1, 1, 1, 1, 1]), .inBlock 1, .code (cd16 [1, 1, 1, 0, 1, 0, 0, 1, 1]), .inLoop (cd16 [1, 1, 1, 0, 1, 0, 0]), .inBlock 0, .code (cd16 [1, 1, 1, 1])]) (us := [(2, .bool false)]) (by kernel_rfl) ?_
         have hS182 := hS181.drop
         have hS183 := hS182.drop
         refine runs_ret (fn := Tryd.f16) (v := .bool false) Tryd.func16 (by kernel_rfl) ?_
         have hr184 := (hq46 _ (hq86 _ (Option.some.inj hp179)))
         cases hr184
         exact hR _ _ ⟨rfl, hS183⟩
        ·skip
         have hp185 := ite_f hv82 h178
         refine q_splitr 3 (is' := [6, 7, 8, 9, 10, 11, 12, 13, 14, 15, 16, 17, 18, 19, 20, 21, 22, 23, 24, 25, 26, 27, 28, 29, 30, 31, 32, 33, 34, 35, 36, 37, 38, 39, 40, 41, 42, 43, 44, 45, 46, 47, 48, 49, 50, 51, 52, 53, 54, 55, 56, 57, 58]) (us := [(41, .bool false), (42, .int .i64 t74)]) (d := 43) (t := (t74 == 0)) (by kernel_rfl) (fun h186 => ?_) (fun h187 => ?_)
         ·skip
          have hp188 := ite_t hp185 h186
          refine q_run 2 (is' := [8, 9, 10, 11, 12, 13, 14, 15, 16, 17, 18, 19, 20, 21, 22, 23, 24, 25, 26, 27, 28, 29, 30, 31, 32, 33, 34, 35, 36, 37, 38, 39, 40, 41, 42, 43, 44, 45, 46, 47, 48, 49, 50, 51, 52, 53, 54, 55, 56, 57, 58]) (us := [(44, .bool true), (45, .pointer (some ⟨b56, 1, none⟩))]) (by kernel_rfl) ?_
          refine q_load (c := (cd16 [1, 1, 1, 0, 1, 0, 0, 1, 0, 0, 1, 1, 1, 1, 0, 0])) (i := 8) (d := (some 46)) (ty := 3) (t := 3) (x := (.tmp 45)) (p := ⟨b56, 1, none⟩) (v := .int .i64 ((gt a0 t36).A)) (by kernel_rfl) (by kernel_rfl) (by kernel_rfl) (fun w hC => (loads_at 1 (hC.blk 1 rfl) (by kernel_rfl) (by kernel_rfl))) ?_
          refine q_splitr 1 (is' := [10, 11, 12, 13, 14, 15, 16, 17, 18, 19, 20, 21, 22, 23, 24, 25, 26, 27, 28, 29, 30, 31, 32, 33, 34, 35, 36, 37, 38, 39, 40, 41, 42, 43, 44, 45, 46, 47, 48, 49, 50, 51, 52, 53, 54, 55, 56, 57, 58]) (us := []) (d := 47) (t := (((gt a0 t36).A) != 0)) (by kernel_rfl) (fun h189 => ?_) (fun h190 => ?_)
          ·skip
           have hp191 := ite_t hp188 h189
           refine q_run 49 (is' := []) (us := [(48, .bool true), (49, .bool true), (50, .bool true), (51, undef), (52, undef), (53, undef), (54, undef), (55, undef), (56, undef), (57, undef), (58, .bool true), (59, .bool true), (60, undef), (61, undef), (62, undef), (63, undef), (64, undef), (65, undef), (66, undef), (67, undef), (68, undef), (69, undef), (70, undef), (71, undef), (72, .bool true), (73, .bool true), (74, undef), (75, undef), (76, undef), (77, undef), (78, undef), (79, undef), (80, undef), (81, undef), (82, undef), (83, undef), (84, undef), (85, undef), (86, undef), (87, undef), (88, undef), (89, undef), (90, undef), (91, undef), (92, undef), (93, undef), (94, undef), (95, undef), (96, .bool true)]) (by kernel_rfl) ?_
           refine Qs.nil ?_
           intro w192 hS193
           refine sx_run 5 (todo' := [.code (cd16 [1, 1, 1, 0, 1, 0, 0, 1, 0, 0, 1, 1, 1, 1, 0, 1, 0, 1]), .code (cd16 [1, 1, 1, 0, 1, 0, 0, 1, 0, 0, 1, 1, 1, 1, 1]), .inBlock 1, .code (cd16 [1, 1, 1, 0, 1, 0, 0, 1, 1]), .inLoop (cd16 [1, 1, 1, 0, 1, 0, 0]), .inBlock 0, .code (cd16 [1, 1, 1, 1])]) (us := [(2, .bool false)]) (by kernel_rfl) ?_
           have hS194 := hS193.drop
           have hS195 := hS194.drop
           refine runs_ret (fn := Tryd.f16) (v := .bool false) Tryd.func16 (by kernel_rfl) ?_
           have hr196 := (hq46 _ (hq86 _ (Option.some.inj hp191)))
           cases hr196
           exact hR _ _ ⟨rfl, hS195⟩
          ·skip
           have hp197 := ite_f hp188 h190
           refine q_splitr 5 (is' := [15, 16, 17, 18, 19, 20, 21, 22, 23, 24, 25, 26, 27, 28, 29, 30, 31, 32, 33, 34, 35, 36, 37, 38, 39, 40, 41, 42, 43, 44, 45, 46, 47, 48, 49, 50, 51, 52, 53, 54, 55, 56, 57, 58]) (us := [(48, .bool false), (49, .bool false), (50, .bool false), (51, .int .i64 t74)]) (d := 52) (t := (decide (t74 < 2))) (by kernel_rfl) (fun h198 => ?_) (fun h199 => ?_)
           ·skip
            have hp200 := ite_t hp197 h198
            refine q_run 2 (is' := [17, 18, 19, 20, 21, 22, 23, 24, 25, 26, 27, 28, 29, 30, 31, 32, 33, 34, 35, 36, 37, 38, 39, 40, 41, 42, 43, 44, 45, 46, 47, 48, 49, 50, 51, 52, 53, 54, 55, 56, 57, 58]) (us := [(53, .bool true), (54, .pointer (some ⟨b56, 2, none⟩))]) (by kernel_rfl) ?_
            refine q_load (c := (cd16 [1, 1, 1, 0, 1, 0, 0, 1, 0, 0, 1, 1, 1, 1, 0, 0])) (i := 17) (d := (some 55)) (ty := 3) (t := 3) (x := (.tmp 54)) (p := ⟨b56, 2, none⟩) (v := .int .i64 ((gt a0 t36).B)) (by kernel_rfl) (by kernel_rfl) (by kernel_rfl) (fun w hC => (loads_at 2 (hC.blk 1 rfl) (by kernel_rfl) (by kernel_rfl))) ?_
            refine q_splitr 1 (is' := [19, 20, 21, 22, 23, 24, 25, 26, 27, 28, 29, 30, 31, 32, 33, 34, 35, 36, 37, 38, 39, 40, 41, 42, 43, 44, 45, 46, 47, 48, 49, 50, 51, 52, 53, 54, 55, 56, 57, 58]) (us := []) (d := 56) (t := (((gt a0 t36).B) != 0)) (by kernel_rfl) (fun h201 => ?_) (fun h202 => ?_)
            ·skip
             have hp203 := ite_t hp200 h201
             refine q_run 40 (is' := []) (us := [(57, .bool true), (58, .bool true), (59, .bool true), (60, undef), (61, undef), (62, undef), (63, undef), (64, undef), (65, undef), (66, undef), (67, undef), (68, undef), (69, undef), (70, undef), (71, undef), (72, .bool true), (73, .bool true), (74, undef), (75, undef), (76, undef), (77, undef), (78, undef), (79, undef), (80, undef), (81, undef), (82, undef), (83, undef), (84, undef), (85, undef), (86, undef), (87, undef), (88, undef), (89, undef), (90, undef), (91, undef), (92, undef), (93, undef), (94, undef), (95, undef), (96, .bool true)]) (by kernel_rfl) ?_
             refine Qs.nil ?_
             intro w204 hS205
             refine sx_run 5 (todo' := [.code (cd16 [1, 1, 1, 0, 1, 0, 0, 1, 0, 0, 1, 1, 1, 1, 0, 1, 0, 1]), .code (cd16 [1, 1, 1, 0, 1, 0, 0, 1, 0, 0, 1, 1, 1, 1, 1]), .inBlock 1, .code (cd16 [1, 1, 1, 0, 1, 0, 0, 1, 1]), .inLoop (cd16 [1, 1, 1, 0, 1, 0, 0]), .inBlock 0, .code (cd16 [1, 1, 1, 1])]) (us := [(2, .bool false)]) (by kernel_rfl) ?_
             have hS206 := hS205.drop
             have hS207 := hS206.drop
             refine runs_ret (fn := Tryd.f16) (v := .bool false) Tryd.func16 (by kernel_rfl) ?_
             have hr208 := (hq46 _ (hq86 _ (Option.some.inj hp203)))
             cases hr208
             exact hR _ _ ⟨rfl, hS207⟩
            ·skip
             have hp209 := ite_f hp200 h202
             refine q_splitr 5 (is' := [24, 25, 26, 27, 28, 29, 30, 31, 32, 33, 34, 35, 36, 37, 38, 39, 40, 41, 42, 43, 44, 45, 46, 47, 48, 49, 50, 51, 52, 53, 54, 55, 56, 57, 58]) (us := [(57, .bool false), (58, .bool false), (59, .bool false), (60, .int .i64 t74)]) (d := 61) (t := (t74 == 1)) (by kernel_rfl) (fun h210 => ?_) (fun h211 => ?_)
             ·skip
              have hp212 := ite_t hp209 h210
              refine q_run 2 (is' := [26, 27, 28, 29, 30, 31, 32, 33, 34, 35, 36, 37, 38, 39, 40, 41, 42, 43, 44, 45, 46, 47, 48, 49, 50, 51, 52, 53, 54, 55, 56, 57, 58]) (us := [(62, .bool true), (63, .pointer (some ⟨b56, 1, none⟩))]) (by kernel_rfl) ?_
              refine q_load (c := (cd16 [1, 1, 1, 0, 1, 0, 0, 1, 0, 0, 1, 1, 1, 1, 0, 0])) (i := 26) (d := (some 64)) (ty := 3) (t := 3) (x := (.tmp 63)) (p := ⟨b56, 1, none⟩) (v := .int .i64 ((gt a0 t36).A)) (by kernel_rfl) (by kernel_rfl) (by kernel_rfl) (fun w hC => (loads_at 1 (hC.blk 1 rfl) (by kernel_rfl) (by kernel_rfl))) ?_
              refine q_run 3 (is' := [30, 31, 32, 33, 34, 35, 36, 37, 38, 39, 40, 41, 42, 43, 44, 45, 46, 47, 48, 49, 50, 51, 52, 53, 54, 55, 56, 57, 58]) (us := [(65, .slice A33 t32.length c34), (66, .int .i64 (t32.length : Int)), (67, .int .i64 (IntKind.i64.wrap ((t32.length : Int) - 1)))]) (by kernel_rfl) ?_
              obtain ⟨g213, hp214⟩ := ite_some hp212
              obtain ⟨b215, p216, hA217, -⟩ := (hS76.row 0 rfl).at_ (len_encI .i64) (by omega) g213.1 g213.2
              refine q_indexAddr (c := (cd16 [1, 1, 1, 0, 1, 0, 0, 1, 0, 0, 1, 1, 1, 1, 0, 0])) (i := 30) (d := (some 68)) (ty := 0) (t := 59) (e := 3) (n := t32.length) (cp := c34) (sz := 1) (kk := .i64) (x := (.tmp 65)) (y := (.tmp 67)) (b := b215) (o' := p216) (j := (IntKind.i64.wrap ((t32.length : Int) - 1))) (by kernel_rfl) (by kernel_rfl) (slv (by kernel_rfl) hA217) (by kernel_rfl) (by kernel_rfl) (by kernel_rfl) g213.1 g213.2 ?_
              refine q_load (c := (cd16 [1, 1, 1, 0, 1, 0, 0, 1, 0, 0, 1, 1, 1, 1, 0, 0])) (i := 31) (d := (some 69)) (ty := 3) (t := 3) (x := (.tmp 68)) (p := ⟨b215, p216 + (IntKind.i64.wrap ((t32.length : Int) - 1)).toNat * 1, none⟩) (v := .int .i64 (gt t32 (IntKind.i64.wrap ((t32.length : Int) - 1)))) (by kernel_rfl) (by kernel_rfl) (by kernel_rfl) (fun w hC => (loads_at 0 ((hC.row 0 rfl).at2 hA217 (len_encI .i64) (by omega) g213.1 g213.2) (by kernel_rfl) (by kernel_rfl))) ?_
              refine q_splitr 1 (is' := [33, 34, 35, 36, 37, 38, 39, 40, 41, 42, 43, 44, 45, 46, 47, 48, 49, 50, 51, 52, 53, 54, 55, 56, 57, 58]) (us := []) (d := 70) (t := (((gt a0 t36).A) != (gt t32 (IntKind.i64.wrap ((t32.length : Int) - 1))))) (by kernel_rfl) (fun h219 => ?_) (fun h220 => ?_)
              ·skip
               have hp221 := ite_t hp214 h219
               refine q_run 26 (is' := []) (us := [(71, .bool true), (72, .bool true), (73, .bool true), (74, undef), (75, undef), (76, undef), (77, undef), (78, undef), (79, undef), (80, undef), (81, undef), (82, undef), (83, undef), (84, undef), (85, undef), (86, undef), (87, undef), (88, undef), (89, undef), (90, undef), (91, undef), (92, undef), (93, undef), (94, undef), (95, undef), (96, .bool true)]) (by kernel_rfl) ?_
               refine Qs.nil ?_
               intro w222 hS223
               refine sx_run 5 (todo' := [.code (cd16 [1, 1, 1, 0, 1, 0, 0, 1, 0, 0, 1, 1, 1, 1, 0, 1, 0, 1]), .code (cd16 [1, 1, 1, 0, 1, 0, 0, 1, 0, 0, 1, 1, 1, 1, 1]), .inBlock 1, .code (cd16 [1, 1, 1, 0, 1, 0, 0, 1, 1]), .inLoop (cd16 [1, 1, 1, 0, 1, 0, 0]), .inBlock 0, .code (cd16 [1, 1, 1, 1])]) (us := [(2, .bool false)]) (by kernel_rfl) ?_
               have hS224 := hS223.drop
               have hS225 := hS224.drop
               refine runs_ret (fn := Tryd.f16) (v := .bool false) Tryd.func16 (by kernel_rfl) ?_
               have hr226 := (hq46 _ (hq86 _ (Option.some.inj hp221)))
               cases hr226
               exact hR _ _ ⟨rfl, hS225⟩
              ·skip
               have hp227 := ite_f hp214 h220
               refine q_splitr 5 (is' := [38, 39, 40, 41, 42, 43, 44, 45, 46, 47, 48, 49, 50, 51, 52, 53, 54, 55, 56, 57, 58]) (us := [(71, .bool false), (72, .bool false), (73, .bool false), (74, .int .i64 t74)]) (d := 75) (t := (t74 == 2)) (by kernel_rfl) (fun h228 => ?_) (fun h229 => ?_)
               ·skip
                have hp230 := ite_t hp227 h228
                refine q_run 2 (is' := [40, 41, 42, 43, 44, 45, 46, 47, 48, 49, 50, 51, 52, 53, 54, 55, 56, 57, 58]) (us := [(76, .bool true), (77, .pointer (some ⟨b56, 1, none⟩))]) (by kernel_rfl) ?_
                refine q_load (c := (cd16 [1, 1, 1, 0, 1, 0, 0, 1, 0, 0, 1, 1, 1, 1, 0, 0])) (i := 40) (d := (some 78)) (ty := 3) (t := 3) (x := (.tmp 77)) (p := ⟨b56, 1, none⟩) (v := .int .i64 ((gt a0 t36).A)) (by kernel_rfl) (by kernel_rfl) (by kernel_rfl) (fun w hC => (loads_at 1 (hC.blk 1 rfl) (by kernel_rfl) (by kernel_rfl))) ?_
                refine q_run 3 (is' := [44, 45, 46, 47, 48, 49, 50, 51, 52, 53, 54, 55, 56, 57, 58]) (us := [(79, .slice A33 t32.length c34), (80, .int .i64 (t32.length : Int)), (81, .int .i64 (IntKind.i64.wrap ((t32.length : Int) - 2)))]) (by kernel_rfl) ?_
                obtain ⟨g231, hp232⟩ := ite_some hp230
                obtain ⟨b233, p234, hA235, -⟩ := (hS76.row 0 rfl).at_ (len_encI .i64) (by omega) g231.1 g231.2
                refine q_indexAddr (c := (cd16 [1, 1, 1, 0, 1, 0, 0, 1, 0, 0, 1, 1, 1, 1, 0, 0])) (i := 44) (d := (some 82)) (ty := 0) (t := 59) (e := 3) (n := t32.length) (cp := c34) (sz := 1) (kk := .i64) (x := (.tmp 79)) (y := (.tmp 81)) (b := b233) (o' := p234) (j := (IntKind.i64.wrap ((t32.length : Int) - 2))) (by kernel_rfl) (by kernel_rfl) (slv (by kernel_rfl) hA235) (by kernel_rfl) (by kernel_rfl) (by kernel_rfl) g231.1 g231.2 ?_
                refine q_load (c := (cd16 [1, 1, 1, 0, 1, 0, 0, 1, 0, 0, 1, 1, 1, 1, 0, 0])) (i := 45) (d := (some 83)) (ty := 3) (t := 3) (x := (.tmp 82)) (p := ⟨b233, p234 + (IntKind.i64.wrap ((t32.length : Int) - 2)).toNat * 1, none⟩) (v := .int .i64 (gt t32 (IntKind.i64.wrap ((t32.length : Int) - 2)))) (by kernel_rfl) (by kernel_rfl) (by kernel_rfl) (fun w hC => (loads_at 0 ((hC.row 0 rfl).at2 hA235 (len_encI .i64) (by omega) g231.1 g231.2) (by kernel_rfl) (by kernel_rfl))) ?_
                refine q_splitr 1 (is' := [47, 48, 49, 50, 51, 52, 53, 54, 55, 56, 57, 58]) (us := []) (d := 84) (t := (((gt a0 t36).A) != (gt t32 (IntKind.i64.wrap ((t32.length : Int) - 2))))) (by kernel_rfl) (fun h237 => ?_) (fun h238 => ?_)
                ·skip
                 have hp239 := ite_t hp232 h237
                 refine q_run 12 (is' := []) (us := [(85, .bool true), (86, undef), (87, undef), (88, undef), (89, undef), (90, undef), (91, undef), (92, undef), (93, undef), (94, .bool true), (95, .bool true), (96, .bool true)]) (by kernel_rfl) ?_
                 refine Qs.nil ?_
                 intro w240 hS241
                 refine sx_run 5 (todo' := [.code (cd16 [1, 1, 1, 0, 1, 0, 0, 1, 0, 0, 1, 1, 1, 1, 0, 1, 0, 1]), .code (cd16 [1, 1, 1, 0, 1, 0, 0, 1, 0, 0, 1, 1, 1, 1, 1]), .inBlock 1, .code (cd16 [1, 1, 1, 0, 1, 0, 0, 1, 1]), .inLoop (cd16 [1, 1, 1, 0, 1, 0, 0]), .inBlock 0, .code (cd16 [1, 1, 1, 1])]) (us := [(2, .bool false)]) (by kernel_rfl) ?_
                 have hS242 := hS241.drop
                 have hS243 := hS242.drop
                 refine runs_ret (fn := Tryd.f16) (v := .bool false) Tryd.func16 (by kernel_rfl) ?_
                 have hr244 := (hq46 _ (hq86 _ (Option.some.inj hp239)))
                 cases hr244
                 exact hR _ _ ⟨rfl, hS243⟩
                ·skip
                 have hp245 := ite_f hp232 h238
                 refine q_run 2 (is' := [49, 50, 51, 52, 53, 54, 55, 56, 57, 58]) (us := [(85, .bool false), (86, .pointer (some ⟨b56, 2, none⟩))]) (by kernel_rfl) ?_
                 refine q_load (c := (cd16 [1, 1, 1, 0, 1, 0, 0, 1, 0, 0, 1, 1, 1, 1, 0, 0])) (i := 49) (d := (some 87)) (ty := 3) (t := 3) (x := (.tmp 86)) (p := ⟨b56, 2, none⟩) (v := .int .i64 ((gt a0 t36).B)) (by kernel_rfl) (by kernel_rfl) (by kernel_rfl) (fun w hC => (loads_at 2 (hC.blk 1 rfl) (by kernel_rfl) (by kernel_rfl))) ?_
                 refine q_run 3 (is' := [53, 54, 55, 56, 57, 58]) (us := [(88, .slice A33 t32.length c34), (89, .int .i64 (t32.length : Int)), (90, .int .i64 (IntKind.i64.wrap ((t32.length : Int) - 1)))]) (by kernel_rfl) ?_
                 obtain ⟨g246, hp247⟩ := ite_some hp245
                 obtain ⟨b248, p249, hA250, -⟩ := (hS76.row 0 rfl).at_ (len_encI .i64) (by omega) g246.1 g246.2
                 refine q_indexAddr (c := (cd16 [1, 1, 1, 0, 1, 0, 0, 1, 0, 0, 1, 1, 1, 1, 0, 0])) (i := 53) (d := (some 91)) (ty := 0) (t := 59) (e := 3) (n := t32.length) (cp := c34) (sz := 1) (kk := .i64) (x := (.tmp 88)) (y := (.tmp 90)) (b := b248) (o' := p249) (j := (IntKind.i64.wrap ((t32.length : Int) - 1))) (by kernel_rfl) (by kernel_rfl) (slv (by kernel_rfl) hA250) (by kernel_rfl) (by kernel_rfl) (by kernel_rfl) g246.1 g246.2 ?_
                 refine q_load (c := (cd16 [1, 1, 1, 0, 1, 0, 0, 1, 0, 0, 1, 1, 1, 1, 0, 0])) (i := 54) (d := (some 92)) (ty := 3) (t := 3) (x := (.tmp 91)) (p := ⟨b248, p249 + (IntKind.i64.wrap ((t32.length : Int) - 1)).toNat * 1, none⟩) (v := .int .i64 (gt t32 (IntKind.i64.wrap ((t32.length : Int) - 1)))) (by kernel_rfl) (by kernel_rfl) (by kernel_rfl) (fun w hC => (loads_at 0 ((hC.row 0 rfl).at2 hA250 (len_encI .i64) (by omega) g246.1 g246.2) (by kernel_rfl) (by kernel_rfl))) ?_
                 refine q_splitr 1 (is' := [56, 57, 58]) (us := []) (d := 93) (t := (((gt a0 t36).B) != (gt t32 (IntKind.i64.wrap ((t32.length : Int) - 1))))) (by kernel_rfl) (fun h252 => ?_) (fun h253 => ?_)
                 ·skip
                  have hp254 := ite_t hp247 h252
                  refine q_run 3 (is' := []) (us := [(94, .bool true), (95, .bool true), (96, .bool true)]) (by kernel_rfl) ?_
                  refine Qs.nil ?_
                  intro w255 hS256
                  refine sx_run 5 (todo' := [.code (cd16 [1, 1, 1, 0, 1, 0, 0, 1, 0, 0, 1, 1, 1, 1, 0, 1, 0, 1]), .code (cd16 [1, 1, 1, 0, 1, 0, 0, 1, 0, 0, 1, 1, 1, 1, 1]), .inBlock 1, .code (cd16 [1, 1, 1, 0, 1, 0, 0, 1, 1]), .inLoop (cd16 [1, 1, 1, 0, 1, 0, 0]), .inBlock 0, .code (cd16 [1, 1, 1, 1])]) (us := [(2, .bool false)]) (by kernel_rfl) ?_
                  have hS257 := hS256.drop
                  have hS258 := hS257.drop
                  refine runs_ret (fn := Tryd.f16) (v := .bool false) Tryd.func16 (by kernel_rfl) ?_
                  have hr259 := (hq46 _ (hq86 _ (Option.some.inj hp254)))
                  cases hr259
                  exact hR _ _ ⟨rfl, hS258⟩
                 ·skip
                  have hp260 := ite_f hp247 h253
                  refine q_run 3 (is' := []) (us := [(94, .bool false), (95, .bool false), (96, .bool false)]) (by kernel_rfl) ?_
                  refine Qs.nil ?_
                  intro w261 hS262
                  refine sx_run 2 (todo' := [.code (cd16 [1, 1, 1, 0, 1, 0, 0, 1, 0, 0, 1, 1, 1, 1, 1]), .inBlock 1, .code (cd16 [1, 1, 1, 0, 1, 0, 0, 1, 1]), .inLoop (cd16 [1, 1, 1, 0, 1, 0, 0]), .inBlock 0, .code (cd16 [1, 1, 1, 1])]) (us := []) (by kernel_rfl) ?_
                  refine Runs.fill (m := [some (.slice Aa0 a0.length ca0), none, none, some (.slice A33 t32.length c34), some (.int .i64 t36), some (.pointer (some ⟨b56, 0, none⟩)), some (.int .i64 t74), some (.int .i64 (t32.length : Int)), none, none, none, none, none, none, none, none, none, none, none, none, none, none, none, none, none, none, none, none, none, none, none, none, none, none, none, none, none, none, none, none, none, none, none, none, none, none, none, none, none, none, none, none, none, none, none, none, none, none, none, none, none, none, none, none, none, none, none, none, none, none, none, none, none, none, none, none, none, none, none, none, none, none, none, none, none, none, none, none, none, none, none, none, none, none, none, none, none, none, none, none, none, none, none, none, none, none, none, none, none, none, none, none, none, none, none, none, none, none, none, none, none, none, none, none, none, none, none, none, none, none, none, none, none, none, none, none, none, none, none, none, none, none, none, none]) (by kernel_rfl) ?_
                  exact J87 (Option.some.inj hp260) _ _ hS262
               ·skip
                have hp263 := ite_f hp227 h229
                refine q_run 21 (is' := []) (us := [(76, .bool false), (77, undef), (78, undef), (79, undef), (80, undef), (81, undef), (82, undef), (83, undef), (84, undef), (85, undef), (86, undef), (87, undef), (88, undef), (89, undef), (90, undef), (91, undef), (92, undef), (93, undef), (94, undef), (95, .bool false), (96, .bool false)]) (by kernel_rfl) ?_
                refine Qs.nil ?_
                intro w264 hS265
                refine sx_run 2 (todo' := [.code (cd16 [1, 1, 1, 0, 1, 0, 0, 1, 0, 0, 1, 1, 1, 1, 1]), .inBlock 1, .code (cd16 [1, 1, 1, 0, 1, 0, 0, 1, 1]), .inLoop (cd16 [1, 1, 1, 0, 1, 0, 0]), .inBlock 0, .code (cd16 [1, 1, 1, 1])]) (us := []) (by kernel_rfl) ?_
                refine Runs.fill (m := [some (.slice Aa0 a0.length ca0), none, none, some (.slice A33 t32.length c34), some (.int .i64 t36), some (.pointer (some ⟨b56, 0, none⟩)), some (.int .i64 t74), some (.int .i64 (t32.length : Int)), none, none, none, none, none, none, none, none, none, none, none, none, none, none, none, none, none, none, none, none, none, none, none, none, none, none, none, none, none, none, none, none, none, none, none, none, none, none, none, none, none, none, none, none, none, none, none, none, none, none, none, none, none, none, none, none, none, none, none, none, none, none, none, none, none, none, none, none, none, none, none, none, none, none, none, none, none, none, none, none, none, none, none, none, none, none, none, none, none, none, none, none, none, none, none, none, none, none, none, none, none, none, none, none, none, none, none, none, none, none, none, none, none, none, none, none, none, none, none, none, none, none, none, none, none, none, none, none, none, none, none, none, none, none, none, none]) (by kernel_rfl) ?_
                exact J87 (Option.some.inj hp263) _ _ hS265
             ·skip
              have hp266 := ite_f hp209 h211
              refine q_splitr 14 (is' := [38, 39, 40, 41, 42, 43, 44, 45, 46, 47, 48, 49, 50, 51, 52, 53, 54, 55, 56, 57, 58]) (us := [(62, .bool false), (63, undef), (64, undef), (65, undef), (66, undef), (67, undef), (68, undef), (69, undef), (70, undef), (71, .bool false), (72, .bool false), (73, .bool false), (74, .int .i64 t74)]) (d := 75) (t := (t74 == 2)) (by kernel_rfl) (fun h267 => ?_) (fun h268 => ?_)
              ·skip
               have hp269 := ite_t hp266 h267
               refine q_run 2 (is' := [40, 41, 42, 43, 44, 45, 46, 47, 48, 49, 50, 51, 52, 53, 54, 55, 56, 57, 58]) (us := [(76, .bool true), (77, .pointer (some ⟨b56, 1, none⟩))]) (by kernel_rfl) ?_
               refine q_load (c := (cd16 [1, 1, 1, 0, 1, 0, 0, 1, 0, 0, 1, 1, 1, 1, 0, 0])) (i := 40) (d := (some 78)) (ty := 3) (t := 3) (x := (.tmp 77)) (p := ⟨b56, 1, none⟩) (v := .int .i64 ((gt a0 t36).A)) (by kernel_rfl) (by kernel_rfl) (by kernel_rfl) (fun w hC => (loads_at 1 (hC.blk 1 rfl) (by kernel_rfl) (by kernel_rfl))) ?_
               refine q_run 3 (is' := [44, 45, 46, 47, 48, 49, 50, 51, 52, 53, 54, 55, 56, 57, 58]) (us := [(79, .slice A33 t32.length c34), (80, .int .i64 (t32.length : Int)), (81, .int .i64 (IntKind.i64.wrap ((t32.length : Int) - 2)))]) (by kernel_rfl) ?_
               obtain ⟨g270, hp271⟩ := ite_some hp269
               obtain ⟨b272, p273, hA274, -⟩ := (hS76.row 0 rfl).at_ (len_encI .i64) (by omega) g270.1 g270.2
               refine q_indexAddr (c := (cd16 [1, 1, 1, 0, 1, 0, 0, 1, 0, 0, 1, 1, 1, 1, 0, 0])) (i := 44) (d := (some 82)) (ty := 0) (t := 59) (e := 3) (n := t32.length) (cp := c34) (sz := 1) (kk := .i64) (x := (.tmp 79)) (y := (.tmp 81)) (b := b272) (o' := p273) (j := (IntKind.i64.wrap ((t32.length : Int) - 2))) (by kernel_rfl) (by kernel_rfl) (slv (by kernel_rfl) hA274) (by kernel_rfl) (by kernel_rfl) (by kernel_rfl) g270.1 g270.2 ?_
               refine q_load (c := (cd16 [1, 1, 1, 0, 1, 0, 0, 1, 0, 0, 1, 1, 1, 1, 0, 0])) (i := 45) (d := (some 83)) (ty := 3) (t := 3) (x := (.tmp 82)) (p := ⟨b272, p273 + (IntKind.i64.wrap ((t32.length : Int) - 2)).toNat * 1, none⟩) (v := .int .i64 (gt t32 (IntKind.i64.wrap ((t32.length : Int) - 2)))) (by kernel_rfl) (by kernel_rfl) (by kernel_rfl) (fun w hC => (loads_at 0 ((hC.row 0 rfl).at2 hA274 (len_encI .i64) (by omega) g270.1 g270.2) (by kernel_rfl) (by kernel_rfl))) ?_
               refine q_splitr 1 (is' := [47, 48, 49, 50, 51, 52, 53, 54, 55, 56, 57, 58]) (us := []) (d := 84) (t := (((gt a0 t36).A) != (gt t32 (IntKind.i64.wrap ((t32.length : Int) - 2))))) (by kernel_rfl) (fun h276 => ?_) (fun h277 => ?_)
               ·skip
                have hp278 := ite_t hp271 h276
                refine q_run 12 (is' := []) (us := [(85, .bool true), (86, undef), (87, undef), (88, undef), (89, undef), (90, undef), (91, undef), (92, undef), (93, undef), (94, .bool true), (95, .bool true), (96, .bool true)]) (by kernel_rfl) ?_
                refine Qs.nil ?_
                intro w279 hS280
                refine sx_run 5 (todo' := [.code (cd16 [1, 1, 1, 0, 1, 0, 0, 1, 0, 0, 1, 1, 1, 1, 0, 1, 0, 1]), .code (cd16 [1, 1, 1, 0, 1, 0, 0, 1, 0, 0, 1, 1, 1, 1, 1]), .inBlock 1, .code (cd16 [1, 1, 1, 0, 1, 0, 0, 1, 1]), .inLoop (cd16 [1, 1, 1, 0, 1, 0, 0]), .inBlock 0, .code (cd16 [1, 1, 1, 1])]) (us := [(2, .bool false)]) (by kernel_rfl) ?_
                have hS281 := hS280.drop
                have hS282 := hS281.drop
                refine runs_ret (fn := Tryd.f16) (v := .bool false) Tryd.func16 (by kernel_rfl) ?_
                have hr283 := (hq46 _ (hq86 _ (Option.some.inj hp278)))
                cases hr283
                exact hR _ _ ⟨rfl, hS282⟩
               ·skip
                have hp284 := ite_f hp271 h277
                refine q_run 2 (is' := [49, 50, 51, 52, 53, 54, 55, 56, 57, 58]) (us := [(85, .bool false), (86, .pointer (some ⟨b56, 2, none⟩))]) (by kernel_rfl) ?_
                refine q_load (c := (cd16 [1, 1, 1, 0, 1, 0, 0, 1, 0, 0, 1, 1, 1, 1, 0, 0])) (i := 49) (d := (some 87)) (ty := 3) (t := 3) (x := (.tmp 86)) (p := ⟨b56, 2, none⟩) (v := .int .i64 ((gt a0 t36).B)) (by kernel_rfl) (by kernel_rfl) (by kernel_rfl) (fun w hC => (loads_at 2 (hC.blk 1 rfl) (by kernel_rfl) (by kernel_rfl))) ?_
                refine q_run 3 (is' := [53, 54, 55, 56, 57, 58]) (us := [(88, .slice A33 t32.length c34), (89, .int .i64 (t32.length : Int)), (90, .int .i64 (IntKind.i64.wrap ((t32.length : Int) - 1)))]) (by kernel_rfl) ?_
                obtain ⟨g285, hp286⟩ := ite_some hp284
                obtain ⟨b287, p288, hA289, -⟩ := (hS76.row 0 rfl).at_ (len_encI .i64) (by omega) g285.1 g285.2
                refine q_indexAddr (c := (cd16 [1, 1, 1, 0, 1, 0, 0, 1, 0, 0, 1, 1, 1, 1, 0, 0])) (i := 53) (d := (some 91)) (ty := 0) (t := 59) (e := 3) (n := t32.length) (cp := c34) (sz := 1) (kk := .i64) (x := (.tmp 88)) (y := (.tmp 90)) (b := b287) (o' := p288) (j := (IntKind.i64.wrap ((t32.length : Int) - 1))) (by kernel_rfl) (by kernel_rfl) (slv (by kernel_rfl) hA289) (by kernel_rfl) (by kernel_rfl) (by kernel_rfl) g285.1 g285.2 ?_
                refine q_load (c := (cd16 [1, 1, 1, 0, 1, 0, 0, 1, 0, 0, 1, 1, 1, 1, 0, 0])) (i := 54) (d := (some 92)) (ty := 3) (t := 3) (x := (.tmp 91)) (p := ⟨b287, p288 + (IntKind.i64.wrap ((t32.length : Int) - 1)).toNat * 1, none⟩) (v := .int .i64 (gt t32 (IntKind.i64.wrap ((t32.length : Int) - 1)))) (by kernel_rfl) (by kernel_rfl) (by kernel_rfl) (fun w hC => (loads_at 0 ((hC.row 0 rfl).at2 hA289 (len_encI .i64) (by omega) g285.1 g285.2) (by kernel_rfl) (by kernel_rfl))) ?_
                refine q_splitr 1 (is' := [56, 57, 58]) (us := []) (d := 93) (t := (((gt a0 t36).B) != (gt t32 (IntKind.i64.wrap ((t32.length : Int) - 1))))) (by kernel_rfl) (fun h291 => ?_) (fun h292 => ?_)
                ·skip
                 have hp293 := ite_t hp286 h291
                 refine q_run 3 (is' := []) (us := [(94, .bool true), (95, .bool true), (96, .bool true)]) (by kernel_rfl) ?_
                 refine Qs.nil ?_
                 intro w294 hS295
                 refine sx_run 5 (todo' := [.code (cd16 [1, 1, 1, 0, 1, 0, 0, 1, 0, 0, 1, 1, 1, 1, 0, 1, 0, 1]), .code (cd16 [1, 1, 1, 0, 1, 0, 0, 1, 0, 0, 1, 1, 1, 1, 1]), .inBlock 1, .code (cd16 [1, 1, 1, 0, 1, 0, 0, 1, 1]), .inLoop (cd16 [1, 1, 1, 0, 1, 0, 0]), .inBlock 0, .code (cd16 [1, 1, 1, 1])]) (us := [(2, .bool false)]) (by kernel_rfl) ?_
                 have hS296 := hS295.drop
                 have hS297 := hS296.drop
                 refine runs_ret (fn := Tryd.f16) (v := .bool false) Tryd.func16 (by kernel_rfl) ?_
                 have hr298 := (hq46 _ (hq86 _ (Option.some.inj hp293)))
                 cases hr298
                 exact hR _ _ ⟨rfl, hS297⟩
                ·skip
                 have hp299 := ite_f hp286 h292
                 refine q_run 3 (is' := []) (us := [(94, .bool false), (95, .bool false), (96, .bool false)]) (by kernel_rfl) ?_
                 refine Qs.nil ?_
                 intro w300 hS301
                 refine sx_run 2 (todo' := [.code (cd16 [1, 1, 1, 0, 1, 0, 0, 1, 0, 0, 1, 1, 1, 1, 1]), .inBlock 1, .code (cd16 [1, 1, 1, 0, 1, 0, 0, 1, 1]), .inLoop (cd16 [1, 1, 1, 0, 1, 0, 0]), .inBlock 0, .code (cd16 [1, 1, 1, 1])]) (us := []) (by kernel_rfl) ?_
                 refine Runs.fill (m := [some (.slice Aa0 a0.length ca0), none, none, some (.slice A33 t32.length c34), some (.int .i64 t36), some (.pointer (some ⟨b56, 0, none⟩)), some (.int .i64 t74), some (.int .i64 (t32.length : Int)), none, none, none, none, none, none, none, none, none, none, none, none, none, none, none, none, none, none, none, none, none, none, none, none, none, none, none, none, none, none, none, none, none, none, none, none, none, none, none, none, none, none, none, none, none, none, none, none, none, none, none, none, none, none, none, none, none, none, none, none, none, none, none, none, none, none, none, none, none, none, none, none, none, none, none, none, none, none, none, none, none, none, none, none, none, none, none, none, none, none, none, none, none, none, none, none, none, none, none, none, none, none, none, none, none, none, none, none, none, none, none, none, none, none, none, none, none, none, none, none, none, none, none, none, none, none, none, none, none, none, none, none, none, none, none, none]) (by kernel_rfl) ?_
                 exact J87 (Option.some.inj hp299) _ _ hS301
              ·skip
               have hp302 := ite_f hp266 h268
               refine q_run 21 (is' := []) (us := [(76, .bool false), (77, undef), (78, undef), (79, undef), (80, undef), (81, undef), (82, undef), (83, undef), (84, undef), (85, undef), (86, undef), (87, undef), (88, undef), (89, undef), (90, undef), (91, undef), (92, undef), (93, undef), (94, undef), (95, .bool false), (96, .bool false)]) (by kernel_rfl) ?_
               refine Qs.nil ?_
               intro w303 hS304
               refine sx_run 2 (todo' := [.code (cd16 [1, 1, 1, 0, 1, 0, 0, 1, 0, 0, 1, 1, 1, 1, 1]), .inBlock 1, .code (cd16 [1, 1, 1, 0, 1, 0, 0, 1, 1]), .inLoop (cd16 [1, 1, 1, 0, 1, 0, 0]), .inBlock 0, .code (cd16 [1, 1, 1, 1])]) (us := []) (by kernel_rfl) ?_
               refine Runs.fill (m := [some (.slice Aa0 a0.length ca0), none, none, some (.slice A33 t32.length c34), some (.int .i64 t36), some (.pointer (some ⟨b56, 0, none⟩)), some (.int .i64 t74), some (.int .i64 (t32.length : Int)), none, none, none, none, none, none, none, none, none, none, none, none, none, none, none, none, none, none, none, none, none, none, none, none, none, none, none, none, none, none, none, none, none, none, none, none, none, none, none, none, none, none, none, none, none, none, none, none, none, none, none, none, none, none, none, none, none, none, none, none, none, none, none, none, none, none, none, none, none, none, none, none, none, none, none, none, none, none, none, none, none, none, none, none, none, none, none, none, none, none, none, none, none, none, none, none, none, none, none, none, none, none, none, none, none, none, none, none, none, none, none, none, none, none, none, none, none, none, none, none, none, none, none, none, none, none, none, none, none, none, none, none, none, none, none, none]) (by kernel_rfl) ?_
               exact J87 (Option.some.inj hp302) _ _ hS304
           ·skip
            have hp305 := ite_f hp197 h199
            refine q_splitr 9 (is' := [24, 25, 26, 27, 28, 29, 30, 31, 32, 33, 34, 35, 36, 37, 38, 39, 40, 41, 42, 43, 44, 45, 46, 47, 48, 49, 50, 51, 52, 53, 54, 55, 56, 57, 58]) (us := [(53, .bool false), (54, undef), (55, undef), (56, undef), (57, .bool false), (58, .bool false), (59, .bool false), (60, .int .i64 t74)]) (d := 61) (t := (t74 == 1)) (by kernel_rfl) (fun h306 => ?_) (fun h307 => ?_)
            ·skip
             have hp308 := ite_t hp305 h306
             refine q_run 2 (is' := [26, 27, 28, 29, 30, 31, 32, 33, 34, 35, 36, 37, 38, 39, 40, 41, 42, 43, 44, 45, 46, 47, 48, 49, 50, 51, 52, 53, 54, 55, 56, 57, 58]) (us := [(62, .bool true), (63, .pointer (some ⟨b56, 1, none⟩))]) (by kernel_rfl) ?_
             refine q_load (c := (cd16 [1, 1, 1, 0, 1, 0, 0, 1, 0, 0, 1, 1, 1, 1, 0, 0])) (i := 26) (d := (some 64)) (ty := 3) (t := 3) (x := (.tmp 63)) (p := ⟨b56, 1, none⟩) (v := .int .i64 ((gt a0 t36).A)) (by kernel_rfl) (by kernel_rfl) (by kernel_rfl) (fun w hC => (loads_at 1 (hC.blk 1 rfl) (by kernel_rfl) (by kernel_rfl))) ?_
             refine q_run 3 (is' := [30, 31, 32, 33, 34, 35, 36, 37, 38, 39, 40, 41, 42, 43, 44, 45, 46, 47, 48, 49, 50, 51, 52, 53, 54, 55, 56, 57, 58]) (us := [(65, .slice A33 t32.length c34), (66, .int .i64 (t32.length : Int)), (67, .int .i64 (IntKind.i64.wrap ((t32.length : Int) - 1)))]) (by kernel_rfl) ?_
             obtain ⟨g309, hp310⟩ := ite_some hp308
             obtain ⟨b311, p312, hA313, -⟩ := (hS76.row 0 rfl).at_ (len_encI .i64) (by omega) g309.1 g309.2
             refine q_indexAddr (c := (cd16 [1, 1, 1, 0, 1, 0, 0, 1, 0, 0, 1, 1, 1, 1, 0, 0])) (i := 30) (d := (some 68)) (ty := 0) (t := 59) (e := 3) (n := t32.length) (cp := c34) (sz := 1) (kk := .i64) (x := (.tmp 65)) (y := (.tmp 67)) (b := b311) (o' := p312) (j := (IntKind.i64.wrap ((t32.length : Int) - 1))) (by kernel_rfl) (by kernel_rfl) (slv (by kernel_rfl) hA313) (by kernel_rfl) (by kernel_rfl) (by kernel_rfl) g309.1 g309.2 ?_
             refine q_load (c := (cd16 [1, 1, 1, 0, 1, 0, 0, 1, 0, 0, 1, 1, 1, 1, 0, 0])) (i := 31) (d := (some 69)) (ty := 3) (t := 3) (x := (.tmp 68)) (p := ⟨b311, p312 + (IntKind.i64.wrap ((t32.length : Int) - 1)).toNat * 1, none⟩) (v := .int .i64 (gt t32 (IntKind.i64.wrap ((t32.length : Int) - 1)))) (by kernel_rfl) (by kernel_rfl) (by kernel_rfl) (fun w hC => (loads_at 0 ((hC.row 0 rfl).at2 hA313 (len_encI .i64) (by omega) g309.1 g309.2) (by kernel_rfl) (by kernel_rfl))) ?_
             refine q_splitr 1 (is' := [33, 34, 35, 36, 37, 38, 39, 40, 41, 42, 43, 44, 45, 46, 47, 48, 49, 50, 51, 52, 53, 54, 55, 56, 57, 58]) (us := []) (d := 70) (t := (((gt a0 t36).A) != (gt t32 (IntKind.i64.wrap ((t32.length : Int) - 1))))) (by kernel_rfl) (fun h315 => ?_) (fun h316 => ?_)
             ·skip
              have hp317 := ite_t hp310 h315
              refine q_run 26 (is' := []) (us := [(71, .bool true), (72, .bool true), (73, .bool true), (74, undef), (75, undef), (76, undef), (77, undef), (78, undef), (79, undef), (80, undef), (81, undef), (82, undef), (83, undef), (84, undef), (85, undef), (86, undef), (87, undef), (88, undef), (89, undef), (90, undef), (91, undef), (92, undef), (93, undef), (94, undef), (95, undef), (96, .bool true)]) (by kernel_rfl) ?_
              refine Qs.nil ?_
              intro w318 hS319
              refine sx_run 5 (todo' := [.code (cd16 [1, 1, 1, 0, 1, 0, 0, 1, 0, 0, 1, 1, 1, 1, 0, 1, 0, 1]), .code (cd16 [1, 1, 1, 0, 1, 0, 0, 1, 0, 0, 1, 1, 1, 1, 1]), .inBlock 1, .code (cd16 [1, 1, 1, 0, 1, 0, 0, 1, 1]), .inLoop (cd16 [1, 1, 1, 0, 1, 0, 0]), .inBlock 0, .code (cd16 [1, 1, 1, 1])]) (us := [(2, .bool false)]) (by kernel_rfl) ?_
              have hS320 := hS319.drop
              have hS321 := hS320.drop
              refine runs_ret (fn := Tryd.f16) (v := .bool false) Tryd.func16 (by kernel_rfl) ?_
              have hr322 := (hq46 _ (hq86 _ (Option.some.inj hp317)))
              cases hr322
              exact hR _ _ ⟨rfl, hS321⟩
             ·skip
              have hp323 := ite_f hp310 h316
              refine q_splitr 5 (is' := [38, 39, 40, 41, 42, 43, 44, 45, 46, 47, 48, 49, 50, 51, 52, 53, 54, 55, 56, 57, 58]) (us := [(71, .bool false), (72, .bool false), (73, .bool false), (74, .int .i64 t74)]) (d := 75) (t := (t74 == 2)) (by kernel_rfl) (fun h324 => ?_) (fun h325 => ?_)
              ·skip
               have hp326 := ite_t hp323 h324
               refine q_run 2 (is' := [40, 41, 42, 43, 44, 45, 46, 47, 48, 49, 50, 51, 52, 53, 54, 55, 56, 57, 58]) (us := [(76, .bool true), (77, .pointer (some ⟨b56, 1, none⟩))]) (by kernel_rfl) ?_
               refine q_load (c := (cd16 [1, 1, 1, 0, 1, 0, 0, 1, 0, 0, 1, 1, 1, 1, 0, 0])) (i := 40) (d := (some 78)) (ty := 3) (t := 3) (x := (.tmp 77)) (p := ⟨b56, 1, none⟩) (v := .int .i64 ((gt a0 t36).A)) (by kernel_rfl) (by kernel_rfl) (by kernel_rfl) (fun w hC => (loads_at 1 (hC.blk 1 rfl) (by kernel_rfl) (by kernel_rfl))) ?_
               refine q_run 3 (is' := [44, 45, 46, 47, 48, 49, 50, 51, 52, 53, 54, 55, 56, 57, 58]) (us := [(79, .slice A33 t32.length c34), (80, .int .i64 (t32.length : Int)), (81, .int .i64 (IntKind.i64.wrap ((t32.length : Int) - 2)))]) (by kernel_rfl) ?_
               obtain ⟨g327, hp328⟩ := ite_some hp326
               obtain ⟨b329, p330, hA331, -⟩ := (hS76.row 0 rfl).at_ (len_encI .i64) (by omega) g327.1 g327.2
               refine q_indexAddr (c := (cd16 [1, 1, 1, 0, 1, 0, 0, 1, 0, 0, 1, 1, 1, 1, 0, 0])) (i := 44) (d := (some 82)) (ty := 0) (t := 59) (e := 3) (n := t32.length) (cp := c34) (sz := 1) (kk := .i64) (x := (.tmp 79)) (y := (.tmp 81)) (b := b329) (o' := p330) (j := (IntKind.i64.wrap ((t32.length : Int) - 2))) (by kernel_rfl) (by kernel_rfl) (slv (by kernel_rfl) hA331) (by kernel_rfl) (by kernel_rfl) (by kernel_rfl) g327.1 g327.2 ?_
               refine q_load (c := (cd16 [1, 1, 1, 0, 1, 0, 0, 1, 0, 0, 1, 1, 1, 1, 0, 0])) (i := 45) (d := (some 83)) (ty := 3) (t := 3) (x := (.tmp 82)) (p := ⟨b329, p330 + (IntKind.i64.wrap ((t32.length : Int) - 2)).toNat * 1, none⟩) (v := .int .i64 (gt t32 (IntKind.i64.wrap ((t32.length : Int) - 2)))) (by kernel_rfl) (by kernel_rfl) (by kernel_rfl) (fun w hC => (loads_at 0 ((hC.row 0 rfl).at2 hA331 (len_encI .i64) (by omega) g327.1 g327.2) (by kernel_rfl) (by kernel_rfl))) ?_
               refine q_splitr 1 (is' := [47, 48, 49, 50, 51, 52, 53, 54, 55, 56, 57, 58]) (us := []) (d := 84) (t := (((gt a0 t36).A) != (gt t32 (IntKind.i64.wrap ((t32.length : Int) - 2))))) (by kernel_rfl) (fun h333 => ?_) (fun h334 => ?_)
               ·skip
                have hp335 := ite_t hp328 h333
                refine q_run 12 (is' := []) (us := [(85, .bool true), (86, undef), (87, undef), (88, undef), (89, undef), (90, undef), (91, undef), (92, undef), (93, undef), (94, .bool true), (95, .bool true), (96, .bool true)]) (by kernel_rfl) ?_
                refine Qs.nil ?_
                intro w336 hS337
                refine sx_run 5 (todo' := [.code (cd16 [1, 1, 1, 0, 1, 0, 0, 1, 0, 0, 1, 1, 1, 1, 0, 1, 0, 1]), .code (cd16 [1, 1, 1, 0, 1, 0, 0, 1, 0, 0, 1, 1, 1, 1, 1]), .inBlock 1, .code (cd16 [1, 1, 1, 0, 1, 0, 0, 1, 1]), .inLoop (cd16 [1, 1, 1, 0, 1, 0, 0]), .inBlock 0, .code (cd16 [1, 1, 1, 1])]) (us := [(2, .bool false)]) (by kernel_rfl) ?_
                have hS338 := hS337.drop
                have hS339 := hS338.drop
                refine runs_ret (fn := Tryd.f16) (v := .bool false) Tryd.func16 (by kernel_rfl) ?_
                have hr340 := (hq46 _ (hq86 _ (Option.some.inj hp335)))
                cases hr340
                exact hR _ _ ⟨rfl, hS339⟩
               ·skip
                have hp341 := ite_f hp328 h334
                refine q_run 2 (is' := [49, 50, 51, 52, 53, 54, 55, 56, 57, 58]) (us := [(85, .bool false), (86, .pointer (some ⟨b56, 2, none⟩))]) (by kernel_rfl) ?_
                refine q_load (c := (cd16 [1, 1, 1, 0, 1, 0, 0, 1, 0, 0, 1, 1, 1, 1, 0, 0])) (i := 49) (d := (some 87)) (ty := 3) (t := 3) (x := (.tmp 86)) (p := ⟨b56, 2, none⟩) (v := .int .i64 ((gt a0 t36).B)) (by kernel_rfl) (by kernel_rfl) (by kernel_rfl) (fun w hC => (loads_at 2 (hC.blk 1 rfl) (by kernel_rfl) (by kernel_rfl))) ?_
                refine q_run 3 (is' := [53, 54, 55, 56, 57, 58]) (us := [(88, .slice A33 t32.length c34), (89, .int .i64 (t32.length : Int)), (90, .int .i64 (IntKind.i64.wrap ((t32.length : Int) - 1)))]) (by kernel_rfl) ?_
                obtain ⟨g342, hp343⟩ := ite_some hp341
                obtain ⟨b344, p345, hA346, -⟩ := (hS76.row 0 rfl).at_ (len_encI .i64) (by omega) g342.1 g342.2
                refine q_indexAddr (c := (cd16 [1, 1, 1, 0, 1, 0, 0, 1, 0, 0, 1, 1, 1, 1, 0, 0])) (i := 53) (d := (some 91)) (ty := 0) (t := 59) (e := 3) (n := t32.length) (cp := c34) (sz := 1) (kk := .i64) (x := (.tmp 88)) (y := (.tmp 90)) (b := b344) (o' := p345) (j := (IntKind.i64.wrap ((t32.length : Int) - 1))) (by kernel_rfl) (by kernel_rfl) (slv (by kernel_rfl) hA346) (by kernel_rfl) (by kernel_rfl) (by kernel_rfl) g342.1 g342.2 ?_
                refine q_load (c := (cd16 [1, 1, 1, 0, 1, 0, 0, 1, 0, 0, 1, 1, 1, 1, 0, 0])) (i := 54) (d := (some 92)) (ty := 3) (t := 3) (x := (.tmp 91)) (p := ⟨b344, p345 + (IntKind.i64.wrap ((t32.length : Int) - 1)).toNat * 1, none⟩) (v := .int .i64 (gt t32 (IntKind.i64.wrap ((t32.length : Int) - 1)))) (by kernel_rfl) (by kernel_rfl) (by kernel_rfl) (fun w hC => (loads_at 0 ((hC.row 0 rfl).at2 hA346 (len_encI .i64) (by omega) g342.1 g342.2) (by kernel_rfl) (by kernel_rfl))) ?_
                refine q_splitr 1 (is' := [56, 57, 58]) (us := []) (d := 93) (t := (((gt a0 t36).B) != (gt t32 (IntKind.i64.wrap ((t32.length : Int) - 1))))) (by kernel_rfl) (fun h348 => ?_) (fun h349 => ?_)
                ·skip
                 have hp350 := ite_t hp343 h348
                 refine q_run 3 (is' := []) (us := [(94, .bool true), (95, .bool true), (96, .bool true)]) (by kernel_rfl) ?_
                 refine Qs.nil ?_
                 intro w351 hS352
                 refine sx_run 5 (todo' := [.code (cd16 [1, 1, 1, 0, 1, 0, 0, 1, 0, 0, 1, 1, 1, 1, 0, 1, 0, 1]), .code (cd16 [1, 1, 1, 0, 1, 0, 0, 1, 0, 0, 1, 1, 1, 1, 1]), .inBlock 1, .code (cd16 [1, 1, 1, 0, 1, 0, 0, 1, 1]), .inLoop (cd16 [1, 1, 1, 0, 1, 0, 0]), .inBlock 0, .code (cd16 [1, 1, 1, 1])]) (us := [(2, .bool false)]) (by kernel_rfl) ?_
                 have hS353 := hS352.drop
                 have hS354 := hS353.drop
                 refine runs_ret (fn := Tryd.f16) (v := .bool false) Tryd.func16 (by kernel_rfl) ?_
                 have hr355 := (hq46 _ (hq86 _ (Option.some.inj hp350)))
                 cases hr355
                 exact hR _ _ ⟨rfl, hS354⟩
                ·skip
                 have hp356 := ite_f hp343 h349
                 refine q_run 3 (is' := []) (us := [(94, .bool false), (95, .bool false), (96, .bool false)]) (by kernel_rfl) ?_
                 refine Qs.nil ?_
                 intro w357 hS358
                 refine sx_run 2 (todo' := [.code (cd16 [1, 1, 1, 0, 1, 0, 0, 1, 0, 0, 1, 1, 1, 1, 1]), .inBlock 1, .code (cd16 [1, 1, 1, 0, 1, 0, 0, 1, 1]), .inLoop (cd16 [1, 1, 1, 0, 1, 0, 0]), .inBlock 0, .code (cd16 [1, 1, 1, 1])]) (us := []) (by kernel_rfl) ?_
                 refine Runs.fill (m := [some (.slice Aa0 a0.length ca0), none, none, some (.slice A33 t32.length c34), some (.int .i64 t36), some (.pointer (some ⟨b56, 0, none⟩)), some (.int .i64 t74), some (.int .i64 (t32.length : Int)), none, none, none, none, none, none, none, none, none, none, none, none, none, none, none, none, none, none, none, none, none, none, none, none, none, none, none, none, none, none, none, none, none, none, none, none, none, none, none, none, none, none, none, none, none, none, none, none, none, none, none, none, none, none, none, none, none, none, none, none, none, none, none, none, none, none, none, none, none, none, none, none, none, none, none, none, none, none, none, none, none, none, none, none, none, none, none, none, none, none, none, none, none, none, none, none, none, none, none, none, none, none, none, none, none, none, none, none, none, none, none, none, none, none, none, none, none, none, none, none, none, none, none, none, none, none, none, none, none, none, none, none, none, none, none, none]) (by kernel_rfl) ?_
                 exact J87 (Option.some.inj hp356) _ _ hS358
              ·skip
               have hp359 := ite_f hp323 h325
               refine q_run 21 (is' := []) (us := [(76, .bool false), (77, undef), (78, undef), (79, undef), (80, undef), (81, undef), (82, undef), (83, undef), (84, undef), (85, undef), (86, undef), (87, undef), (88, undef), (89, undef), (90, undef), (91, undef), (92, undef), (93, undef), (94, undef), (95, .bool false), (96, .bool false)]) (by kernel_rfl) ?_
               refine Qs.nil ?_
               intro w360 hS361
               refine sx_run 2 (todo' := [.code (cd16 [1, 1, 1, 0, 1, 0, 0, 1, 0, 0, 1, 1, 1, 1, 1]), .inBlock 1, .code (cd16 [1, 1, 1, 0, 1, 0, 0, 1, 1]), .inLoop (cd16 [1, 1, 1, 0, 1, 0, 0]), .inBlock 0, .code (cd16 [1, 1, 1, 1])]) (us := []) (by kernel_rfl) ?_
               refine Runs.fill (m := [some (.slice Aa0 a0.length ca0), none, none, some (.slice A33 t32.length c34), some (.int .i64 t36), some (.pointer (some ⟨b56, 0, none⟩)), some (.int .i64 t74), some (.int .i64 (t32.length : Int)), none, none, none, none, none, none, none, none, none, none, none, none, none, none, none, none, none, none, none, none, none, none, none, none, none, none, none, none, none, none, none, none, none, none, none, none, none, none, none, none, none, none, none, none, none, none, none, none, none, none, none, none, none, none, none, none, none, none, none, none, none, none, none, none, none, none, none, none, none, none, none, none, none, none, none, none, none, none, none, none, none, none, none, none, none, none, none, none, none, none, none, none, none, none, none, none, none, none, none, none, none, none, none, none, none, none, none, none, none, none, none, none, none, none, none, none, none, none, none, none, none, none, none, none, none, none, none, none, none, none, none, none, none, none, none, none]) (by kernel_rfl) ?_
               exact J87 (Option.some.inj hp359) _ _ hS361
            ·skip
             have hp362 := ite_f hp305 h307
             refine q_splitr 14 (is' := [38, 39, 40, 41, 42, 43, 44, 45, 46, 47, 48, 49, 50, 51, 52, 53, 54, 55, 56, 57, 58]) (us := [(62, .bool false), (63, undef), (64, undef), (65, undef), (66, undef), (67, undef), (68, undef), (69, undef), (70, undef), (71, .bool false), (72, .bool false), (73, .bool false), (74, .int .i64 t74)]) (d := 75) (t := (t74 == 2)) (by kernel_rfl) (fun h363 => ?_) (fun h364 => ?_)
             ·skip
              have hp365 := ite_t hp362 h363
              refine q_run 2 (is' := [40, 41, 42, 43, 44, 45, 46, 47, 48, 49, 50, 51, 52, 53, 54, 55, 56, 57, 58]) (us := [(76, .bool true), (77, .pointer (some ⟨b56, 1, none⟩))]) (by kernel_rfl) ?_
              refine q_load (c := (cd16 [1, 1, 1, 0, 1, 0, 0, 1, 0, 0, 1, 1, 1, 1, 0, 0])) (i := 40) (d := (some 78)) (ty := 3) (t := 3) (x := (.tmp 77)) (p := ⟨b56, 1, none⟩) (v := .int .i64 ((gt a0 t36).A)) (by kernel_rfl) (by kernel_rfl) (by kernel_rfl) (fun w hC => (loads_at 1 (hC.blk 1 rfl) (by kernel_rfl) (by kernel_rfl))) ?_
              refine q_run 3 (is' := [44, 45, 46, 47, 48, 49, 50, 51, 52, 53, 54, 55, 56, 57, 58]) (us := [(79, .slice A33 t32.length c34), (80, .int .i64 (t32.length : Int)), (81, .int .i64 (IntKind.i64.wrap ((t32.length : Int) - 2)))]) (by kernel_rfl) ?_
              obtain ⟨g366, hp367⟩ := ite_some hp365
              obtain ⟨b368, p369, hA370, -⟩ := (hS76.row 0 rfl).at_ (len_encI .i64) (by omega) g366.1 g366.2
              refine q_indexAddr (c := (cd16 [1, 1, 1, 0, 1, 0, 0, 1, 0, 0, 1, 1, 1, 1, 0, 0])) (i := 44) (d := (some 82)) (ty := 0) (t := 59) (e := 3) (n := t32.length) (cp := c34) (sz := 1) (kk := .i64) (x := (.tmp 79)) (y := (.tmp 81)) (b := b368) (o' := p369) (j := (IntKind.i64.wrap ((t32.length : Int) - 2))) (by kernel_rfl) (by kernel_rfl) (slv (by kernel_rfl) hA370) (by kernel_rfl) (by kernel_rfl) (by kernel_rfl) g366.1 g366.2 ?_
              refine q_load (c := (cd16 [1, 1, 1, 0, 1, 0, 0, 1, 0, 0, 1, 1, 1, 1, 0, 0])) (i := 45) (d := (some 83)) (ty := 3) (t := 3) (x := (.tmp 82)) (p := ⟨b368, p369 + (IntKind.i64.wrap ((t32.length : Int) - 2)).toNat * 1, none⟩) (v := .int .i64 (gt t32 (IntKind.i64.wrap ((t32.length : Int) - 2)))) (by kernel_rfl) (by kernel_rfl) (by kernel_rfl) (fun w hC => (loads_at 0 ((hC.row 0 rfl).at2 hA370 (len_encI .i64) (by omega) g366.1 g366.2) (by kernel_rfl) (by kernel_rfl))) ?_
              refine q_splitr 1 (is' := [47, 48, 49, 50, 51, 52, 53, 54, 55, 56, 57, 58]) (us := []) (d := 84) (t := (((gt a0 t36).A) != (gt t32 (IntKind.i64.wrap ((t32.length : Int) - 2))))) (by kernel_rfl) (fun h372 => ?_) (fun h373 => ?_)
              ·skip
               have hp374 := ite_t hp367 h372
               refine q_run 12 (is' := []) (us := [(85, .bool true), (86, undef), (87, undef), (88, undef), (89, undef), (90, undef), (91, undef), (92, undef), (93, undef), (94, .bool true), (95, .bool true), (96, .bool true)]) (by kernel_rfl) ?_
               refine Qs.nil ?_
               intro w375 hS376
               refine sx_run 5 (todo' := [.code (cd16 [1, 1, 1, 0, 1, 0, 0, 1, 0, 0, 1, 1, 1, 1, 0, 1, 0, 1]), .code (cd16 [1, 1, 1, 0, 1, 0, 0, 1, 0, 0, 1, 1, 1, 1, 1]), .inBlock 1, .code (cd16 [1, 1, 1, 0, 1, 0, 0, 1, 1]), .inLoop (cd16 [1, 1, 1, 0, 1, 0, 0]), .inBlock 0, .code (cd16 [1, 1, 1, 1])]) (us := [(2, .bool false)]) (by kernel_rfl) ?_
               have hS377 := hS376.drop
               have hS378 := hS377.drop
               refine runs_ret (fn := Tryd.f16) (v := .bool false) Tryd.func16 (by kernel_rfl) ?_
               have hr379 := (hq46 _ (hq86 _ (Option.some.inj hp374)))
               cases hr379
               exact hR _ _ ⟨rfl, hS378⟩
              ·skip
               have hp380 := ite_f hp367 h373
               refine q_run 2 (is' := [49, 50, 51, 52, 53, 54, 55, 56, 57, 58]) (us := [(85, .bool false), (86, .pointer (some ⟨b56, 2, none⟩))]) (by kernel_rfl) ?_
               refine q_load (c := (cd16 [1, 1, 1, 0, 1, 0, 0, 1, 0, 0, 1, 1, 1, 1, 0, 0])) (i := 49) (d := (some 87)) (ty := 3) (t := 3) (x := (.tmp 86)) (p := ⟨b56, 2, none⟩) (v := .int .i64 ((gt a0 t36).B)) (by kernel_rfl) (by kernel_rfl) (by kernel_rfl) (fun w hC => (loads_at 2 (hC.blk 1 rfl) (by kernel_rfl) (by kernel_rfl))) ?_
               refine q_run 3 (is' := [53, 54, 55, 56, 57, 58]) (us := [(88, .slice A33 t32.length c34), (89, .int .i64 (t32.length : Int)), (90, .int .i64 (IntKind.i64.wrap ((t32.length : Int) - 1)))]) (by kernel_rfl) ?_
               obtain ⟨g381, hp382⟩ := ite_some hp380
               obtain ⟨b383, p384, hA385, -⟩ := (hS76.row 0 rfl).at_ (len_encI .i64) (by omega) g381.1 g381.2
               refine q_indexAddr (c := (cd16 [1, 1, 1, 0, 1, 0, 0, 1, 0, 0, 1, 1, 1, 1, 0, 0])) (i := 53) (d := (some 91)) (ty := 0) (t := 59) (e := 3) (n := t32.length) (cp := c34) (sz := 1) (kk := .i64) (x := (.tmp 88)) (y := (.tmp 90)) (b := b383) (o' := p384) (j := (IntKind.i64.wrap ((t32.length : Int) - 1))) (by kernel_rfl) (by kernel_rfl) (slv (by kernel_rfl) hA385) (by kernel_rfl) (by kernel_rfl) (by kernel_rfl) g381.1 g381.2 ?_
               refine q_load (c := (cd16 [1, 1, 1, 0, 1, 0, 0, 1, 0, 0, 1, 1, 1, 1, 0, 0])) (i := 54) (d := (some 92)) (ty := 3) (t := 3) (x := (.tmp 91)) (p := ⟨b383, p384 + (IntKind.i64.wrap ((t32.length : Int) - 1)).toNat * 1, none⟩) (v := .int .i64 (gt t32 (IntKind.i64.wrap ((t32.length : Int) - 1)))) (by kernel_rfl) (by kernel_rfl) (by kernel_rfl) (fun w hC => (loads_at 0 ((hC.row 0 rfl).at2 hA385 (len_encI .i64) (by omega) g381.1 g381.2) (by kernel_rfl) (by kernel_rfl))) ?_
               refine q_splitr 1 (is' := [56, 57, 58]) (us := []) (d := 93) (t := (((gt a0 t36).B) != (gt t32 (IntKind.i64.wrap ((t32.length : Int) - 1))))) (by kernel_rfl) (fun h387 => ?_) (fun h388 => ?_)
               ·skip
                have hp389 := ite_t hp382 h387
                refine q_run 3 (is' := []) (us := [(94, .bool true), (95, .bool true), (96, .bool true)]) (by kernel_rfl) ?_
                refine Qs.nil ?_
                intro w390 hS391
                refine sx_run 5 (todo' := [.code (cd16 [1, 1, 1, 0, 1, 0, 0, 1, 0, 0, 1, 1, 1, 1, 0, 1, 0, 1]), .code (cd16 [1, 1, 1, 0, 1, 0, 0, 1, 0, 0, 1, 1, 1, 1, 1]), .inBlock 1, .code (cd16 [1, 1, 1, 0, 1, 0, 0, 1, 1]), .inLoop (cd16 [1, 1, 1, 0, 1, 0, 0]), .inBlock 0, .code (cd16 [1, 1, 1, 1])]) (us := [(2, .bool false)]) (by kernel_rfl) ?_
                have hS392 := hS391.drop
                have hS393 := hS392.drop
                refine runs_ret (fn := Tryd.f16) (v := .bool false) Tryd.func16 (by kernel_rfl) ?_
                have hr394 := (hq46 _ (hq86 _ (Option.some.inj hp389)))
                cases hr394
                exact hR _ _ ⟨rfl, hS393⟩
               ·skip
                have hp395 := ite_f hp382 h388
                refine q_run 3 (is' := []) (us := [(94, .bool false), (95, .bool false), (96, .bool false)]) (by kernel_rfl) ?_
                refine Qs.nil ?_
                intro w396 hS397
                refine sx_run 2 (todo' := [.code (cd16 [1, 1, 1, 0, 1, 0, 0, 1, 0, 0, 1, 1, 1, 1, 1]), .inBlock 1, .code (cd16 [1, 1, 1, 0, 1, 0, 0, 1, 1]), .inLoop (cd16 [1, 1, 1, 0, 1, 0, 0]), .inBlock 0, .code (cd16 [1, 1, 1, 1])]) (us := []) (by kernel_rfl) ?_
                refine Runs.fill (m := [some (.slice Aa0 a0.length ca0), none, none, some (.slice A33 t32.length c34), some (.int .i64 t36), some (.pointer (some ⟨b56, 0, none⟩)), some (.int .i64 t74), some (.int .i64 (t32.length : Int)), none, none, none, none, none, none, none, none, none, none, none, none, none, none, none, none, none, none, none, none, none, none, none, none, none, none, none, none, none, none, none, none, none, none, none, none, none, none, none, none, none, none, none, none, none, none, none, none, none, none, none, none, none, none, none, none, none, none, none, none, none, none, none, none, none, none, none, none, none, none, none, none, none, none, none, none, none, none, none, none, none, none, none, none, none, none, none, none, none, none, none, none, none, none, none, none, none, none, none, none, none, none, none, none, none, none, none, none, none, none, none, none, none, none, none, none, none, none, none, none, none, none, none, none, none, none, none, none, none, none, none, none, none, none, none, none]) (by kernel_rfl) ?_
                exact J87 (Option.some.inj hp395) _ _ hS397
             ·skip
              have hp398 := ite_f hp362 h364
              refine q_run 21 (is' := []) (us := [(76, .bool false), (77, undef), (78, undef), (79, undef), (80, undef), (81, undef), (82, undef), (83, undef), (84, undef), (85, undef), (86, undef), (87, undef), (88, undef), (89, undef), (90, undef), (91, undef), (92, undef), (93, undef), (94, undef), (95, .bool false), (96, .bool false)]) (by kernel_rfl) ?_
              refine Qs.nil ?_
              intro w399 hS400
              refine sx_run 2 (todo' := [.code (cd16 [1, 1, 1, 0, 1, 0, 0, 1, 0, 0, 1, 1, 1, 1, 1]), .inBlock 1, .code (cd16 [1, 1, 1, 0, 1, 0, 0, 1, 1]), .inLoop (cd16 [1, 1, 1, 0, 1, 0, 0]), .inBlock 0, .code (cd16 [1, 1, 1, 1])]) (us := []) (by kernel_rfl) ?_
              refine Runs.fill (m := [some (.slice Aa0 a0.length ca0), none, none, some (.slice A33 t32.length c34), some (.int .i64 t36), some (.pointer (some ⟨b56, 0, none⟩)), some (.int .i64 t74), some (.int .i64 (t32.length : Int)), none, none, none, none, none, none, none, none, none, none, none, none, none, none, none, none, none, none, none, none, none, none, none, none, none, none, none, none, none, none, none, none, none, none, none, none, none, none, none, none, none, none, none, none, none, none, none, none, none, none, none, none, none, none, none, none, none, none, none, none, none, none, none, none, none, none, none, none, none, none, none, none, none, none, none, none, none, none, none, none, none, none, none, none, none, none, none, none, none, none, none, none, none, none, none, none, none, none, none, none, none, none, none, none, none, none, none, none, none, none, none, none, none, none, none, none, none, none, none, none, none, none, none, none, none, none, none, none, none, none, none, none, none, none, none, none]) (by kernel_rfl) ?_
              exact J87 (Option.some.inj hp398) _ _ hS400
         ·skip
          have hp401 := ite_f hp185 h187
          refine q_splitr 9 (is' := [15, 16, 17, 18, 19, 20, 21, 22, 23, 24, 25, 26, 27, 28, 29, 30, 31, 32, 33, 34, 35, 36, 37, 38, 39, 40, 41, 42, 43, 44, 45, 46, 47, 48, 49, 50, 51, 52, 53, 54, 55, 56, 57, 58]) (us := [(44, .bool false), (45, undef), (46, undef), (47, undef), (48, .bool false), (49, .bool false), (50, .bool false), (51, .int .i64 t74)]) (d := 52) (t := (decide (t74 < 2))) (by kernel_rfl) (fun h402 => ?_) (fun h403 => ?_)
          ·skip
           have hp404 := ite_t hp401 h402
           refine q_run 2 (is' := [17, 18, 19, 20, 21, 22, 23, 24, 25, 26, 27, 28, 29, 30, 31, 32, 33, 34, 35, 36, 37, 38, 39, 40, 41, 42, 43, 44, 45, 46, 47, 48, 49, 50, 51, 52, 53, 54, 55, 56, 57, 58]) (us := [(53, .bool true), (54, .pointer (some ⟨b56, 2, none⟩))]) (by kernel_rfl) ?_
           refine q_load (c := (cd16 [1, 1, 1, 0, 1, 0, 0, 1, 0, 0, 1, 1, 1, 1, 0, 0])) (i := 17) (d := (some 55)) (ty := 3) (t := 3) (x := (.tmp 54)) (p := ⟨b56, 2, none⟩) (v := .int .i64 ((gt a0 t36).B)) (by kernel_rfl) (by kernel_rfl) (by kernel_rfl) (fun w hC => (loads_at 2 (hC.blk 1 rfl) (by kernel_rfl) (by kernel_rfl))) ?_
           refine q_splitr 1 (is' := [19, 20, 21, 22, 23, 24, 25, 26, 27, 28, 29, 30, 31, 32, 33, 34, 35, 36, 37, 38, 39, 40, 41, 42, 43, 44, 45, 46, 47, 48, 49, 50, 51, 52, 53, 54, 55, 56, 57, 58]) (us := []) (d := 56) (t := (((gt a0 t36).B) != 0)) (by kernel_rfl) (fun h405 => ?_) (fun h406 => ?_)
           ·skip
            have hp407 := ite_t hp404 h405
            refine q_run 40 (is' := []) (us := [(57, .bool true), (58, .bool true), (59, .bool true), (60, undef), (61, undef), (62, undef), (63, undef), (64, undef), (65, undef), (66, undef), (67, undef), (68, undef), (69, undef), (70, undef), (71, undef), (72, .bool true), (73, .bool true), (74, undef), (75, undef), (76, undef), (77, undef), (78, undef), (79, undef), (80, undef), (81, undef), (82, undef), (83, undef), (84, undef), (85, undef), (86, undef), (87, undef), (88, undef), (89, undef), (90, undef), (91, undef), (92, undef), (93, undef), (94, undef), (95, undef), (96, .bool true)]) (by kernel_rfl) ?_
            refine Qs.nil ?_
            intro w408 hS409
            refine sx_run 5 (todo' := [.code (cd16 [1, 1, 1, 0, 1, 0, 0, 1, 0, 0, 1, 1, 1, 1, 0, 1, 0, 1]), .code (cd16 [1, 1, 1, 0, 1, 0, 0, 1, 0, 0, 1, 1, 1, 1, 1]), .inBlock 1, .code (cd16 [1, 1, 1, 0, 1, 0, 0, 1, 1]), .inLoop (cd16 [1, 1, 1, 0, 1, 0, 0]), .inBlock 0, .code (cd16 [1, 1, 1, 1])]) (us := [(2, .bool false)]) (by kernel_rfl) ?_
            have hS410 := hS409.drop
            have hS411 := hS410.drop
            refine runs_ret (fn := Tryd.f16) (v := .bool false) Tryd.func16 (by kernel_rfl) ?_
            have hr412 := (hq46 _ (hq86 _ (Option.some.inj hp407)))
            cases hr412
            exact hR _ _ ⟨rfl, hS411⟩
           ·skip
            have hp413 := ite_f hp404 h406
            refine q_splitr 5 (is' := [24, 25, 26, 27, 28, 29, 30, 31, 32, 33, 34, 35, 36, 37, 38, 39, 40, 41, 42, 43, 44, 45, 46, 47, 48, 49, 50, 51, 52, 53, 54, 55, 56, 57, 58]) (us := [(57, .bool false), (58, .bool false), (59, .bool false), (60, .int .i64 t74)]) (d := 61) (t := (t74 == 1)) (by kernel_rfl) (fun h414 => ?_) (fun h415 => ?_)
            ·skip
             have hp416 := ite_t hp413 h414
             refine q_run 2 (is' := [26, 27, 28, 29, 30, 31, 32, 33, 34, 35, 36, 37, 38, 39, 40, 41, 42, 43, 44, 45, 46, 47, 48, 49, 50, 51, 52, 53, 54, 55, 56, 57, 58]) (us := [(62, .bool true), (63, .pointer (some ⟨b56, 1, none⟩))]) (by kernel_rfl) ?_
             refine q_load (c := (cd16 [1, 1, 1, 0, 1, 0, 0, 1, 0, 0, 1, 1, 1, 1, 0, 0])) (i := 26) (d := (some 64)) (ty := 3) (t := 3) (x := (.tmp 63)) (p := ⟨b56, 1, none⟩) (v := .int .i64 ((gt a0 t36).A)) (by kernel_rfl) (by kernel_rfl) (by kernel_rfl) (fun w hC => (loads_at 1 (hC.blk 1 rfl) (by kernel_rfl) (by kernel_rfl))) ?_
             refine q_run 3 (is' := [30, 31, 32, 33, 34, 35, 36, 37, 38, 39, 40, 41, 42, 43, 44, 45, 46, 47, 48, 49, 50, 51, 52, 53, 54, 55, 56, 57, 58]) (us := [(65, .slice A33 t32.length c34), (66, .int .i64 (t32.length : Int)), (67, .int .i64 (IntKind.i64.wrap ((t32.length : Int) - 1)))]) (by kernel_rfl) ?_
             obtain ⟨g417, hp418⟩ := ite_some hp416
             obtain ⟨b419, p420, hA421, -⟩ := (hS76.row 0 rfl).at_ (len_encI .i64) (by omega) g417.1 g417.2
             refine q_indexAddr (c := (cd16 [1, 1, 1, 0, 1, 0, 0, 1, 0, 0, 1, 1, 1, 1, 0, 0])) (i := 30) (d := (some 68)) (ty := 0) (t := 59) (e := 3) (n := t32.length) (cp := c34) (sz := 1) (kk := .i64) (x := (.tmp 65)) (y := (.tmp 67)) (b := b419) (o' := p420) (j := (IntKind.i64.wrap ((t32.length : Int) - 1))) (by kernel_rfl) (by kernel_rfl) (slv (by kernel_rfl) hA421) (by kernel_rfl) (by kernel_rfl) (by kernel_rfl) g417.1 g417.2 ?_
             refine q_load (c := (cd16 [1, 1, 1, 0, 1, 0, 0, 1, 0, 0, 1, 1, 1, 1, 0, 0])) (i := 31) (d := (some 69)) (ty := 3) (t := 3) (x := (.tmp 68)) (p := ⟨b419, p420 + (IntKind.i64.wrap ((t32.length : Int) - 1)).toNat * 1, none⟩) (v := .int .i64 (gt t32 (IntKind.i64.wrap ((t32.length : Int) - 1)))) (by kernel_rfl) (by kernel_rfl) (by kernel_rfl) (fun w hC => (loads_at 0 ((hC.row 0 rfl).at2 hA421 (len_encI .i64) (by omega) g417.1 g417.2) (by kernel_rfl) (by kernel_rfl))) ?_
             refine q_splitr 1 (is' := [33, 34, 35, 36, 37, 38, 39, 40, 41, 42, 43, 44, 45, 46, 47, 48, 49, 50, 51, 52, 53, 54, 55, 56, 57, 58]) (us := []) (d := 70) (t := (((gt a0 t36).A) != (gt t32 (IntKind.i64.wrap ((t32.length : Int) - 1))))) (by kernel_rfl) (fun h423 => ?_) (fun h424 => ?_)
             ·skip
              have hp425 := ite_t hp418 h423
              refine q_run 26 (is' := []) (us := [(71, .bool true), (72, .bool true), (73, .bool true), (74, undef), (75, undef), (76, undef), (77, undef), (78, undef), (79, undef), (80, undef), (81, undef), (82, undef), (83, undef), (84, undef), (85, undef), (86, undef), (87, undef), (88, undef), (89, undef), (90, undef), (91, undef), (92, undef), (93, undef), (94, undef), (95, undef), (96, .bool true)]) (by kernel_rfl) ?_
              refine Qs.nil ?_
              intro w426 hS427
              refine sx_run 5 (todo' := [.code (cd16 [1, 1, 1, 0, 1, 0, 0, 1, 0, 0, 1, 1, 1, 1, 0, 1, 0, 1]), .code (cd16 [1, 1, 1, 0, 1, 0, 0, 1, 0, 0, 1, 1, 1, 1, 1]), .inBlock 1, .code (cd16 [1, 1, 1, 0, 1, 0, 0, 1, 1]), .inLoop (cd16 [1, 1, 1, 0, 1, 0, 0]), .inBlock 0, .code (cd16 [1, 1, 1, 1])]) (us := [(2, .bool false)]) (by kernel_rfl) ?_
              have hS428 := hS427.drop
              have hS429 := hS428.drop
              refine runs_ret (fn := Tryd.f16) (v := .bool false) Tryd.func16 (by kernel_rfl) ?_
              have hr430 := (hq46 _ (hq86 _ (Option.some.inj hp425)))
              cases hr430
              exact hR _ _ ⟨rfl, hS429⟩
             ·skip
              have hp431 := ite_f hp418 h424
              refine q_splitr 5 (is' := [38, 39, 40, 41, 42, 43, 44, 45, 46, 47, 48, 49, 50, 51, 52, 53, 54, 55, 56, 57, 58]) (us := [(71, .bool false), (72, .bool false), (73, .bool false), (74, .int .i64 t74)]) (d := 75) (t := (t74 == 2)) (by kernel_rfl) (fun h432 => ?_) (fun h433 => ?_)
              ·skip
               have hp434 := ite_t hp431 h432
               refine q_run 2 (is' := [40, 41, 42, 43, 44, 45, 46, 47, 48, 49, 50, 51, 52, 53, 54, 55, 56, 57, 58]) (us := [(76, .bool true), (77, .pointer (some ⟨b56, 1, none⟩))]) (by kernel_rfl) ?_
               refine q_load (c := (cd16 [1, 1, 1, 0, 1, 0, 0, 1, 0, 0, 1, 1, 1, 1, 0, 0])) (i := 40) (d := (some 78)) (ty := 3) (t := 3) (x := (.tmp 77)) (p := ⟨b56, 1, none⟩) (v := .int .i64 ((gt a0 t36).A)) (by kernel_rfl) (by kernel_rfl) (by kernel_rfl) (fun w hC => (loads_at 1 (hC.blk 1 rfl) (by kernel_rfl) (by kernel_rfl))) ?_
               refine q_run 3 (is' := [44, 45, 46, 47, 48, 49, 50, 51, 52, 53, 54, 55, 56, 57, 58]) (us := [(79, .slice A33 t32.length c34), (80, .int .i64 (t32.length : Int)), (81, .int .i64 (IntKind.i64.wrap ((t32.length : Int) - 2)))]) (by kernel_rfl) ?_
               obtain ⟨g435, hp436⟩ := ite_some hp434
               obtain ⟨b437, p438, hA439, -⟩ := (hS76.row 0 rfl).at_ (len_encI .i64) (by omega) g435.1 g435.2
               refine q_indexAddr (c := (cd16 [1, 1, 1, 0, 1, 0, 0, 1, 0, 0, 1, 1, 1, 1, 0, 0])) (i := 44) (d := (some 82)) (ty := 0) (t := 59) (e := 3) (n := t32.length) (cp := c34) (sz := 1) (kk := .i64) (x := (.tmp 79)) (y := (.tmp 81)) (b := b437) (o' := p438) (j := (IntKind.i64.wrap ((t32.length : Int) - 2))) (by kernel_rfl) (by kernel_rfl) (slv (by kernel_rfl) hA439) (by kernel_rfl) (by kernel_rfl) (by kernel_rfl) g435.1 g435.2 ?_
               refine q_load (c := (cd16 [1, 1, 1, 0, 1, 0, 0, 1, 0, 0, 1, 1, 1, 1, 0, 0])) (i := 45) (d := (some 83)) (ty := 3) (t := 3) (x := (.tmp 82)) (p := ⟨b437, p438 + (IntKind.i64.wrap ((t32.length : Int) - 2)).toNat * 1, none⟩) (v := .int .i64 (gt t32 (IntKind.i64.wrap ((t32.length : Int) - 2)))) (by kernel_rfl) (by kernel_rfl) (by kernel_rfl) (fun w hC => (loads_at 0 ((hC.row 0 rfl).at2 hA439 (len_encI .i64) (by omega) g435.1 g435.2) (by kernel_rfl) (by kernel_rfl))) ?_
               refine q_splitr 1 (is' := [47, 48, 49, 50, 51, 52, 53, 54, 55, 56, 57, 58]) (us := []) (d := 84) (t := (((gt a0 t36).A) != (gt t32 (IntKind.i64.wrap ((t32.length : Int) - 2))))) (by kernel_rfl) (fun h441 => ?_) (fun h442 => ?_)
               ·skip
                have hp443 := ite_t hp436 h441
                refine q_run 12 (is' := []) (us := [(85, .bool true), (86, undef), (87, undef), (88, undef), (89, undef), (90, undef), (91, undef), (92, undef), (93, undef), (94, .bool true), (95, .bool true), (96, .bool true)]) (by kernel_rfl) ?_
                refine Qs.nil ?_
                intro w444 hS445
                refine sx_run 5 (todo' := [.code (cd16 [1, 1, 1, 0, 1, 0, 0, 1, 0, 0, 1, 1, 1, 1, 0, 1, 0, 1]), .code (cd16 [1, 1, 1, 0, 1, 0, 0, 1, 0, 0, 1, 1, 1, 1, 1]), .inBlock 1, .code (cd16 [1, 1, 1, 0, 1, 0, 0, 1, 1]), .inLoop (cd16 [1, 1, 1, 0, 1, 0, 0]), .inBlock 0, .code (cd16 [1, 1, 1, 1])]) (us := [(2, .bool false)]) (by kernel_rfl) ?_
                have hS446 := hS445.drop
                have hS447 := hS446.drop
                refine runs_ret (fn := Tryd.f16) (v := .bool false) Tryd.func16 (by kernel_rfl) ?_
                have hr448 := (hq46 _ (hq86 _ (Option.some.inj hp443)))
                cases hr448
                exact hR _ _ ⟨rfl, hS447⟩
               ·skip
                have hp449 := ite_f hp436 h442
                refine q_run 2 (is' := [49, 50, 51, 52, 53, 54, 55, 56, 57, 58]) (us := [(85, .bool false), (86, .pointer (some ⟨b56, 2, none⟩))]) (by kernel_rfl) ?_
                refine q_load (c := (cd16 [1, 1, 1, 0, 1, 0, 0, 1, 0, 0, 1, 1, 1, 1, 0, 0])) (i := 49) (d := (some 87)) (ty := 3) (t := 3) (x := (.tmp 86)) (p := ⟨b56, 2, none⟩) (v := .int .i64 ((gt a0 t36).B)) (by kernel_rfl) (by kernel_rfl) (by kernel_rfl) (fun w hC => (loads_at 2 (hC.blk 1 rfl) (by kernel_rfl) (by kernel_rfl))) ?_
                refine q_run 3 (is' := [53, 54, 55, 56, 57, 58]) (us := [(88, .slice A33 t32.length c34), (89, .int .i64 (t32.length : Int)), (90, .int .i64 (IntKind.i64.wrap ((t32.length : Int) - 1)))]) (by kernel_rfl) ?_
                obtain ⟨g450, hp451⟩ := ite_some hp449
                obtain ⟨b452, p453, hA454, -⟩ := (hS76.row 0 rfl).at_ (len_encI .i64) (by omega) g450.1 g450.2
                refine q_indexAddr (c := (cd16 [1, 1, 1, 0, 1, 0, 0, 1, 0, 0, 1, 1, 1, 1, 0, 0])) (i := 53) (d := (some 91)) (ty := 0) (t := 59) (e := 3) (n := t32.length) (cp := c34) (sz := 1) (kk := .i64) (x := (.tmp 88)) (y := (.tmp 90)) (b := b452) (o' := p453) (j := (IntKind.i64.wrap ((t32.length : Int) - 1))) (by kernel_rfl) (by kernel_rfl) (slv (by kernel_rfl) hA454) (by kernel_rfl) (by kernel_rfl) (by kernel_rfl) g450.1 g450.2 ?_
                refine q_load (c := (cd16 [1, 1, 1, 0, 1, 0, 0, 1, 0, 0, 1, 1, 1, 1, 0, 0])) (i := 54) (d := (some 92)) (ty := 3) (t := 3) (x := (.tmp 91)) (p := ⟨b452, p453 + (IntKind.i64.wrap ((t32.length : Int) - 1)).toNat * 1, none⟩) (v := .int .i64 (gt t32 (IntKind.i64.wrap ((t32.length : Int) - 1)))) (by kernel_rfl) (by kernel_rfl) (by kernel_rfl) (fun w hC => (loads_at 0 ((hC.row 0 rfl).at2 hA454 (len_encI .i64) (by omega) g450.1 g450.2) (by kernel_rfl) (by kernel_rfl))) ?_
                refine q_splitr 1 (is' := [56, 57, 58]) (us := []) (d := 93) (t := (((gt a0 t36).B) != (gt t32 (IntKind.i64.wrap ((t32.length : Int) - 1))))) (by kernel_rfl) (fun h456 => ?_) (fun h457 => ?_)
                ·skip
                 have hp458 := ite_t hp451 h456
                 refine q_run 3 (is' := []) (us := [(94, .bool true), (95, .bool true), (96, .bool true)]) (by kernel_rfl) ?_
                 refine Qs.nil ?_
                 intro w459 hS460
                 refine sx_run 5 (todo' := [.code (cd16 [1, 1, 1, 0, 1, 0, 0, 1, 0, 0, 1, 1, 1, 1, 0, 1, 0, 1]), .code (cd16 [1, 1, 1, 0, 1, 0, 0, 1, 0, 0, 1, 1, 1, 1, 1]), .inBlock 1, .code (cd16 [1, 1, 1, 0, 1, 0, 0, 1, 1]), .inLoop (cd16 [1, 1, 1, 0, 1, 0, 0]), .inBlock 0, .code (cd16 [1, 1, 1, 1])]) (us := [(2, .bool false)]) (by kernel_rfl) ?_
                 have hS461 := hS460.drop
                 have hS462 := hS461.drop
                 refine runs_ret (fn := Tryd.f16) (v := .bool false) Tryd.func16 (by kernel_rfl) ?_
                 have hr463 := (hq46 _ (hq86 _ (Option.some.inj hp458)))
                 cases hr463
                 exact hR _ _ ⟨rfl, hS462⟩
                ·skip
                 have hp464 := ite_f hp451 h457
                 refine q_run 3 (is' := []) (us := [(94, .bool false), (95, .bool false), (96, .bool false)]) (by kernel_rfl) ?_
                 refine Qs.nil ?_
                 intro w465 hS466
                 refine sx_run 2 (todo' := [.code (cd16 [1, 1, 1, 0, 1, 0, 0, 1, 0, 0, 1, 1, 1, 1, 1]), .inBlock 1, .code (cd16 [1, 1, 1, 0, 1, 0, 0, 1, 1]), .inLoop (cd16 [1, 1, 1, 0, 1, 0, 0]), .inBlock 0, .code (cd16 [1, 1, 1, 1])]) (us := []) (by kernel_rfl) ?_
                 refine Runs.fill (m := [some (.slice Aa0 a0.length ca0), none, none, some (.slice A33 t32.length c34), some (.int .i64 t36), some (.pointer (some ⟨b56, 0, none⟩)), some (.int .i64 t74), some (.int .i64 (t32.length : Int)), none, none, none, none, none, none, none, none, none, none, none, none, none, none, none, none, none, none, none, none, none, none, none, none, none, none, none, none, none, none, none, none, none, none, none, none, none, none, none, none, none, none, none, none, none, none, none, none, none, none, none, none, none, none, none, none, none, none, none, none, none, none, none, none, none, none, none, none, none, none, none, none, none, none, none, none, none, none, none, none, none, none, none, none, none, none, none, none, none, none, none, none, none, none, none, none, none, none, none, none, none, none, none, none, none, none, none, none, none, none, none, none, none, none, none, none, none, none, none, none, none, none, none, none, none, none, none, none, none, none, none, none, none, none, none, none]) (by kernel_rfl) ?_
                 exact J87 (Option.some.inj hp464) _ _ hS466
              ·skip
               have hp467 := ite_f hp431 h433
               refine q_run 21 (is' := []) (us := [(76, .bool false), (77, undef), (78, undef), (79, undef), (80, undef), (81, undef), (82, undef), (83, undef), (84, undef), (85, undef), (86, undef), (87, undef), (88, undef), (89, undef), (90, undef), (91, undef), (92, undef), (93, undef), (94, undef), (95, .bool false), (96, .bool false)]) (by kernel_rfl) ?_
               refine Qs.nil ?_
               intro w468 hS469
               refine sx_run 2 (todo' := [.code (cd16 [1, 1, 1, 0, 1, 0, 0, 1, 0, 0, 1, 1, 1, 1, 1]), .inBlock 1, .code (cd16 [1, 1, 1, 0, 1, 0, 0, 1, 1]), .inLoop (cd16 [1, 1, 1, 0, 1, 0, 0]), .inBlock 0, .code (cd16 [1, 1, 1, 1])]) (us := []) (by kernel_rfl) ?_
               refine Runs.fill (m := [some (.slice Aa0 a0.length ca0), none, none, some (.slice A33 t32.length c34), some (.int .i64 t36), some (.pointer (some ⟨b56, 0, none⟩)), some (.int .i64 t74), some (.int .i64 (t32.length : Int)), none, none, none, none, none, none, none, none, none, none, none, none, none, none, none, none, none, none, none, none, none, none, none, none, none, none, none, none, none, none, none, none, none, none, none, none, none, none, none, none, none, none, none, none, none, none, none, none, none, none, none, none, none, none, none, none, none, none, none, none, none, none, none, none, none, none, none, none, none, none, none, none, none, none, none, none, none, none, none, none, none, none, none, none, none, none, none, none, none, none, none, none, none, none, none, none, none, none, none, none, none, none, none, none, none, none, none, none, none, none, none, none, none, none, none, none, none, none, none, none, none, none, none, none, none, none, none, none, none, none, none, none, none, none, none, none]) (by kernel_rfl) ?_
               exact J87 (Option.some.inj hp467) _ _ hS469
            ·skip
             have hp470 := ite_f hp413 h415
             refine q_splitr 14 (is' := [38, 39, 40, 41, 42, 43, 44, 45, 46, 47, 48, 49, 50, 51, 52, 53, 54, 55, 56, 57, 58]) (us := [(62, .bool false), (63, undef), (64, undef), (65, undef), (66, undef), (67, undef), (68, undef), (69, undef), (70, undef), (71, .bool false), (72, .bool false), (73, .bool false), (74, .int .i64 t74)]) (d := 75) (t := (t74 == 2)) (by kernel_rfl) (fun h471 => ?_) (fun h472 => ?_)
             ·skip
              have hp473 := ite_t hp470 h471
              refine q_run 2 (is' := [40, 41, 42, 43, 44, 45, 46, 47, 48, 49, 50, 51, 52, 53, 54, 55, 56, 57, 58]) (us := [(76, .bool true), (77, .pointer (some ⟨b56, 1, none⟩))]) (by kernel_rfl) ?_
              refine q_load (c := (cd16 [1, 1, 1, 0, 1, 0, 0, 1, 0, 0, 1, 1, 1, 1, 0, 0])) (i := 40) (d := (some 78)) (ty := 3) (t := 3) (x := (.tmp 77)) (p := ⟨b56, 1, none⟩) (v := .int .i64 ((gt a0 t36).A)) (by kernel_rfl) (by kernel_rfl) (by kernel_rfl) (fun w hC => (loads_at 1 (hC.blk 1 rfl) (by kernel_rfl) (by kernel_rfl))) ?_
              refine q_run 3 (is' := [44, 45, 46, 47, 48, 49, 50, 51, 52, 53, 54, 55, 56, 57, 58]) (us := [(79, .slice A33 t32.length c34), (80, .int .i64 (t32.length : Int)), (81, .int .i64 (IntKind.i64.wrap ((t32.length : Int) - 2)))]) (by kernel_rfl) ?_
              obtain ⟨g474, hp475⟩ := ite_some hp473
              obtain ⟨b476, p477, hA478, -⟩ := (hS76.row 0 rfl).at_ (len_encI .i64) (by omega) g474.1 g474.2
              refine q_indexAddr (c := (cd16 [1, 1, 1, 0, 1, 0, 0, 1, 0, 0, 1, 1, 1, 1, 0, 0])) (i := 44) (d := (some 82)) (ty := 0) (t := 59) (e := 3) (n := t32.length) (cp := c34) (sz := 1) (kk := .i64) (x := (.tmp 79)) (y := (.tmp 81)) (b := b476) (o' := p477) (j := (IntKind.i64.wrap ((t32.length : Int) - 2))) (by kernel_rfl) (by kernel_rfl) (slv (by kernel_rfl) hA478) (by kernel_rfl) (by kernel_rfl) (by kernel_rfl) g474.1 g474.2 ?_
              refine q_load (c := (cd16 [1, 1, 1, 0, 1, 0, 0, 1, 0, 0, 1, 1, 1, 1, 0, 0])) (i := 45) (d := (some 83)) (ty := 3) (t := 3) (x := (.tmp 82)) (p := ⟨b476, p477 + (IntKind.i64.wrap ((t32.length : Int) - 2)).toNat * 1, none⟩) (v := .int .i64 (gt t32 (IntKind.i64.wrap ((t32.length : Int) - 2)))) (by kernel_rfl) (by kernel_rfl) (by kernel_rfl) (fun w hC => (loads_at 0 ((hC.row 0 rfl).at2 hA478 (len_encI .i64) (by omega) g474.1 g474.2) (by kernel_rfl) (by kernel_rfl))) ?_
              refine q_splitr 1 (is' := [47, 48, 49, 50, 51, 52, 53, 54, 55, 56, 57, 58]) (us := []) (d := 84) (t := (((gt a0 t36).A) != (gt t32 (IntKind.i64.wrap ((t32.length : Int) - 2))))) (by kernel_rfl) (fun h480 => ?_) (fun h481 => ?_)
              ·skip
               have hp482 := ite_t hp475 h480
               refine q_run 12 (is' := []) (us := [(85, .bool true), (86, undef), (87, undef), (88, undef), (89, undef), (90, undef), (91, undef), (92, undef), (93, undef), (94, .bool true), (95, .bool true), (96, .bool true)]) (by kernel_rfl) ?_
               refine Qs.nil ?_
               intro w483 hS484
               refine sx_run 5 (todo' := [.code (cd16 [1, 1, 1, 0, 1, 0, 0, 1, 0, 0, 1, 1, 1, 1, 0, 1, 0, 1]), .code (cd16 [1, 1, 1, 0, 1, 0, 0, 1, 0, 0, 1, 1, 1, 1, 1]), .inBlock 1, .code (cd16 [1, 1, 1, 0, 1, 0, 0, 1, 1]), .inLoop (cd16 [1, 1, 1, 0, 1, 0, 0]), .inBlock 0, .code (cd16 [1, 1, 1, 1])]) (us := [(2, .bool false)]) (by kernel_rfl) ?_
               have hS485 := hS484.drop
               have hS486 := hS485.drop
               refine runs_ret (fn := Tryd.f16) (v := .bool false) Tryd.func16 (by kernel_rfl) ?_
               have hr487 := (hq46 _ (hq86 _ (Option.some.inj hp482)))
               cases hr487
               exact hR _ _ ⟨rfl, hS486⟩
              ·skip
               have hp488 := ite_f hp475 h481
               refine q_run 2 (is' := [49, 50, 51, 52, 53, 54, 55, 56, 57, 58]) (us := [(85, .bool false), (86, .pointer (some ⟨b56, 2, none⟩))]) (by kernel_rfl) ?_
               refine q_load (c := (cd16 [1, 1, 1, 0, 1, 0, 0, 1, 0, 0, 1, 1, 1, 1, 0, 0])) (i := 49) (d := (some 87)) (ty := 3) (t := 3) (x := (.tmp 86)) (p := ⟨b56, 2, none⟩) (v := .int .i64 ((gt a0 t36).B)) (by kernel_rfl) (by kernel_rfl) (by kernel_rfl) (fun w hC => (loads_at 2 (hC.blk 1 rfl) (by kernel_rfl) (by kernel_rfl))) ?_
               refine q_run 3 (is' := [53, 54, 55, 56, 57, 58]) (us := [(88, .slice A33 t32.length c34), (89, .int .i64 (t32.length : Int)), (90, .int .i64 (IntKind.i64.wrap ((t32.length : Int) - 1)))]) (by kernel_rfl) ?_
               obtain ⟨g489, hp490⟩ := ite_some hp488
               obtain ⟨b491, p492, hA493, -⟩ := (hS76.row 0 rfl).at_ (len_encI .i64) (by omega) g489.1 g489.2
               refine q_indexAddr (c := (cd16 [1, 1, 1, 0, 1, 0, 0, 1, 0, 0, 1, 1, 1, 1, 0, 0])) (i := 53) (d := (some 91)) (ty := 0) (t := 59) (e := 3) (n := t32.length) (cp := c34) (sz := 1) (kk := .i64) (x := (.tmp 88)) (y := (.tmp 90)) (b := b491) (o' := p492) (j := (IntKind.i64.wrap ((t32.length : Int) - 1))) (by kernel_rfl) (by kernel_rfl) (slv (by kernel_rfl) hA493) (by kernel_rfl) (by kernel_rfl) (by kernel_rfl) g489.1 g489.2 ?_
               refine q_load (c := (cd16 [1, 1, 1, 0, 1, 0, 0, 1, 0, 0, 1, 1, 1, 1, 0, 0])) (i := 54) (d := (some 92)) (ty := 3) (t := 3) (x := (.tmp 91)) (p := ⟨b491, p492 + (IntKind.i64.wrap ((t32.length : Int) - 1)).toNat * 1, none⟩) (v := .int .i64 (gt t32 (IntKind.i64.wrap ((t32.length : Int) - 1)))) (by kernel_rfl) (by kernel_rfl) (by kernel_rfl) (fun w hC => (loads_at 0 ((hC.row 0 rfl).at2 hA493 (len_encI .i64) (by omega) g489.1 g489.2) (by kernel_rfl) (by kernel_rfl))) ?_
               refine q_splitr 1 (is' := [56, 57, 58]) (us := []) (d := 93) (t := (((gt a0 t36).B) != (gt t32 (IntKind.i64.wrap ((t32.length : Int) - 1))))) (by kernel_rfl) (fun h495 => ?_) (fun h496 => ?_)
               ·skip
                have hp497 := ite_t hp490 h495
                refine q_run 3 (is' := []) (us := [(94, .bool true), (95, .bool true), (96, .bool true)]) (by kernel_rfl) ?_
                refine Qs.nil ?_
                intro w498 hS499
                refine sx_run 5 (todo' := [.code (cd16 [1, 1, 1, 0, 1, 0, 0, 1, 0, 0, 1, 1, 1, 1, 0, 1, 0, 1]), .code (cd16 [1, 1, 1, 0, 1, 0, 0, 1, 0, 0, 1, 1, 1, 1, 1]), .inBlock 1, .code (cd16 [1, 1, 1, 0, 1, 0, 0, 1, 1]), .inLoop (cd16 [1, 1, 1, 0, 1, 0, 0]), .inBlock 0, .code (cd16 [1, 1, 1, 1])]) (us := [(2, .bool false)]) (by kernel_rfl) ?_
                have hS500 := hS499.drop
                have hS501 := hS500.drop
                refine runs_ret (fn := Tryd.f16) (v := .bool false) Tryd.func16 (by kernel_rfl) ?_
                have hr502 := (hq46 _ (hq86 _ (Option.some.inj hp497)))
                cases hr502
                exact hR _ _ ⟨rfl, hS501⟩
               ·skip
                have hp503 := ite_f hp490 h496
                refine q_run 3 (is' := []) (us := [(94, .bool false), (95, .bool false), (96, .bool false)]) (by kernel_rfl) ?_
                refine Qs.nil ?_
                intro w504 hS505
                refine sx_run 2 (todo' := [.code (cd16 [1, 1, 1, 0, 1, 0, 0, 1, 0, 0, 1, 1, 1, 1, 1]), .inBlock 1, .code (cd16 [1, 1, 1, 0, 1, 0, 0, 1, 1]), .inLoop (cd16 [1, 1, 1, 0, 1, 0, 0]), .inBlock 0, .code (cd16 [1, 1, 1, 1])]) (us := []) (by kernel_rfl) ?_
                refine Runs.fill (m := [some (.slice Aa0 a0.length ca0), none, none, some (.slice A33 t32.length c34), some (.int .i64 t36), some (.pointer (some ⟨b56, 0, none⟩)), some (.int .i64 t74), some (.int .i64 (t32.length : Int)), none, none, none, none, none, none, none, none, none, none, none, none, none, none, none, none, none, none, none, none, none, none, none, none, none, none, none, none, none, none, none, none, none, none, none, none, none, none, none, none, none, none, none, none, none, none, none, none, none, none, none, none, none, none, none, none, none, none, none, none, none, none, none, none, none, none, none, none, none, none, none, none, none, none, none, none, none, none, none, none, none, none, none, none, none, none, none, none, none, none, none, none, none, none, none, none, none, none, none, none, none, none, none, none, none, none, none, none, none, none, none, none, none, none, none, none, none, none, none, none, none, none, none, none, none, none, none, none, none, none, none, none, none, none, none, none]) (by kernel_rfl) ?_
                exact J87 (Option.some.inj hp503) _ _ hS505
             ·skip
              have hp506 := ite_f hp470 h472
              refine q_run 21 (is' := []) (us := [(76, .bool false), (77, undef), (78, undef), (79, undef), (80, undef), (81, undef), (82, undef), (83, undef), (84, undef), (85, undef), (86, undef), (87, undef), (88, undef), (89, undef), (90, undef), (91, undef), (92, undef), (93, undef), (94, undef), (95, .bool false), (96, .bool false)]) (by kernel_rfl) ?_
              refine Qs.nil ?_
              intro w507 hS508
              refine sx_run 2 (todo' := [.code (cd16 [1, 1, 1, 0, 1, 0, 0, 1, 0, 0, 1, 1, 1, 1, 1]), .inBlock 1, .code (cd16 [1, 1, 1, 0, 1, 0, 0, 1, 1]), .inLoop (cd16 [1, 1, 1, 0, 1, 0, 0]), .inBlock 0, .code (cd16 [1, 1, 1, 1])]) (us := []) (by kernel_rfl) ?_
              refine Runs.fill (m := [some (.slice Aa0 a0.length ca0), none, none, some (.slice A33 t32.length c34), some (.int .i64 t36), some (.pointer (some ⟨b56, 0, none⟩)), some (.int .i64 t74), some (.int .i64 (t32.length : Int)), none, none, none, none, none, none, none, none, none, none, none, none, none, none, none, none, none, none, none, none, none, none, none, none, none, none, none, none, none, none, none, none, none, none, none, none, none, none, none, none, none, none, none, none, none, none, none, none, none, none, none, none, none, none, none, none, none, none, none, none, none, none, none, none, none, none, none, none, none, none, none, none, none, none, none, none, none, none, none, none, none, none, none, none, none, none, none, none, none, none, none, none, none, none, none, none, none, none, none, none, none, none, none, none, none, none, none, none, none, none, none, none, none, none, none, none, none, none, none, none, none, none, none, none, none, none, none, none, none, none, none, none, none, none, none, none]) (by kernel_rfl) ?_
              exact J87 (Option.some.inj hp506) _ _ hS508
          ·skip
           have hp509 := ite_f hp401 h403
           refine q_splitr 9 (is' := [24, 25, 26, 27, 28, 29, 30, 31, 32, 33, 34, 35, 36, 37, 38, 39, 40, 41, 42, 43, 44, 45, 46, 47, 48, 49, 50, 51, 52, 53, 54, 55, 56, 57, 58]) (us := [(53, .bool false), (54, undef), (55, undef), (56, undef), (57, .bool false), (58, .bool false), (59, .bool false), (60, .int .i64 t74)]) (d := 61) (t := (t74 == 1)) (by kernel_rfl) (fun h510 => ?_) (fun h511 => ?_)
           ·skip
            have hp512 := ite_t hp509 h510
            refine q_run 2 (is' := [26, 27, 28, 29, 30, 31, 32, 33, 34, 35, 36, 37, 38, 39, 40, 41, 42, 43, 44, 45, 46, 47, 48, 49, 50, 51, 52, 53, 54, 55, 56, 57, 58]) (us := [(62, .bool true), (63, .pointer (some ⟨b56, 1, none⟩))]) (by kernel_rfl) ?_
            refine q_load (c := (cd16 [1, 1, 1, 0, 1, 0, 0, 1, 0, 0, 1, 1, 1, 1, 0, 0])) (i := 26) (d := (some 64)) (ty := 3) (t := 3) (x := (.tmp 63)) (p := ⟨b56, 1, none⟩) (v := .int .i64 ((gt a0 t36).A)) (by kernel_rfl) (by kernel_rfl) (by kernel_rfl) (fun w hC => (loads_at 1 (hC.blk 1 rfl) (by kernel_rfl) (by kernel_rfl))) ?_
            refine q_run 3 (is' := [30, 31, 32, 33, 34, 35, 36, 37, 38, 39, 40, 41, 42, 43, 44, 45, 46, 47, 48, 49, 50, 51, 52, 53, 54, 55, 56, 57, 58]) (us := [(65, .slice A33 t32.length c34), (66, .int .i64 (t32.length : Int)), (67, .int .i64 (IntKind.i64.wrap ((t32.length : Int) - 1)))]) (by kernel_rfl) ?_
            obtain ⟨g513, hp514⟩ := ite_some hp512
            obtain ⟨b515, p516, hA517, -⟩ := (hS76.row 0 rfl).at_ (len_encI .i64) (by omega) g513.1 g513.2
            refine q_indexAddr (c := (cd16 [1, 1, 1, 0, 1, 0, 0, 1, 0, 0, 1, 1, 1, 1, 0, 0])) (i := 30) (d := (some 68)) (ty := 0) (t := 59) (e := 3) (n := t32.length) (cp := c34) (sz := 1) (kk := .i64) (x := (.tmp 65)) (y := (.tmp 67)) (b := b515) (o' := p516) (j := (IntKind.i64.wrap ((t32.length : Int) - 1))) (by kernel_rfl) (by kernel_rfl) (slv (by kernel_rfl) hA517) (by kernel_rfl) (by kernel_rfl) (by kernel_rfl) g513.1 g513.2 ?_
            refine q_load (c := (cd16 [1, 1, 1, 0, 1, 0, 0, 1, 0, 0, 1, 1, 1, 1, 0, 0])) (i := 31) (d := (some 69)) (ty := 3) (t := 3) (x := (.tmp 68)) (p := ⟨b515, p516 + (IntKind.i64.wrap ((t32.length : Int) - 1)).toNat * 1, none⟩) (v := .int .i64 (gt t32 (IntKind.i64.wrap ((t32.length : Int) - 1)))) (by kernel_rfl) (by kernel_rfl) (by kernel_rfl) (fun w hC => (loads_at 0 ((hC.row 0 rfl).at2 hA517 (len_encI .i64) (by omega) g513.1 g513.2) (by kernel_rfl) (by kernel_rfl))) ?_
            refine q_splitr 1 (is' := [33, 34, 35, 36, 37, 38, 39, 40, 41, 42, 43, 44, 45, 46, 47, 48, 49, 50, 51, 52, 53, 54, 55, 56, 57, 58]) (us := []) (d := 70) (t := (((gt a0 t36).A) != (gt t32 (IntKind.i64.wrap ((t32.length : Int) - 1))))) (by kernel_rfl) (fun h519 => ?_) (fun h520 => ?_)
            ·skip
             have hp521 := ite_t hp514 h519
             refine q_run 26 (is' := []) (us := [(71, .bool true), (72, .bool true), (73, .bool true), (74, undef), (75, undef), (76, undef), (77, undef), (78, undef), (79, undef), (80, undef), (81, undef), (82, undef), (83, undef), (84, undef), (85, undef), (86, undef), (87, undef), (88, undef), (89, undef), (90, undef), (91, undef), (92, undef), (93, undef), (94, undef), (95, undef), (96, .bool true)]) (by kernel_rfl) ?_
             refine Qs.nil ?_
             intro w522 hS523
             refine sx_run 5 (todo' := [.code (cd16 [1, 1, 1, 0, 1, 0, 0, 1, 0, 0, 1, 1, 1, 1, 0, 1, 0, 1]), .code (cd16 [1, 1, 1, 0, 1, 0, 0, 1, 0, 0, 1, 1, 1, 1, 1]), .inBlock 1, .code (cd16 [1, 1, 1, 0, 1, 0, 0, 1, 1]), .inLoop (cd16 [1, 1, 1, 0, 1, 0, 0]), .inBlock 0, .code (cd16 [1, 1, 1, 1])]) (us := [(2, .bool false)]) (by kernel_rfl) ?_
             have hS524 := hS523.drop
             have hS525 := hS524.drop
             refine runs_ret (fn := Tryd.f16) (v := .bool false) Tryd.func16 (by kernel_rfl) ?_
             have hr526 := (hq46 _ (hq86 _ (Option.some.inj hp521)))
             cases hr526
             exact hR _ _ ⟨rfl, hS525⟩
            ·skip
             have hp527 := ite_f hp514 h520
             refine q_splitr 5 (is' := [38, 39, 40, 41, 42, 43, 44, 45, 46, 47, 48, 49, 50, 51, 52, 53, 54, 55, 56, 57, 58]) (us := [(71, .bool false), (72, .bool false), (73, .bool false), (74, .int .i64 t74)]) (d := 75) (t := (t74 == 2)) (by kernel_rfl) (fun h528 => ?_) (fun h529 => ?_)
             ·skip
              have hp530 := ite_t hp527 h528
              refine q_run 2 (is' := [40, 41, 42, 43, 44, 45, 46, 47, 48, 49, 50, 51, 52, 53, 54, 55, 56, 57, 58]) (us := [(76, .bool true), (77, .pointer (some ⟨b56, 1, none⟩))]) (by kernel_rfl) ?_
              refine q_load (c := (cd16 [1, 1, 1, 0, 1, 0, 0, 1, 0, 0, 1, 1, 1, 1, 0, 0])) (i := 40) (d := (some 78)) (ty := 3) (t := 3) (x := (.tmp 77)) (p := ⟨b56, 1, none⟩) (v := .int .i64 ((gt a0 t36).A)) (by kernel_rfl) (by kernel_rfl) (by kernel_rfl) (fun w hC => (loads_at 1 (hC.blk 1 rfl) (by kernel_rfl) (by kernel_rfl))) ?_
              refine q_run 3 (is' := [44, 45, 46, 47, 48, 49, 50, 51, 52, 53, 54, 55, 56, 57, 58]) (us := [(79, .slice A33 t32.length c34), (80, .int .i64 (t32.length : Int)), (81, .int .i64 (IntKind.i64.wrap ((t32.length : Int) - 2)))]) (by kernel_rfl) ?_
              obtain ⟨g531, hp532⟩ := ite_some hp530
              obtain ⟨b533, p534, hA535, -⟩ := (hS76.row 0 rfl).at_ (len_encI .i64) (by omega) g531.1 g531.2
              refine q_indexAddr (c := (cd16 [1, 1, 1, 0, 1, 0, 0, 1, 0, 0, 1, 1, 1, 1, 0, 0])) (i := 44) (d := (some 82)) (ty := 0) (t := 59) (e := 3) (n := t32.length) (cp := c34) (sz := 1) (kk := .i64) (x := (.tmp 79)) (y := (.tmp 81)) (b := b533) (o' := p534) (j := (IntKind.i64.wrap ((t32.length : Int) - 2))) (by kernel_rfl) (by kernel_rfl) (slv (by kernel_rfl) hA535) (by kernel_rfl) (by kernel_rfl) (by kernel_rfl) g531.1 g531.2 ?_
              refine q_load (c := (cd16 [1, 1, 1, 0, 1, 0, 0, 1, 0, 0, 1, 1, 1, 1, 0, 0])) (i := 45) (d := (some 83)) (ty := 3) (t := 3) (x := (.tmp 82)) (p := ⟨b533, p534 + (IntKind.i64.wrap ((t32.length : Int) - 2)).toNat * 1, none⟩) (v := .int .i64 (gt t32 (IntKind.i64.wrap ((t32.length : Int) - 2)))) (by kernel_rfl) (by kernel_rfl) (by kernel_rfl) (fun w hC => (loads_at 0 ((hC.row 0 rfl).at2 hA535 (len_encI .i64) (by omega) g531.1 g531.2) (by kernel_rfl) (by kernel_rfl))) ?_
              refine q_splitr 1 (is' := [47, 48, 49, 50, 51, 52, 53, 54, 55, 56, 57, 58]) (us := []) (d := 84) (t := (((gt a0 t36).A) != (gt t32 (IntKind.i64.wrap ((t32.length : Int) - 2))))) (by kernel_rfl) (fun h537 => ?_) (fun h538 => ?_)
              ·skip
               have hp539 := ite_t hp532 h537
               refine q_run 12 (is' := []) (us := [(85, .bool true), (86, undef), (87, undef), (88, undef), (89, undef), (90, undef), (91, undef), (92, undef), (93, undef), (94, .bool true), (95, .bool true), (96, .bool true)]) (by kernel_rfl) ?_
               refine Qs.nil ?_
               intro w540 hS541
               refine sx_run 5 (todo' := [.code (cd16 [1, 1, 1, 0, 1, 0, 0, 1, 0, 0, 1, 1, 1, 1, 0, 1, 0, 1]), .code (cd16 [1, 1, 1, 0, 1, 0, 0, 1, 0, 0, 1, 1, 1, 1, 1]), .inBlock 1, .code (cd16 [1, 1, 1, 0, 1, 0, 0, 1, 1]), .inLoop (cd16 [1, 1, 1, 0, 1, 0, 0]), .inBlock 0, .code (cd16 [1, 1, 1, 1])]) (us := [(2, .bool false)]) (by kernel_rfl) ?_
               have hS542 := hS541.drop
               have hS543 := hS542.drop
               refine runs_ret (fn := Tryd.f16) (v := .bool false) Tryd.func16 (by kernel_rfl) ?_
               have hr544 := (hq46 _ (hq86 _ (Option.some.inj hp539)))
               cases hr544
               exact hR _ _ ⟨rfl, hS543⟩
              ·skip
               have hp545 := ite_f hp532 h538
               refine q_run 2 (is' := [49, 50, 51, 52, 53, 54, 55, 56, 57, 58]) (us := [(85, .bool false), (86, .pointer (some ⟨b56, 2, none⟩))]) (by kernel_rfl) ?_
               refine q_load (c := (cd16 [1, 1, 1, 0, 1, 0, 0, 1, 0, 0, 1, 1, 1, 1, 0, 0])) (i := 49) (d := (some 87)) (ty := 3) (t := 3) (x := (.tmp 86)) (p := ⟨b56, 2, none⟩) (v := .int .i64 ((gt a0 t36).B)) (by kernel_rfl) (by kernel_rfl) (by kernel_rfl) (fun w hC => (loads_at 2 (hC.blk 1 rfl) (by kernel_rfl) (by kernel_rfl))) ?_
               refine q_run 3 (is' := [53, 54, 55, 56, 57, 58]) (us := [(88, .slice A33 t32.length c34), (89, .int .i64 (t32.length : Int)), (90, .int .i64 (IntKind.i64.wrap ((t32.length : Int) - 1)))]) (by kernel_rfl) ?_
               obtain ⟨g546, hp547⟩ := ite_some hp545
               obtain ⟨b548, p549, hA550, -⟩ := (hS76.row 0 rfl).at_ (len_encI .i64) (by omega) g546.1 g546.2
               refine q_indexAddr (c := (cd16 [1, 1, 1, 0, 1, 0, 0, 1, 0, 0, 1, 1, 1, 1, 0, 0])) (i := 53) (d := (some 91)) (ty := 0) (t := 59) (e := 3) (n := t32.length) (cp := c34) (sz := 1) (kk := .i64) (x := (.tmp 88)) (y := (.tmp 90)) (b := b548) (o' := p549) (j := (IntKind.i64.wrap ((t32.length : Int) - 1))) (by kernel_rfl) (by kernel_rfl) (slv (by kernel_rfl) hA550) (by kernel_rfl) (by kernel_rfl) (by kernel_rfl) g546.1 g546.2 ?_
               refine q_load (c := (cd16 [1, 1, 1, 0, 1, 0, 0, 1, 0, 0, 1, 1, 1, 1, 0, 0])) (i := 54) (d := (some 92)) (ty := 3) (t := 3) (x := (.tmp 91)) (p := ⟨b548, p549 + (IntKind.i64.wrap ((t32.length : Int) - 1)).toNat * 1, none⟩) (v := .int .i64 (gt t32 (IntKind.i64.wrap ((t32.length : Int) - 1)))) (by kernel_rfl) (by kernel_rfl) (by kernel_rfl) (fun w hC => (loads_at 0 ((hC.row 0 rfl).at2 hA550 (len_encI .i64) (by omega) g546.1 g546.2) (by kernel_rfl) (by kernel_rfl))) ?_
               refine q_splitr 1 (is' := [56, 57, 58]) (us := []) (d := 93) (t := (((gt a0 t36).B) != (gt t32 (IntKind.i64.wrap ((t32.length : Int) - 1))))) (by kernel_rfl) (fun h552 => ?_) (fun h553 => ?_)
               ·skip
                have hp554 := ite_t hp547 h552
                refine q_run 3 (is' := []) (us := [(94, .bool true), (95, .bool true), (96, .bool true)]) (by kernel_rfl) ?_
                refine Qs.nil ?_
                intro w555 hS556
                refine sx_run 5 (todo' := [.code (cd16 [1, 1, 1, 0, 1, 0, 0, 1, 0, 0, 1, 1, 1, 1, 0, 1, 0, 1]), .code (cd16 [1, 1, 1, 0, 1, 0, 0, 1, 0, 0, 1, 1, 1, 1, 1]), .inBlock 1, .code (cd16 [1, 1, 1, 0, 1, 0, 0, 1, 1]), .inLoop (cd16 [1, 1, 1, 0, 1, 0, 0]), .inBlock 0, .code (cd16 [1, 1, 1, 1])]) (us := [(2, .bool false)]) (by kernel_rfl) ?_
                have hS557 := hS556.drop
                have hS558 := hS557.drop
                refine runs_ret (fn := Tryd.f16) (v := .bool false) Tryd.func16 (by kernel_rfl) ?_
                have hr559 := (hq46 _ (hq86 _ (Option.some.inj hp554)))
                cases hr559
                exact hR _ _ ⟨rfl, hS558⟩
               ·skip
                have hp560 := ite_f hp547 h553
                refine q_run 3 (is' := []) (us := [(94, .bool false), (95, .bool false), (96, .bool false)]) (by kernel_rfl) ?_
                refine Qs.nil ?_
                intro w561 hS562
                refine sx_run 2 (todo' := [.code (cd16 [1, 1, 1, 0, 1, 0, 0, 1, 0, 0, 1, 1, 1, 1, 1]), .inBlock 1, .code (cd16 [1, 1, 1, 0, 1, 0, 0, 1, 1]), .inLoop (cd16 [1, 1, 1, 0, 1, 0, 0]), .inBlock 0, .code (cd16 [1, 1, 1, 1])]) (us := []) (by kernel_rfl) ?_
                refine Runs.fill (m := [some (.slice Aa0 a0.length ca0), none, none, some (.slice A33 t32.length c34), some (.int .i64 t36), some (.pointer (some ⟨b56, 0, none⟩)), some (.int .i64 t74), some (.int .i64 (t32.length : Int)), none, none, none, none, none, none, none, none, none, none, none, none, none, none, none, none, none, none, none, none, none, none, none, none, none, none, none, none, none, none, none, none, none, none, none, none, none, none, none, none, none, none, none, none, none, none, none, none, none, none, none, none, none, none, none, none, none, none, none, none, none, none, none, none, none, none, none, none, none, none, none, none, none, none, none, none, none, none, none, none, none, none, none, none, none, none, none, none, none, none, none, none, none, none, none, none, none, none, none, none, none, none, none, none, none, none, none, none, none, none, none, none, none, none, none, none, none, none, none, none, none, none, none, none, none, none, none, none, none, none, none, none, none, none, none, none]) (by kernel_rfl) ?_
                exact J87 (Option.some.inj hp560) _ _ hS562
             ·skip
              have hp563 := ite_f hp527 h529
              refine q_run 21 (is' := []) (us := [(76, .bool false), (77, undef), (78, undef), (79, undef), (80, undef), (81, undef), (82, undef), (83, undef), (84, undef), (85, undef), (86, undef), (87, undef), (88, undef), (89, undef), (90, undef), (91, undef), (92, undef), (93, undef), (94, undef), (95, .bool false), (96, .bool false)]) (by kernel_rfl) ?_
              refine Qs.nil ?_
              intro w564 hS565
              refine sx_run 2 (todo' := [.code (cd16 [1, 1, 1, 0, 1, 0, 0, 1, 0, 0, 1, 1, 1, 1, 1]), .inBlock 1, .code (cd16 [1, 1, 1, 0, 1, 0, 0, 1, 1]), .inLoop (cd16 [1, 1, 1, 0, 1, 0, 0]), .inBlock 0, .code (cd16 [1, 1, 1, 1])]) (us := []) (by kernel_rfl) ?_
              refine Runs.fill (m := [some (.slice Aa0 a0.length ca0), none, none, some (.slice A33 t32.length c34), some (.int .i64 t36), some (.pointer (some ⟨b56, 0, none⟩)), some (.int .i64 t74), some (.int .i64 (t32.length : Int)), none, none, none, none, none, none, none, none, none, none, none, none, none, none, none, none, none, none, none, none, none, none, none, none, none, none, none, none, none, none, none, none, none, none, none, none, none, none, none, none, none, none, none, none, none, none, none, none, none, none, none, none, none, none, none, none, none, none, none, none, none, none, none, none, none, none, none, none, none, none, none, none, none, none, none, none, none, none, none, none, none, none, none, none, none, none, none, none, none, none, none, none, none, none, none, none, none, none, none, none, none, none, none, none, none, none, none, none, none, none, none, none, none, none, none, none, none, none, none, none, none, none, none, none, none, none, none, none, none, none, none, none, none, none, none, none]) (by kernel_rfl) ?_
              exact J87 (Option.some.inj hp563) _ _ hS565
           ·skip
            have hp566 := ite_f hp509 h511
            refine q_splitr 14 (is' := [38, 39, 40, 41, 42, 43, 44, 45, 46, 47, 48, 49, 50, 51, 52, 53, 54, 55, 56, 57, 58]) (us := [(62, .bool false), (63, undef), (64, undef), (65, undef), (66, undef), (67, undef), (68, undef), (69, undef), (70, undef), (71, .bool false), (72, .bool false), (73, .bool false), (74, .int .i64 t74)]) (d := 75) (t := (t74 == 2)) (by kernel_rfl) (fun h567 => ?_) (fun h568 => ?_)
            ·skip
             have hp569 := ite_t hp566 h567
             refine q_run 2 (is' := [40, 41, 42, 43, 44, 45, 46, 47, 48, 49, 50, 51, 52, 53, 54, 55, 56, 57, 58]) (us := [(76, .bool true), (77, .pointer (some ⟨b56, 1, none⟩))]) (by kernel_rfl) ?_
             refine q_load (c := (cd16 [1, 1, 1, 0, 1, 0, 0, 1, 0, 0, 1, 1, 1, 1, 0, 0])) (i := 40) (d := (some 78)) (ty := 3) (t := 3) (x := (.tmp 77)) (p := ⟨b56, 1, none⟩) (v := .int .i64 ((gt a0 t36).A)) (by kernel_rfl) (by kernel_rfl) (by kernel_rfl) (fun w hC => (loads_at 1 (hC.blk 1 rfl) (by kernel_rfl) (by kernel_rfl))) ?_
             refine q_run 3 (is' := [44, 45, 46, 47, 48, 49, 50, 51, 52, 53, 54, 55, 56, 57, 58]) (us := [(79, .slice A33 t32.length c34), (80, .int .i64 (t32.length : Int)), (81, .int .i64 (IntKind.i64.wrap ((t32.length : Int) - 2)))]) (by kernel_rfl) ?_
             obtain ⟨g570, hp571⟩ := ite_some hp569
             obtain ⟨b572, p573, hA574, -⟩ := (hS76.row 0 rfl).at_ (len_encI .i64) (by omega) g570.1 g570.2
             refine q_indexAddr (c := (cd16 [1, 1, 1, 0, 1, 0, 0, 1, 0, 0, 1, 1, 1, 1, 0, 0])) (i := 44) (d := (some 82)) (ty := 0) (t := 59) (e := 3) (n := t32.length) (cp := c34) (sz := 1) (kk := .i64) (x := (.tmp 79)) (y := (.tmp 81)) (b := b572) (o' := p573) (j := (IntKind.i64.wrap ((t32.length : Int) - 2))) (by kernel_rfl) (by kernel_rfl) (slv (by kernel_rfl) hA574) (by kernel_rfl) (by kernel_rfl) (by kernel_rfl) g570.1 g570.2 ?_
             refine q_load (c := (cd16 [1, 1, 1, 0, 1, 0, 0, 1, 0, 0, 1, 1, 1, 1, 0, 0])) (i := 45) (d := (some 83)) (ty := 3) (t := 3) (x := (.tmp 82)) (p := ⟨b572, p573 + (IntKind.i64.wrap ((t32.length : Int) - 2)).toNat * 1, none⟩) (v := .int .i64 (gt t32 (IntKind.i64.wrap ((t32.length : Int) - 2)))) (by kernel_rfl) (by kernel_rfl) (by kernel_rfl) (fun w hC => (loads_at 0 ((hC.row 0 rfl).at2 hA574 (len_encI .i64) (by omega) g570.1 g570.2) (by kernel_rfl) (by kernel_rfl))) ?_
             refine q_splitr 1 (is' := [47, 48, 49, 50, 51, 52, 53, 54, 55, 56, 57, 58]) (us := []) (d := 84) (t := (((gt a0 t36).A) != (gt t32 (IntKind.i64.wrap ((t32.length : Int) - 2))))) (by kernel_rfl) (fun h576 => ?_) (fun h577 => ?_)
             ·skip
              have hp578 := ite_t hp571 h576
              refine q_run 12 (is' := []) (us := [(85, .bool true), (86, undef), (87, undef), (88, undef), (89, undef), (90, undef), (91, undef), (92, undef), (93, undef), (94, .bool true), (95, .bool true), (96, .bool true)]) (by kernel_rfl) ?_
              refine Qs.nil ?_
              intro w579 hS580
              refine sx_run 5 (todo' := [.code (cd16 [1, 1, 1, 0, 1, 0, 0, 1, 0, 0, 1, 1, 1, 1, 0, 1, 0, 1]), .code (cd16 [1, 1, 1, 0, 1, 0, 0, 1, 0, 0, 1, 1, 1, 1, 1]), .inBlock 1, .code (cd16 [1, 1, 1, 0, 1, 0, 0, 1, 1]), .inLoop (cd16 [1, 1, 1, 0, 1, 0, 0]), .inBlock 0, .code (cd16 [1, 1, 1, 1])]) (us := [(2, .bool false)]) (by kernel_rfl) ?_
              have hS581 := hS580.drop
              have hS582 := hS581.drop
              refine runs_ret (fn := Tryd.f16) (v := .bool false) Tryd.func16 (by kernel_rfl) ?_
              have hr583 := (hq46 _ (hq86 _ (Option.some.inj hp578)))
              cases hr583
              exact hR _ _ ⟨rfl, hS582⟩
             ·skip
              have hp584 := ite_f hp571 h577
              refine q_run 2 (is' := [49, 50, 51, 52, 53, 54, 55, 56, 57, 58]) (us := [(85, .bool false), (86, .pointer (some ⟨b56, 2, none⟩))]) (by kernel_rfl) ?_
              refine q_load (c := (cd16 [1, 1, 1, 0, 1, 0, 0, 1, 0, 0, 1, 1, 1, 1, 0, 0])) (i := 49) (d := (some 87)) (ty := 3) (t := 3) (x := (.tmp 86)) (p := ⟨b56, 2, none⟩) (v := .int .i64 ((gt a0 t36).B)) (by kernel_rfl) (by kernel_rfl) (by kernel_rfl) (fun w hC => (loads_at 2 (hC.blk 1 rfl) (by kernel_rfl) (by kernel_rfl))) ?_
              refine q_run 3 (is' := [53, 54, 55, 56, 57, 58]) (us := [(88, .slice A33 t32.length c34), (89, .int .i64 (t32.length : Int)), (90, .int .i64 (IntKind.i64.wrap ((t32.length : Int) - 1)))]) (by kernel_rfl) ?_
              obtain ⟨g585, hp586⟩ := ite_some hp584
              obtain ⟨b587, p588, hA589, -⟩ := (hS76.row 0 rfl).at_ (len_encI .i64) (by omega) g585.1 g585.2
              refine q_indexAddr (c := (cd16 [1, 1, 1, 0, 1, 0, 0, 1, 0, 0, 1, 1, 1, 1, 0, 0])) (i := 53) (d := (some 91)) (ty := 0) (t := 59) (e := 3) (n := t32.length) (cp := c34) (sz := 1) (kk := .i64) (x := (.tmp 88)) (y := (.tmp 90)) (b := b587) (o' := p588) (j := (IntKind.i64.wrap ((t32.length : Int) - 1))) (by kernel_rfl) (by kernel_rfl) (slv (by kernel_rfl) hA589) (by kernel_rfl) (by kernel_rfl) (by kernel_rfl) g585.1 g585.2 ?_
              refine q_load (c := (cd16 [1, 1, 1, 0, 1, 0, 0, 1, 0, 0, 1, 1, 1, 1, 0, 0])) (i := 54) (d := (some 92)) (ty := 3) (t := 3) (x := (.tmp 91)) (p := ⟨b587, p588 + (IntKind.i64.wrap ((t32.length : Int) - 1)).toNat * 1, none⟩) (v := .int .i64 (gt t32 (IntKind.i64.wrap ((t32.length : Int) - 1)))) (by kernel_rfl) (by kernel_rfl) (by kernel_rfl) (fun w hC => (loads_at 0 ((hC.row 0 rfl).at2 hA589 (len_encI .i64) (by omega) g585.1 g585.2) (by kernel_rfl) (by kernel_rfl))) ?_
              refine q_splitr 1 (is' := [56, 57, 58]) (us := []) (d := 93) (t := (((gt a0 t36).B) != (gt t32 (IntKind.i64.wrap ((t32.length : Int) - 1))))) (by kernel_rfl) (fun h591 => ?_) (fun h592 => ?_)
              ·skip
               have hp593 := ite_t hp586 h591
               refine q_run 3 (is' := []) (us := [(94, .bool true), (95, .bool true), (96, .bool true)]) (by kernel_rfl) ?_
               refine Qs.nil ?_
               intro w594 hS595
               refine sx_run 5 (todo' := [.code (cd16 [1, 1, 1, 0, 1, 0, 0, 1, 0, 0, 1, 1, 1, 1, 0, 1, 0, 1]), .code (cd16 [1, 1, 1, 0, 1, 0, 0, 1, 0, 0, 1, 1, 1, 1, 1]), .inBlock 1, .code (cd16 [1, 1, 1, 0, 1, 0, 0, 1, 1]), .inLoop (cd16 [1, 1, 1, 0, 1, 0, 0]), .inBlock 0, .code (cd16 [1, 1, 1, 1])]) (us := [(2, .bool false)]) (by kernel_rfl) ?_
               have hS596 := hS595.drop
               have hS597 := hS596.drop
               refine runs_ret (fn := Tryd.f16) (v := .bool false) Tryd.func16 (by kernel_rfl) ?_
               have hr598 := (hq46 _ (hq86 _ (Option.some.inj hp593)))
               cases hr598
               exact hR _ _ ⟨rfl, hS597⟩
              ·skip
               have hp599 := ite_f hp586 h592
               refine q_run 3 (is' := []) (us := [(94, .bool false), (95, .bool false), (96, .bool false)]) (by kernel_rfl) ?_
               refine Qs.nil ?_
               intro w600 hS601
               refine sx_run 2 (todo' := [.code (cd16 [1, 1, 1, 0, 1, 0, 0, 1, 0, 0, 1, 1, 1, 1, 1]), .inBlock 1, .code (cd16 [1, 1, 1, 0, 1, 0, 0, 1, 1]), .inLoop (cd16 [1, 1, 1, 0, 1, 0, 0]), .inBlock 0, .code (cd16 [1, 1, 1, 1])]) (us := []) (by kernel_rfl) ?_
               refine Runs.fill (m := [some (.slice Aa0 a0.length ca0), none, none, some (.slice A33 t32.length c34), some (.int .i64 t36), some (.pointer (some ⟨b56, 0, none⟩)), some (.int .i64 t74), some (.int .i64 (t32.length : Int)), none, none, none, none, none, none, none, none, none, none, none, none, none, none, none, none, none, none, none, none, none, none, none, none, none, none, none, none, none, none, none, none, none, none, none, none, none, none, none, none, none, none, none, none, none, none, none, none, none, none, none, none, none, none, none, none, none, none, none, none, none, none, none, none, none, none, none, none, none, none, none, none, none, none, none, none, none, none, none, none, none, none, none, none, none, none, none, none, none, none, none, none, none, none, none, none, none, none, none, none, none, none, none, none, none, none, none, none, none, none, none, none, none, none, none, none, none, none, none, none, none, none, none, none, none, none, none, none, none, none, none, none, none, none, none, none]) (by kernel_rfl) ?_
               exact J87 (Option.some.inj hp599) _ _ hS601
            ·skip
             have hp602 := ite_f hp566 h568
             refine q_run 21 (is' := []) (us := [(76, .bool false), (77, undef), (78, undef), (79, undef), (80, undef), (81, undef), (82, undef), (83, undef), (84, undef), (85, undef), (86, undef), (87, undef), (88, undef), (89, undef), (90, undef), (91, undef), (92, undef), (93, undef), (94, undef), (95, .bool false), (96, .bool false)]) (by kernel_rfl) ?_
             refine Qs.nil ?_
             intro w603 hS604
             refine sx_run 2 (todo' := [.code (cd16 [1, 1, 1, 0, 1, 0, 0, 1, 0, 0, 1, 1, 1, 1, 1]), .inBlock 1, .code (cd16 [1, 1, 1, 0, 1, 0, 0, 1, 1]), .inLoop (cd16 [1, 1, 1, 0, 1, 0, 0]), .inBlock 0, .code (cd16 [1, 1, 1, 1])]) (us := []) (by kernel_rfl) ?_
             refine Runs.fill (m := [some (.slice Aa0 a0.length ca0), none, none, some (.slice A33 t32.length c34), some (.int .i64 t36), some (.pointer (some ⟨b56, 0, none⟩)), some (.int .i64 t74), some (.int .i64 (t32.length : Int)), none, none, none, none, none, none, none, none, none, none, none, none, none, none, none, none, none, none, none, none, none, none, none, none, none, none, none, none, none, none, none, none, none, none, none, none, none, none, none, none, none, none, none, none, none, none, none, none, none, none, none, none, none, none, none, none, none, none, none, none, none, none, none, none, none, none, none, none, none, none, none, none, none, none, none, none, none, none, none, none, none, none, none, none, none, none, none, none, none, none, none, none, none, none, none, none, none, none, none, none, none, none, none, none, none, none, none, none, none, none, none, none, none, none, none, none, none, none, none, none, none, none, none, none, none, none, none, none, none, none, none, none, none, none, none, none]) (by kernel_rfl) ?_
             exact J87 (Option.some.inj hp602) _ _ hS604
       cases t65
       ·skip
        have hp605 := ite_f hv72 rfl
        refine sx_split 4 (todo' := [.inRegion (opsOf (cd16 [1, 1, 1, 0, 1, 0, 0, 1, 0, 0, 1, 1, 0, 1, 0, 1, 1, 0])) [1], .code (cd16 [1, 1, 1, 0, 1, 0, 0, 1, 0, 0, 1, 1, 0, 1, 0, 1, 1, 1]), .inBlock 2, .code (cd16 [1, 1, 1, 0, 1, 0, 0, 1, 0, 0, 1, 1, 1]), .inBlock 1, .code (cd16 [1, 1, 1, 0, 1, 0, 0, 1, 1]), .inLoop (cd16 [1, 1, 1, 0, 1, 0, 0]), .inBlock 0, .code (cd16 [1, 1, 1, 1])]) (us := []) (d := 32) (t := (((gt a0 t36).Op) == 3)) (by kernel_rfl) (fun h606 => ?_) (fun h607 => ?_)
        ·skip
         have hp608 := ite_t hp605 h606
         refine sx_run 7 (todo' := [.code (cd16 [1, 1, 1, 0, 1, 0, 0, 1, 0, 0, 1, 1, 1]), .inBlock 1, .code (cd16 [1, 1, 1, 0, 1, 0, 0, 1, 1]), .inLoop (cd16 [1, 1, 1, 0, 1, 0, 0]), .inBlock 0, .code (cd16 [1, 1, 1, 1])]) (us := [(31, .bool true), (6, .int .i64 1)]) (by kernel_rfl) ?_
         refine Runs.fill (m := [some (.slice Aa0 a0.length ca0), none, none, some (.slice A33 t32.length c34), some (.int .i64 t36), some (.pointer (some ⟨b56, 0, none⟩)), some (.int .i64 1), none, none, none, none, none, none, none, none, none, none, none, none, none, none, none, none, none, none, none, none, none, none, none, none, none, none, none, none, none, none, none, none, none, none, none, none, none, none, none, none, none, none, none, none, none, none, none, none, none, none, none, none, none, none, none, none, none, none, none, none, none, none, none, none, none, none, none, none, none, none, none, none, none, none, none, none, none, none, none, none, none, none, none, none, none, none, none, none, none, none, none, none, none, none, none, none, none, none, none, none, none, none, none, none, none, none, none, none, none, none, none, none, none, none, none, none, none, none, none, none, none, none, none, none, none, none, none, none, none, none, none, none, none, none, none, none, none]) (by kernel_rfl) ?_
         exact J78 1 (Option.some.inj hp608) _ _ hS67
        ·skip
         have hp609 := ite_f hp605 h607
         obtain ⟨v610, hv611, hp612⟩ := bind_some' hp609
         have J616 : ∀ (t613 : Bool) (he618 : t613 = v610) (l617 : List Value) (w614 : World) (hS615 : St w0 Z (xrow A33 c34 3 1 (t32.flatMap (encI .i64)) :: xblk b56 38 (enc_api_Node (gt a0 t36)) :: fs) w614), Runs Tryd.prog 16 [.code (cd16 [1, 1, 1, 0, 1, 0, 0, 1, 0, 0, 1, 1, 0, 1, 0, 1, 1, 1, 1, 1]), .inBlock 2, .code (cd16 [1, 1, 1, 0, 1, 0, 0, 1, 0, 0, 1, 1, 1]), .inBlock 1, .code (cd16 [1, 1, 1, 0, 1, 0, 0, 1, 1]), .inLoop (cd16 [1, 1, 1, 0, 1, 0, 0]), .inBlock 0, .code (cd16 [1, 1, 1, 1])] (fill [some (.slice Aa0 a0.length ca0), none, none, some (.slice A33 t32.length c34), some (.int .i64 t36), some (.pointer (some ⟨b56, 0, none⟩)), none, none, none, none, none, none, none, none, none, none, none, none, none, none, none, none, none, none, none, none, none, none, none, none, none, none, none, some (.bool t613), none, none, none, none, none, none, none, none, none, none, none, none, none, none, none, none, none, none, none, none, none, none, none, none, none, none, none, none, none, none, none, none, none, none, none, none, none, none, none, none, none, none, none, none, none, none, none, none, none, none, none, none, none, none, none, none, none, none, none, none, none, none, none, none, none, none, none, none, none, none, none, none, none, none, none, none, none, none, none, none, none, none, none, none, none, none, none, none, none, none, none, none, none, none, none, none, none, none, none, none, none, none, none, none, none, none, none, none, none, none] l617) w614 R := by
          intro t613 he618 l617 w614 hS615
          subst he618
          try dsimp only at hp612
          cases t613
          ·skip
           have hp619 := ite_f hp612 rfl
           refine sx_run 5 (todo' := [.code (cd16 [1, 1, 1, 0, 1, 0, 0, 1, 0, 0, 1, 1, 0, 1, 0, 1, 1, 1, 1, 1, 1, 1]), .inBlock 2, .code (cd16 [1, 1, 1, 0, 1, 0, 0, 1, 0, 0, 1, 1, 1]), .inBlock 1, .code (cd16 [1, 1, 1, 0, 1, 0, 0, 1, 1]), .inLoop (cd16 [1, 1, 1, 0, 1, 0, 0]), .inBlock 0, .code (cd16 [1, 1, 1, 1])]) (us := [(2, .bool false)]) (by kernel_rfl) ?_
           have hS620 := hS615.drop
           have hS621 := hS620.drop
           refine runs_ret (fn := Tryd.f16) (v := .bool false) Tryd.func16 (by kernel_rfl) ?_
           have hr622 := (hq46 _ (hq77 _ (Option.some.inj hp619)))
           cases hr622
           exact hR _ _ ⟨rfl, hS621⟩
          ·skip
           have hp623 := ite_t hp612 rfl
           refine sx_run 5 (todo' := [.code (cd16 [1, 1, 1, 0, 1, 0, 0, 1, 0, 0, 1, 1, 1]), .inBlock 1, .code (cd16 [1, 1, 1, 0, 1, 0, 0, 1, 1]), .inLoop (cd16 [1, 1, 1, 0, 1, 0, 0]), .inBlock 0, .code (cd16 [1, 1, 1, 1])]) (us := [(6, .int .i64 2)]) (by kernel_rfl) ?_
           refine Runs.fill (m := [some (.slice Aa0 a0.length ca0), none, none, some (.slice A33 t32.length c34), some (.int .i64 t36), some (.pointer (some ⟨b56, 0, none⟩)), some (.int .i64 2), none, none, none, none, none, none, none, none, none, none, none, none, none, none, none, none, none, none, none, none, none, none, none, none, none, none, none, none, none, none, none, none, none, none, none, none, none, none, none, none, none, none, none, none, none, none, none, none, none, none, none, none, none, none, none, none, none, none, none, none, none, none, none, none, none, none, none, none, none, none, none, none, none, none, none, none, none, none, none, none, none, none, none, none, none, none, none, none, none, none, none, none, none, none, none, none, none, none, none, none, none, none, none, none, none, none, none, none, none, none, none, none, none, none, none, none, none, none, none, none, none, none, none, none, none, none, none, none, none, none, none, none, none, none, none, none, none]) (by kernel_rfl) ?_
           exact J78 2 (Option.some.inj hp623) _ _ hS615
         refine sx_split 7 (todo' := [.inRegion (opsOf (cd16 [1, 1, 1, 0, 1, 0, 0, 1, 0, 0, 1, 1, 0, 1, 0, 1, 1, 1, 1, 0, 0])) [1], .code (cd16 [1, 1, 1, 0, 1, 0, 0, 1, 0, 0, 1, 1, 0, 1, 0, 1, 1, 1, 1, 0, 1]), .code (cd16 [1, 1, 1, 0, 1, 0, 0, 1, 0, 0, 1, 1, 0, 1, 0, 1, 1, 1, 1, 1]), .inBlock 2, .code (cd16 [1, 1, 1, 0, 1, 0, 0, 1, 0, 0, 1, 1, 1]), .inBlock 1, .code (cd16 [1, 1, 1, 0, 1, 0, 0, 1, 1]), .inLoop (cd16 [1, 1, 1, 0, 1, 0, 0]), .inBlock 0, .code (cd16 [1, 1, 1, 1])]) (us := [(31, .bool false)]) (d := 34) (t := (((gt a0 t36).Op) == 4)) (by kernel_rfl) (fun h624 => ?_) (fun h625 => ?_)
         ·skip
          have hp626 := ite_t hv611 h624
          refine sx_run 4 (todo' := [.code (cd16 [1, 1, 1, 0, 1, 0, 0, 1, 0, 0, 1, 1, 0, 1, 0, 1, 1, 1, 1, 1]), .inBlock 2, .code (cd16 [1, 1, 1, 0, 1, 0, 0, 1, 0, 0, 1, 1, 1]), .inBlock 1, .code (cd16 [1, 1, 1, 0, 1, 0, 0, 1, 1]), .inLoop (cd16 [1, 1, 1, 0, 1, 0, 0]), .inBlock 0, .code (cd16 [1, 1, 1, 1])]) (us := [(33, .bool true)]) (by kernel_rfl) ?_
          refine Runs.fill (m := [some (.slice Aa0 a0.length ca0), none, none, some (.slice A33 t32.length c34), some (.int .i64 t36), some (.pointer (some ⟨b56, 0, none⟩)), none, none, none, none, none, none, none, none, none, none, none, none, none, none, none, none, none, none, none, none, none, none, none, none, none, none, none, some (.bool true), none, none, none, none, none, none, none, none, none, none, none, none, none, none, none, none, none, none, none, none, none, none, none, none, none, none, none, none, none, none, none, none, none, none, none, none, none, none, none, none, none, none, none, none, none, none, none, none, none, none, none, none, none, none, none, none, none, none, none, none, none, none, none, none, none, none, none, none, none, none, none, none, none, none, none, none, none, none, none, none, none, none, none, none, none, none, none, none, none, none, none, none, none, none, none, none, none, none, none, none, none, none, none, none, none, none, none, none, none, none]) (by kernel_rfl) ?_
          exact J616 true (Option.some.inj hp626) _ _ hS67
         ·skip
          have hp627 := ite_f hv611 h625
          refine sx_split 5 (todo' := [.inRegion (opsOf (cd16 [1, 1, 1, 0, 1, 0, 0, 1, 0, 0, 1, 1, 0, 1, 0, 1, 1, 1, 1, 0, 1, 1])) [1], .code (cd16 [1, 1, 1, 0, 1, 0, 0, 1, 0, 0, 1, 1, 0, 1, 0, 1, 1, 1, 1, 1]), .inBlock 2, .code (cd16 [1, 1, 1, 0, 1, 0, 0, 1, 0, 0, 1, 1, 1]), .inBlock 1, .code (cd16 [1, 1, 1, 0, 1, 0, 0, 1, 1]), .inLoop (cd16 [1, 1, 1, 0, 1, 0, 0]), .inBlock 0, .code (cd16 [1, 1, 1, 1])]) (us := [(33, .bool false)]) (d := 35) (t := (((gt a0 t36).Op) == 5)) (by kernel_rfl) (fun h628 => ?_) (fun h629 => ?_)
          ·skip
           have hp630 := ite_t hp627 h628
           refine sx_run 2 (todo' := [.code (cd16 [1, 1, 1, 0, 1, 0, 0, 1, 0, 0, 1, 1, 0, 1, 0, 1, 1, 1, 1, 1]), .inBlock 2, .code (cd16 [1, 1, 1, 0, 1, 0, 0, 1, 0, 0, 1, 1, 1]), .inBlock 1, .code (cd16 [1, 1, 1, 0, 1, 0, 0, 1, 1]), .inLoop (cd16 [1, 1, 1, 0, 1, 0, 0]), .inBlock 0, .code (cd16 [1, 1, 1, 1])]) (us := [(33, .bool true)]) (by kernel_rfl) ?_
           refine Runs.fill (m := [some (.slice Aa0 a0.length ca0), none, none, some (.slice A33 t32.length c34), some (.int .i64 t36), some (.pointer (some ⟨b56, 0, none⟩)), none, none, none, none, none, none, none, none, none, none, none, none, none, none, none, none, none, none, none, none, none, none, none, none, none, none, none, some (.bool true), none, none, none, none, none, none, none, none, none, none, none, none, none, none, none, none, none, none, none, none, none, none, none, none, none, none, none, none, none, none, none, none, none, none, none, none, none, none, none, none, none, none, none, none, none, none, none, none, none, none, none, none, none, none, none, none, none, none, none, none, none, none, none, none, none, none, none, none, none, none, none, none, none, none, none, none, none, none, none, none, none, none, none, none, none, none, none, none, none, none, none, none, none, none, none, none, none, none, none, none, none, none, none, none, none, none, none, none, none, none]) (by kernel_rfl) ?_
           exact J616 true (Option.some.inj hp630) _ _ hS67
          ·skip
           have hp631 := ite_f hp627 h629
           refine sx_run 2 (todo' := [.code (cd16 [1, 1, 1, 0, 1, 0, 0, 1, 0, 0, 1, 1, 0, 1, 0, 1, 1, 1, 1, 1]), .inBlock 2, .code (cd16 [1, 1, 1, 0, 1, 0, 0, 1, 0, 0, 1, 1, 1]), .inBlock 1, .code (cd16 [1, 1, 1, 0, 1, 0, 0, 1, 1]), .inLoop (cd16 [1, 1, 1, 0, 1, 0, 0]), .inBlock 0, .code (cd16 [1, 1, 1, 1])]) (us := [(33, .bool false)]) (by kernel_rfl) ?_
           refine Runs.fill (m := [some (.slice Aa0 a0.length ca0), none, none, some (.slice A33 t32.length c34), some (.int .i64 t36), some (.pointer (some ⟨b56, 0, none⟩)), none, none, none, none, none, none, none, none, none, none, none, none, none, none, none, none, none, none, none, none, none, none, none, none, none, none, none, some (.bool false), none, none, none, none, none, none, none, none, none, none, none, none, none, none, none, none, none, none, none, none, none, none, none, none, none, none, none, none, none, none, none, none, none, none, none, none, none, none, none, none, none, none, none, none, none, none, none, none, none, none, none, none, none, none, none, none, none, none, none, none, none, none, none, none, none, none, none, none, none, none, none, none, none, none, none, none, none, none, none, none, none, none, none, none, none, none, none, none, none, none, none, none, none, none, none, none, none, none, none, none, none, none, none, none, none, none, none, none, none, none]) (by kernel_rfl) ?_
           exact J616 false (Option.some.inj hp631) _ _ hS67
       ·skip
        have hp632 := ite_t hv72 rfl
        refine sx_run 3 (todo' := [.code (cd16 [1, 1, 1, 0, 1, 0, 0, 1, 0, 0, 1, 1, 1]), .inBlock 1, .code (cd16 [1, 1, 1, 0, 1, 0, 0, 1, 1]), .inLoop (cd16 [1, 1, 1, 0, 1, 0, 0]), .inBlock 0, .code (cd16 [1, 1, 1, 1])]) (us := []) (by kernel_rfl) ?_
        refine Runs.fill (m := [some (.slice Aa0 a0.length ca0), none, none, some (.slice A33 t32.length c34), some (.int .i64 t36), some (.pointer (some ⟨b56, 0, none⟩)), some (.int .i64 0), none, none, none, none, none, none, none, none, none, none, none, none, none, none, none, none, none, none, none, none, none, none, none, none, none, none, none, none, none, none, none, none, none, none, none, none, none, none, none, none, none, none, none, none, none, none, none, none, none, none, none, none, none, none, none, none, none, none, none, none, none, none, none, none, none, none, none, none, none, none, none, none, none, none, none, none, none, none, none, none, none, none, none, none, none, none, none, none, none, none, none, none, none, none, none, none, none, none, none, none, none, none, none, none, none, none, none, none, none, none, none, none, none, none, none, none, none, none, none, none, none, none, none, none, none, none, none, none, none, none, none, none, none, none, none, none, none]) (by kernel_rfl) ?_
        exact J78 0 (Option.some.inj hp632) _ _ hS67
      refine sx_split 6 (todo' := [.inRegion (opsOf (cd16 [1, 1, 1, 0, 1, 0, 0, 1, 0, 0, 1, 1, 0, 1, 0, 0, 0])) [1], .code (cd16 [1, 1, 1, 0, 1, 0, 0, 1, 0, 0, 1, 1, 0, 1, 0, 0, 1]), .code (cd16 [1, 1, 1, 0, 1, 0, 0, 1, 0, 0, 1, 1, 0, 1, 0, 1]), .inBlock 2, .code (cd16 [1, 1, 1, 0, 1, 0, 0, 1, 0, 0, 1, 1, 1]), .inBlock 1, .code (cd16 [1, 1, 1, 0, 1, 0, 0, 1, 1]), .inLoop (cd16 [1, 1, 1, 0, 1, 0, 0]), .inBlock 0, .code (cd16 [1, 1, 1, 1])]) (us := []) (d := 29) (t := (((gt a0 t36).Op) == 1)) (by kernel_rfl) (fun h633 => ?_) (fun h634 => ?_)
      ·skip
       have hp635 := ite_t hv63 h633
       refine sx_run 4 (todo' := [.code (cd16 [1, 1, 1, 0, 1, 0, 0, 1, 0, 0, 1, 1, 0, 1, 0, 1]), .inBlock 2, .code (cd16 [1, 1, 1, 0, 1, 0, 0, 1, 0, 0, 1, 1, 1]), .inBlock 1, .code (cd16 [1, 1, 1, 0, 1, 0, 0, 1, 1]), .inLoop (cd16 [1, 1, 1, 0, 1, 0, 0]), .inBlock 0, .code (cd16 [1, 1, 1, 1])]) (us := [(28, .bool true)]) (by kernel_rfl) ?_
       have hS636 := hS61.pick1
       refine Runs.fill (m := [some (.slice Aa0 a0.length ca0), none, none, some (.slice A33 t32.length c34), some (.int .i64 t36), some (.pointer (some ⟨b56, 0, none⟩)), some (.int .i64 0), none, none, none, none, none, none, none, none, none, none, none, none, none, none, none, none, none, none, none, none, some (.int .i64 ((gt a0 t36).Op)), some (.bool true), none, none, none, none, none, none, none, none, none, none, none, none, none, none, none, none, none, none, none, none, none, none, none, none, none, none, none, none, none, none, none, none, none, none, none, none, none, none, none, none, none, none, none, none, none, none, none, none, none, none, none, none, none, none, none, none, none, none, none, none, none, none, none, none, none, none, none, none, none, none, none, none, none, none, none, none, none, none, none, none, none, none, none, none, none, none, none, none, none, none, none, none, none, none, none, none, none, none, none, none, none, none, none, none, none, none, none, none, none, none, none, none, none, none, none]) (by kernel_rfl) ?_
       exact J68 true (Option.some.inj hp635) _ _ hS636
      ·skip
       have hp637 := ite_f hv63 h634
       refine sx_split 5 (todo' := [.inRegion (opsOf (cd16 [1, 1, 1, 0, 1, 0, 0, 1, 0, 0, 1, 1, 0, 1, 0, 0, 1, 1])) [1], .code (cd16 [1, 1, 1, 0, 1, 0, 0, 1, 0, 0, 1, 1, 0, 1, 0, 1]), .inBlock 2, .code (cd16 [1, 1, 1, 0, 1, 0, 0, 1, 0, 0, 1, 1, 1]), .inBlock 1, .code (cd16 [1, 1, 1, 0, 1, 0, 0, 1, 1]), .inLoop (cd16 [1, 1, 1, 0, 1, 0, 0]), .inBlock 0, .code (cd16 [1, 1, 1, 1])]) (us := [(28, .bool false)]) (d := 30) (t := (((gt a0 t36).Op) == 2)) (by kernel_rfl) (fun h638 => ?_) (fun h639 => ?_)
       ·skip
        have hp640 := ite_t hp637 h638
        refine sx_run 2 (todo' := [.code (cd16 [1, 1, 1, 0, 1, 0, 0, 1, 0, 0, 1, 1, 0, 1, 0, 1]), .inBlock 2, .code (cd16 [1, 1, 1, 0, 1, 0, 0, 1, 0, 0, 1, 1, 1]), .inBlock 1, .code (cd16 [1, 1, 1, 0, 1, 0, 0, 1, 1]), .inLoop (cd16 [1, 1, 1, 0, 1, 0, 0]), .inBlock 0, .code (cd16 [1, 1, 1, 1])]) (us := [(28, .bool true)]) (by kernel_rfl) ?_
        have hS641 := hS61.pick1
        refine Runs.fill (m := [some (.slice Aa0 a0.length ca0), none, none, some (.slice A33 t32.length c34), some (.int .i64 t36), some (.pointer (some ⟨b56, 0, none⟩)), some (.int .i64 0), none, none, none, none, none, none, none, none, none, none, none, none, none, none, none, none, none, none, none, none, some (.int .i64 ((gt a0 t36).Op)), some (.bool true), none, none, none, none, none, none, none, none, none, none, none, none, none, none, none, none, none, none, none, none, none, none, none, none, none, none, none, none, none, none, none, none, none, none, none, none, none, none, none, none, none, none, none, none, none, none, none, none, none, none, none, none, none, none, none, none, none, none, none, none, none, none, none, none, none, none, none, none, none, none, none, none, none, none, none, none, none, none, none, none, none, none, none, none, none, none, none, none, none, none, none, none, none, none, none, none, none, none, none, none, none, none, none, none, none, none, none, none, none, none, none, none, none, none, none]) (by kernel_rfl) ?_
        exact J68 true (Option.some.inj hp640) _ _ hS641
       ·skip
        have hp642 := ite_f hp637 h639
        refine sx_run 2 (todo' := [.code (cd16 [1, 1, 1, 0, 1, 0, 0, 1, 0, 0, 1, 1, 0, 1, 0, 1]), .inBlock 2, .code (cd16 [1, 1, 1, 0, 1, 0, 0, 1, 0, 0, 1, 1, 1]), .inBlock 1, .code (cd16 [1, 1, 1, 0, 1, 0, 0, 1, 1]), .inLoop (cd16 [1, 1, 1, 0, 1, 0, 0]), .inBlock 0, .code (cd16 [1, 1, 1, 1])]) (us := [(28, .bool false)]) (by kernel_rfl) ?_
        have hS643 := hS61.pick1
        refine Runs.fill (m := [some (.slice Aa0 a0.length ca0), none, none, some (.slice A33 t32.length c34), some (.int .i64 t36), some (.pointer (some ⟨b56, 0, none⟩)), some (.int .i64 0), none, none, none, none, none, none, none, none, none, none, none, none, none, none, none, none, none, none, none, none, some (.int .i64 ((gt a0 t36).Op)), some (.bool false), none, none, none, none, none, none, none, none, none, none, none, none, none, none, none, none, none, none, none, none, none, none, none, none, none, none, none, none, none, none, none, none, none, none, none, none, none, none, none, none, none, none, none, none, none, none, none, none, none, none, none, none, none, none, none, none, none, none, none, none, none, none, none, none, none, none, none, none, none, none, none, none, none, none, none, none, none, none, none, none, none, none, none, none, none, none, none, none, none, none, none, none, none, none, none, none, none, none, none, none, none, none, none, none, none, none, none, none, none, none, none, none, none, none, none]) (by kernel_rfl) ?_
        exact J68 false (Option.some.inj hp642) _ _ hS643
     ·skip
      have hp644 := ite_f hb42 h48
      refine sx_run 3 (todo' := [.code (cd16 [1, 1, 1, 1])]) (us := []) (by kernel_rfl) ?_
      refine Runs.fill (m := [none, none, none, some (.slice A33 t32.length c34), none, none, none, none, none, none, none, none, none, none, none, none, none, none, none, none, none, none, none, none, none, none, none, none, none, none, none, none, none, none, none, none, none, none, none, none, none, none, none, none, none, none, none, none, none, none, none, none, none, none, none, none, none, none, none, none, none, none, none, none, none, none, none, none, none, none, none, none, none, none, none, none, none, none, none, none, none, none, none, none, none, none, none, none, none, none, none, none, none, none, none, none, none, none, none, none, none, none, none, none, none, none, none, none, none, none, none, none, none, none, none, none, none, none, none, none, none, none, none, none, none, none, none, none, none, none, none, none, none, none, none, none, none, none, none, none, none, none, none, none]) (by kernel_rfl) ?_
      exact J21 t32 ((Option.some.inj hp644).trans he41) _ A33 c34 _ hS38
    have hS646 := hS0.nilrow none 3 1
    refine Runs.fill (m := [some (.slice Aa0 a0.length ca0), none, none, some (.slice none 0 0), some (.int .i64 0), none, none, none, none, none, none, none, none, none, none, none, none, none, none, none, none, none, none, none, none, none, none, none, none, none, none, none, none, none, none, none, none, none, none, none, none, none, none, none, none, none, none, none, none, none, none, none, none, none, none, none, none, none, none, none, none, none, none, none, none, none, none, none, none, none, none, none, none, none, none, none, none, none, none, none, none, none, none, none, none, none, none, none, none, none, none, none, none, none, none, none, none, none, none, none, none, none, none, none, none, none, none, none, none, none, none, none, none, none, none, none, none, none, none, none, none, none, none, none, none, none, none, none, none, none, none, none, none, none, none, none, none, none, none, none, none, none, none, none]) (by kernel_rfl) ?_
    exact L45 [] 0 _ hv12 rfl _ none 0 _ hS646

noncomputable def cd29 (p : List Nat) : Code := sub (bodyOf Tryd.f29) p
def weirref06_bracketed.f (a0 : Int) (a1 : Int) (a2 : Bool) : Option Bool :=
  (if (a0 == 3) = true then (if (a1 == 4) = true then some (true) else (if (a1 == 5) = true then some (true) else some (false))) else (if (a0 == 4) = true then (if (a1 == 5) = true then some (true) else (if a2 = true then (if (a1 == 4) = true then some (true) else some (false)) else some (false))) else (if a2 = true then (if (a1 == 5) = true then some (true) else some (false)) else some (false))))
set_option maxHeartbeats 16000000 in
theorem weirref06_bracketed.ok (a0 : Int) (a1 : Int) (a2 : Bool) {w0 : World} {Z : Zm} {fs : List XObj} {w : World} (hS0 : St w0 Z (fs) w) {q0 : Bool} (hp0 : weirref06_bracketed.f a0 a1 a2 = some q0) :
    Calls Tryd.prog 29 #[.int .i64 a0, .int .i64 a1, .bool a2] w (fun e w' => e = .returned (.bool q0) ∧ St w0 Z (fs) w') := by
  refine calls_abs ?_; intro R hR
  unfold weirref06_bracketed.f at hp0
  refine calls_of_runs (fn := Tryd.f29) (c := cd29 []) Tryd.func29 (by kernel_rfl) (al := [.int .i64 a0, .int .i64 a1, .bool a2]) rfl (n := 29) rfl ?_
  refine sx_split 13 (todo' := [.inRegion (opsOf (cd29 [1, 0, 1, 0, 0])) [1], .code (cd29 [1, 0, 1, 0, 1]), .inBlock 0, .code (cd29 [1, 1])]) (us := [(6, .bool false), (7, .int .i64 a0)]) (d := 9) (t := (a0 == 3)) (by kernel_rfl) (fun h1 => ?_) (fun h2 => ?_)
  ·skip
   have hp3 := ite_t hp0 h1
   refine sx_split 7 (todo' := [.inRegion (opsOf (cd29 [1, 0, 1, 0, 1, 0, 0])) [2, 3, 4, 5, 6], .code (cd29 [1, 0, 1, 0, 1, 0, 1]), .inBlock 0, .code (cd29 [1, 1])]) (us := [(8, .bool true), (10, .int .i64 a1)]) (d := 11) (t := (a1 == 4)) (by kernel_rfl) (fun h4 => ?_) (fun h5 => ?_)
   ·skip
    have hp6 := ite_t hp3 h4
    refine sx_run 6 (todo' := [.code (cd29 [1, 0, 1, 0, 1, 0, 1]), .inBlock 0, .code (cd29 [1, 1])]) (us := [(12, .bool true), (13, undef), (14, undef), (15, .bool true), (6, .bool true)]) (by kernel_rfl) ?_
    refine runs_ret (fn := Tryd.f29) (v := .bool true) Tryd.func29 (by kernel_rfl) ?_
    have hr7 := (Option.some.inj hp6)
    cases hr7
    exact hR _ _ ⟨rfl, hS0⟩
   ·skip
    have hp8 := ite_f hp3 h5
    refine sx_split 3 (todo' := [.inRegion (opsOf (cd29 [1, 0, 1, 0, 1, 0, 0])) [5, 6], .code (cd29 [1, 0, 1, 0, 1, 0, 1]), .inBlock 0, .code (cd29 [1, 1])]) (us := [(12, .bool false), (13, .int .i64 a1)]) (d := 14) (t := (a1 == 5)) (by kernel_rfl) (fun h9 => ?_) (fun h10 => ?_)
    ·skip
     have hp11 := ite_t hp8 h9
     refine sx_run 3 (todo' := [.code (cd29 [1, 0, 1, 0, 1, 0, 1]), .inBlock 0, .code (cd29 [1, 1])]) (us := [(15, .bool true), (6, .bool true)]) (by kernel_rfl) ?_
     refine runs_ret (fn := Tryd.f29) (v := .bool true) Tryd.func29 (by kernel_rfl) ?_
     have hr12 := (Option.some.inj hp11)
     cases hr12
     exact hR _ _ ⟨rfl, hS0⟩
    ·skip
     have hp13 := ite_f hp8 h10
     refine sx_run 3 (todo' := [.code (cd29 [1, 0, 1, 0, 1, 0, 1]), .inBlock 0, .code (cd29 [1, 1])]) (us := [(15, .bool false), (6, .bool false)]) (by kernel_rfl) ?_
     refine runs_ret (fn := Tryd.f29) (v := .bool false) Tryd.func29 (by kernel_rfl) ?_
     have hr14 := (Option.some.inj hp13)
     cases hr14
     exact hR _ _ ⟨rfl, hS0⟩
  ·skip
   have hp15 := ite_f hp0 h2
   refine sx_split 6 (todo' := [.inRegion (opsOf (cd29 [1, 0, 1, 0, 1, 1, 0])) [1], .code (cd29 [1, 0, 1, 0, 1, 1, 1]), .inBlock 0, .code (cd29 [1, 1])]) (us := [(8, .bool false)]) (d := 17) (t := (a0 == 4)) (by kernel_rfl) (fun h16 => ?_) (fun h17 => ?_)
   ·skip
    have hp18 := ite_t hp15 h16
    refine sx_split 7 (todo' := [.inRegion (opsOf (cd29 [1, 0, 1, 0, 1, 1, 1, 0, 0])) [2, 3, 4, 5, 6, 7, 8, 9], .code (cd29 [1, 0, 1, 0, 1, 1, 1, 0, 1]), .inBlock 0, .code (cd29 [1, 1])]) (us := [(16, .bool true), (18, .int .i64 a1)]) (d := 19) (t := (a1 == 5)) (by kernel_rfl) (fun h19 => ?_) (fun h20 => ?_)
    ·skip
     have hp21 := ite_t hp18 h19
     refine sx_run 9 (todo' := [.code (cd29 [1, 0, 1, 0, 1, 1, 1, 0, 1]), .inBlock 0, .code (cd29 [1, 1])]) (us := [(20, .bool true), (21, undef), (22, undef), (23, undef), (24, undef), (25, undef), (26, .bool true), (6, .bool true)]) (by kernel_rfl) ?_
     refine runs_ret (fn := Tryd.f29) (v := .bool true) Tryd.func29 (by kernel_rfl) ?_
     have hr22 := (Option.some.inj hp21)
     cases hr22
     exact hR _ _ ⟨rfl, hS0⟩
    ·skip
     have hp23 := ite_f hp18 h20
     refine sx_run 3 (todo' := [.inRegion (opsOf (cd29 [1, 0, 1, 0, 1, 1, 1, 0, 0])) [5, 6, 7, 8, 9], .code (cd29 [1, 0, 1, 0, 1, 1, 1, 0, 1]), .inBlock 0, .code (cd29 [1, 1])]) (us := [(20, .bool false), (21, .bool a2), (22, .bool a2)]) (by kernel_rfl) ?_
     cases a2
     ·skip
      have hp24 := ite_f hp23 rfl
      refine sx_run 6 (todo' := [.code (cd29 [1, 0, 1, 0, 1, 1, 1, 0, 1]), .inBlock 0, .code (cd29 [1, 1])]) (us := [(23, undef), (24, undef), (25, .bool false), (26, .bool false), (6, .bool false)]) (by kernel_rfl) ?_
      refine runs_ret (fn := Tryd.f29) (v := .bool false) Tryd.func29 (by kernel_rfl) ?_
      have hr25 := (Option.some.inj hp24)
      cases hr25
      exact hR _ _ ⟨rfl, hS0⟩
     ·skip
      have hp26 := ite_t hp23 rfl
      refine sx_split 2 (todo' := [.inRegion (opsOf (cd29 [1, 0, 1, 0, 1, 1, 1, 0, 0])) [7, 8, 9], .code (cd29 [1, 0, 1, 0, 1, 1, 1, 0, 1]), .inBlock 0, .code (cd29 [1, 1])]) (us := [(23, .int .i64 a1)]) (d := 24) (t := (a1 == 4)) (by kernel_rfl) (fun h27 => ?_) (fun h28 => ?_)
      ·skip
       have hp29 := ite_t hp26 h27
       refine sx_run 4 (todo' := [.code (cd29 [1, 0, 1, 0, 1, 1, 1, 0, 1]), .inBlock 0, .code (cd29 [1, 1])]) (us := [(25, .bool true), (26, .bool true), (6, .bool true)]) (by kernel_rfl) ?_
       refine runs_ret (fn := Tryd.f29) (v := .bool true) Tryd.func29 (by kernel_rfl) ?_
       have hr30 := (Option.some.inj hp29)
       cases hr30
       exact hR _ _ ⟨rfl, hS0⟩
      ·skip
       have hp31 := ite_f hp26 h28
       refine sx_run 4 (todo' := [.code (cd29 [1, 0, 1, 0, 1, 1, 1, 0, 1]), .inBlock 0, .code (cd29 [1, 1])]) (us := [(25, .bool false), (26, .bool false), (6, .bool false)]) (by kernel_rfl) ?_
       refine runs_ret (fn := Tryd.f29) (v := .bool false) Tryd.func29 (by kernel_rfl) ?_
       have hr32 := (Option.some.inj hp31)
       cases hr32
       exact hR _ _ ⟨rfl, hS0⟩
   ·skip
    have hp33 := ite_f hp15 h17
    refine sx_run 9 (todo' := [.inRegion (opsOf (cd29 [1, 1, 0])) [2, 3, 4, 5], .code (cd29 [1, 1, 1])]) (us := [(16, .bool false), (27, .bool a2), (28, .bool a2)]) (by kernel_rfl) ?_
    cases a2
    ·skip
     have hp34 := ite_f hp33 rfl
     refine sx_run 5 (todo' := [.code (cd29 [1, 1, 1])]) (us := [(29, undef), (30, undef), (31, .bool false), (6, .bool false)]) (by kernel_rfl) ?_
     refine runs_ret (fn := Tryd.f29) (v := .bool false) Tryd.func29 (by kernel_rfl) ?_
     have hr35 := (Option.some.inj hp34)
     cases hr35
     exact hR _ _ ⟨rfl, hS0⟩
    ·skip
     have hp36 := ite_t hp33 rfl
     refine sx_split 2 (todo' := [.inRegion (opsOf (cd29 [1, 1, 0])) [4, 5], .code (cd29 [1, 1, 1])]) (us := [(29, .int .i64 a1)]) (d := 30) (t := (a1 == 5)) (by kernel_rfl) (fun h37 => ?_) (fun h38 => ?_)
     ·skip
      have hp39 := ite_t hp36 h37
      refine sx_run 3 (todo' := [.code (cd29 [1, 1, 1])]) (us := [(31, .bool true), (6, .bool true)]) (by kernel_rfl) ?_
      refine runs_ret (fn := Tryd.f29) (v := .bool true) Tryd.func29 (by kernel_rfl) ?_
      have hr40 := (Option.some.inj hp39)
      cases hr40
      exact hR _ _ ⟨rfl, hS0⟩
     ·skip
      have hp41 := ite_f hp36 h38
      refine sx_run 3 (todo' := [.code (cd29 [1, 1, 1])]) (us := [(31, .bool false), (6, .bool false)]) (by kernel_rfl) ?_
      refine runs_ret (fn := Tryd.f29) (v := .bool false) Tryd.func29 (by kernel_rfl) ?_
      have hr42 := (Option.some.inj hp41)
      cases hr42
      exact hR _ _ ⟨rfl, hS0⟩

def weirref06_Deep.Spec (rec : (List api_Node) → Int → Option Int) : Prop := ∀ (a0 : List api_Node) (a1 : Int) (Aa0 : Option Addr) (ca0 : Nat) {w0 : World} {Z : Zm} {fs : List XObj} {w : World} (_ : St w0 Z (fs) w) (_ : SlZ (flat enc_api_Node) 6 Z Aa0 ca0 a0) {q0 : Int}, rec a0 a1 = some q0 →
    Calls Tryd.prog 17 #[.slice Aa0 a0.length ca0, .int .i64 a1] w (fun e w' => e = .returned (.int .i64 q0) ∧ St w0 Z (fs) w')

end
end Go.Proofs.YtmaldbnnighojaaDoor.K
