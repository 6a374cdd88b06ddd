/- The walk, part 3: each Go function as a plain Lean function, and that its call answers as that function says. No condition. -/
import Derived.Test.YtmgjnplkpmcleaaDoorE
import Derived.Test.YtmgjnplkpmcleaaDoorNG
import Derived.Test.YtmgjnplkpmcleaaDoorNP
import Derived.Test.YtmgjnplkpmcleaaDoorNM
import Derived.Test.YtmgjnplkpmcleaaDoorNI
import Derived.Test.YtmgjnplkpmcleaaDoorNV
import Derived.Test.YtmgjnplkpmcleaaDoorNB
import Derived.Test.YtmgjnplkpmcleaaDoorNR
import Derived.Test.YtmgjnplkpmcleaaDoorF2
set_option linter.unusedVariables false
set_option linter.unusedSimpArgs false
set_option maxRecDepth 100000
namespace Go.Proofs.YtmgjnplkpmcleaaDoor.K
open Go Go.RowKit
noncomputable section
noncomputable def cd9 (p : List Nat) : Code := sub (bodyOf Tryd.f9) p
def weirref08_Instr.f (a0 : api_Instr) : Option (ByteArray × Int) :=
  (weirref08_instr.f a0 >>= (fun t5 => (if (!t5) = true then some (((⟨#[]⟩ : ByteArray), 80)) else (weirref04_Text.f a0.Imm >>= (fun t16 => (if (⟨#[36]⟩ : ByteArray).size + t16.size ≤ 9223372036854775807 then (if (⟨#[91]⟩ : ByteArray).size + a0.Loc.size ≤ 9223372036854775807 then (if ((⟨#[91]⟩ : ByteArray) ++ a0.Loc).size + (⟨#[93]⟩ : ByteArray).size ≤ 9223372036854775807 then (if (a0.Op == 1) = true then (if (⟨#[77, 79, 86, 32]⟩ : ByteArray).size + a0.Reg.size ≤ 9223372036854775807 then (if ((⟨#[77, 79, 86, 32]⟩ : ByteArray) ++ a0.Reg).size + (⟨#[44]⟩ : ByteArray).size ≤ 9223372036854775807 then (if (((⟨#[77, 79, 86, 32]⟩ : ByteArray) ++ a0.Reg) ++ (⟨#[44]⟩ : ByteArray)).size + ((⟨#[36]⟩ : ByteArray) ++ t16).size ≤ 9223372036854775807 then some ((((((⟨#[77, 79, 86, 32]⟩ : ByteArray) ++ a0.Reg) ++ (⟨#[44]⟩ : ByteArray)) ++ ((⟨#[36]⟩ : ByteArray) ++ t16)), 0)) else none) else none) else none) else (if (a0.Op == 2) = true then (if (⟨#[77, 79, 86, 32]⟩ : ByteArray).size + a0.Reg.size ≤ 9223372036854775807 then (if ((⟨#[77, 79, 86, 32]⟩ : ByteArray) ++ a0.Reg).size + (⟨#[44]⟩ : ByteArray).size ≤ 9223372036854775807 then (if (((⟨#[77, 79, 86, 32]⟩ : ByteArray) ++ a0.Reg) ++ (⟨#[44]⟩ : ByteArray)).size + a0.Src.size ≤ 9223372036854775807 then some ((((((⟨#[77, 79, 86, 32]⟩ : ByteArray) ++ a0.Reg) ++ (⟨#[44]⟩ : ByteArray)) ++ a0.Src), 0)) else none) else none) else none) else (if (a0.Op == 3) = true then (if (⟨#[77, 79, 86, 32]⟩ : ByteArray).size + a0.Reg.size ≤ 9223372036854775807 then (if ((⟨#[77, 79, 86, 32]⟩ : ByteArray) ++ a0.Reg).size + (⟨#[44]⟩ : ByteArray).size ≤ 9223372036854775807 then (if (((⟨#[77, 79, 86, 32]⟩ : ByteArray) ++ a0.Reg) ++ (⟨#[44]⟩ : ByteArray)).size + (((⟨#[91]⟩ : ByteArray) ++ a0.Loc) ++ (⟨#[93]⟩ : ByteArray)).size ≤ 9223372036854775807 then some ((((((⟨#[77, 79, 86, 32]⟩ : ByteArray) ++ a0.Reg) ++ (⟨#[44]⟩ : ByteArray)) ++ (((⟨#[91]⟩ : ByteArray) ++ a0.Loc) ++ (⟨#[93]⟩ : ByteArray))), 0)) else none) else none) else none) else (if (a0.Op == 4) = true then (if (⟨#[77, 79, 86, 32]⟩ : ByteArray).size + (((⟨#[91]⟩ : ByteArray) ++ a0.Loc) ++ (⟨#[93]⟩ : ByteArray)).size ≤ 9223372036854775807 then (if ((⟨#[77, 79, 86, 32]⟩ : ByteArray) ++ (((⟨#[91]⟩ : ByteArray) ++ a0.Loc) ++ (⟨#[93]⟩ : ByteArray))).size + (⟨#[44]⟩ : ByteArray).size ≤ 9223372036854775807 then (if (((⟨#[77, 79, 86, 32]⟩ : ByteArray) ++ (((⟨#[91]⟩ : ByteArray) ++ a0.Loc) ++ (⟨#[93]⟩ : ByteArray))) ++ (⟨#[44]⟩ : ByteArray)).size + ((⟨#[36]⟩ : ByteArray) ++ t16).size ≤ 9223372036854775807 then some ((((((⟨#[77, 79, 86, 32]⟩ : ByteArray) ++ (((⟨#[91]⟩ : ByteArray) ++ a0.Loc) ++ (⟨#[93]⟩ : ByteArray))) ++ (⟨#[44]⟩ : ByteArray)) ++ ((⟨#[36]⟩ : ByteArray) ++ t16)), 0)) else none) else none) else none) else (if (a0.Op == 5) = true then (if (⟨#[77, 79, 86, 32]⟩ : ByteArray).size + (((⟨#[91]⟩ : ByteArray) ++ a0.Loc) ++ (⟨#[93]⟩ : ByteArray)).size ≤ 9223372036854775807 then (if ((⟨#[77, 79, 86, 32]⟩ : ByteArray) ++ (((⟨#[91]⟩ : ByteArray) ++ a0.Loc) ++ (⟨#[93]⟩ : ByteArray))).size + (⟨#[44]⟩ : ByteArray).size ≤ 9223372036854775807 then (if (((⟨#[77, 79, 86, 32]⟩ : ByteArray) ++ (((⟨#[91]⟩ : ByteArray) ++ a0.Loc) ++ (⟨#[93]⟩ : ByteArray))) ++ (⟨#[44]⟩ : ByteArray)).size + a0.Src.size ≤ 9223372036854775807 then some ((((((⟨#[77, 79, 86, 32]⟩ : ByteArray) ++ (((⟨#[91]⟩ : ByteArray) ++ a0.Loc) ++ (⟨#[93]⟩ : ByteArray))) ++ (⟨#[44]⟩ : ByteArray)) ++ a0.Src), 0)) else none) else none) else none) else (if (a0.Op == 7) = true then (if (⟨#[88, 67, 72, 71, 32]⟩ : ByteArray).size + (((⟨#[91]⟩ : ByteArray) ++ a0.Loc) ++ (⟨#[93]⟩ : ByteArray)).size ≤ 9223372036854775807 then (if ((⟨#[88, 67, 72, 71, 32]⟩ : ByteArray) ++ (((⟨#[91]⟩ : ByteArray) ++ a0.Loc) ++ (⟨#[93]⟩ : ByteArray))).size + (⟨#[44]⟩ : ByteArray).size ≤ 9223372036854775807 then (if (((⟨#[88, 67, 72, 71, 32]⟩ : ByteArray) ++ (((⟨#[91]⟩ : ByteArray) ++ a0.Loc) ++ (⟨#[93]⟩ : ByteArray))) ++ (⟨#[44]⟩ : ByteArray)).size + a0.Reg.size ≤ 9223372036854775807 then some ((((((⟨#[88, 67, 72, 71, 32]⟩ : ByteArray) ++ (((⟨#[91]⟩ : ByteArray) ++ a0.Loc) ++ (⟨#[93]⟩ : ByteArray))) ++ (⟨#[44]⟩ : ByteArray)) ++ a0.Reg), 0)) else none) else none) else none) else (if (a0.Op == 8) = true then (if (⟨#[76, 79, 67, 75, 32, 67, 77, 80, 88, 67, 72, 71, 32]⟩ : ByteArray).size + (((⟨#[91]⟩ : ByteArray) ++ a0.Loc) ++ (⟨#[93]⟩ : ByteArray)).size ≤ 9223372036854775807 then (if ((⟨#[76, 79, 67, 75, 32, 67, 77, 80, 88, 67, 72, 71, 32]⟩ : ByteArray) ++ (((⟨#[91]⟩ : ByteArray) ++ a0.Loc) ++ (⟨#[93]⟩ : ByteArray))).size + (⟨#[44]⟩ : ByteArray).size ≤ 9223372036854775807 then (if (((⟨#[76, 79, 67, 75, 32, 67, 77, 80, 88, 67, 72, 71, 32]⟩ : ByteArray) ++ (((⟨#[91]⟩ : ByteArray) ++ a0.Loc) ++ (⟨#[93]⟩ : ByteArray))) ++ (⟨#[44]⟩ : ByteArray)).size + a0.Src.size ≤ 9223372036854775807 then some ((((((⟨#[76, 79, 67, 75, 32, 67, 77, 80, 88, 67, 72, 71, 32]⟩ : ByteArray) ++ (((⟨#[91]⟩ : ByteArray) ++ a0.Loc) ++ (⟨#[93]⟩ : ByteArray))) ++ (⟨#[44]⟩ : ByteArray)) ++ a0.Src), 0)) else none) else none) else none) else (if (a0.Op == 9) = true then (if (⟨#[76, 79, 67, 75, 32, 88, 65, 68, 68, 32]⟩ : ByteArray).size + (((⟨#[91]⟩ : ByteArray) ++ a0.Loc) ++ (⟨#[93]⟩ : ByteArray)).size ≤ 9223372036854775807 then (if ((⟨#[76, 79, 67, 75, 32, 88, 65, 68, 68, 32]⟩ : ByteArray) ++ (((⟨#[91]⟩ : ByteArray) ++ a0.Loc) ++ (⟨#[93]⟩ : ByteArray))).size + (⟨#[44]⟩ : ByteArray).size ≤ 9223372036854775807 then (if (((⟨#[76, 79, 67, 75, 32, 88, 65, 68, 68, 32]⟩ : ByteArray) ++ (((⟨#[91]⟩ : ByteArray) ++ a0.Loc) ++ (⟨#[93]⟩ : ByteArray))) ++ (⟨#[44]⟩ : ByteArray)).size + a0.Reg.size ≤ 9223372036854775807 then some ((((((⟨#[76, 79, 67, 75, 32, 88, 65, 68, 68, 32]⟩ : ByteArray) ++ (((⟨#[91]⟩ : ByteArray) ++ a0.Loc) ++ (⟨#[93]⟩ : ByteArray))) ++ (⟨#[44]⟩ : ByteArray)) ++ a0.Reg), 0)) else none) else none) else none) else some (((⟨#[77, 70, 69, 78, 67, 69]⟩ : ByteArray), 0)))))))))) else none) else none) else none))))))
set_option maxHeartbeats 16000000 in
theorem weirref08_Instr.ok (a0 : api_Instr) {w0 : World} {Z : Zm} {fs : List XObj} {w : World} (hS0 : St w0 Z (fs) w) {q0 : ByteArray} {q1 : Int} (hp0 : weirref08_Instr.f a0 = some (q0, q1)) :
    Calls Tryd.prog 9 #[.agg (enc_api_Instr a0).toArray] w (fun e w' => e = .returned (.tuple #[.string q0, .int .i64 q1]) ∧ St w0 Z (fs) w') := by
  refine calls_abs ?_; intro R hR
  unfold weirref08_Instr.f at hp0
  refine calls_of_runs (fn := Tryd.f9) (c := cd9 []) Tryd.func9 (by kernel_rfl) (al := [.agg (enc_api_Instr a0).toArray]) rfl (n := 82) rfl ?_
  refine sx_run 2 (todo' := [.inRegion (opsOf (cd9 [0])) [0, 1, 2], .code (cd9 [1])]) (us := []) (by kernel_rfl) ?_
  refine r_box (c := (cd9 [0])) (i := 0) (d := (some 1)) (ty := 0) (x := (.tmp 0)) (v := .agg (enc_api_Instr a0).toArray) (t := 27) (cs := enc_api_Instr a0) hS0 (by kernel_rfl) (by kernel_rfl) (by kernel_rfl) (by kernel_rfl) ?_
  intro b1 w2 hS3
  refine sx_run 6 (todo' := [.inRegion (opsOf (cd9 [1, 0, 0])) [0, 1, 2], .code (cd9 [1, 0, 1]), .code (cd9 [1, 1])]) (us := [(2, .string (⟨#[]⟩ : ByteArray)), (3, .int .i64 0)]) (by kernel_rfl) ?_
  refine r_load (c := (cd9 [1, 0, 0])) (i := 0) (d := (some 6)) (ty := 27) (t := 27) (x := (.tmp 1)) (p := ⟨b1, 0, none⟩) (v := .agg (enc_api_Instr a0).toArray) (by kernel_rfl) (by kernel_rfl) (by kernel_rfl) (loads_agg (hS3.blk 0 rfl) (by kernel_rfl) (by kernel_rfl)) ?_
  obtain ⟨t5, hr6, hp7⟩ := bind_some' hp0
  refine r_call1 (c := (cd9 [1, 0, 0])) (i := 1) (d := (some 7)) (g := 22) (args := #[.agg (enc_api_Instr a0).toArray]) (by kernel_rfl) (by kernel_rfl) (by kernel_rfl) (by kernel_rfl) (weirref08_instr.ok a0 hS3 hr6) ?_
  rintro _ w8 ⟨rfl, hS9⟩
  refine ⟨.bool t5, rfl, ?_⟩
  refine sx_split 1 (todo' := [.inRegion (opsOf (cd9 [1, 0, 0])) [], .code (cd9 [1, 0, 1]), .code (cd9 [1, 1])]) (us := []) (d := 8) (t := (!t5)) (by kernel_rfl) (fun h10 => ?_) (fun h11 => ?_)
  ·skip
   have hp12 := ite_t hp7 h10
   refine sx_run 7 (todo' := [.code (cd9 [1, 0, 1, 0, 1]), .code (cd9 [1, 1])]) (us := [(2, .string (⟨#[]⟩ : ByteArray)), (3, .int .i64 80)]) (by kernel_rfl) ?_
   have hS13 := hS9.drop
   refine runs_ret (fn := Tryd.f9) (v := .tuple #[.string (⟨#[]⟩ : ByteArray), .int .i64 80]) Tryd.func9 (by kernel_rfl) ?_
   have hr14 := (Option.some.inj hp12)
   cases hr14
   exact hR _ _ ⟨rfl, hS13⟩
  ·skip
   have hp15 := ite_f hp7 h11
   refine sx_run 6 (todo' := [.inRegion (opsOf (cd9 [1, 1, 0])) [1, 2, 3, 4], .code (cd9 [1, 1, 1])]) (us := [(9, .pointer (some ⟨b1, 4, none⟩))]) (by kernel_rfl) ?_
   refine r_load (c := (cd9 [1, 1, 0])) (i := 1) (d := (some 10)) (ty := 2) (t := 2) (x := (.tmp 9)) (p := ⟨b1, 4, none⟩) (v := .int .i64 a0.Imm) (by kernel_rfl) (by kernel_rfl) (by kernel_rfl) (loads_at 4 (hS9.blk 0 rfl) (by kernel_rfl) (by kernel_rfl)) ?_
   obtain ⟨t16, hr17, hp18⟩ := bind_some' hp15
   refine r_call1 (c := (cd9 [1, 1, 0])) (i := 2) (d := (some 11)) (g := 14) (args := #[.int .i64 a0.Imm]) (by kernel_rfl) (by kernel_rfl) (by kernel_rfl) (by kernel_rfl) (weirref04_Text.ok a0.Imm hS9 hr17) ?_
   rintro _ w19 ⟨rfl, hS20⟩
   refine ⟨.string t16, rfl, ?_⟩
   obtain ⟨g21, hp22⟩ := ite_some hp18
   refine r_val (c := (cd9 [1, 1, 0])) (i := 3) (d := (some 12)) (ty := 9) (op := .binOp .add 9 (.const (.string (⟨#[36]⟩ : ByteArray))) (.tmp 11) 9) (v := .string ((⟨#[36]⟩ : ByteArray) ++ t16)) (by kernel_rfl) (by kernel_rfl) (fun o ho _ => x_concat (by kernel_rfl) (by kernel_rfl) g21 ho) ?_
   refine sx_run 5 (todo' := [.inRegion (opsOf (cd9 [1, 1, 1, 0])) [1, 2, 3, 4], .code (cd9 [1, 1, 1, 1])]) (us := [(4, .string ((⟨#[36]⟩ : ByteArray) ++ t16)), (13, .pointer (some ⟨b1, 3, none⟩))]) (by kernel_rfl) ?_
   refine r_load (c := (cd9 [1, 1, 1, 0])) (i := 1) (d := (some 14)) (ty := 9) (t := 9) (x := (.tmp 13)) (p := ⟨b1, 3, none⟩) (v := .string a0.Loc) (by kernel_rfl) (by kernel_rfl) (by kernel_rfl) (loads_at 3 (hS20.blk 0 rfl) (by kernel_rfl) (by kernel_rfl)) ?_
   obtain ⟨g23, hp24⟩ := ite_some hp22
   refine r_val (c := (cd9 [1, 1, 1, 0])) (i := 2) (d := (some 15)) (ty := 9) (op := .binOp .add 9 (.const (.string (⟨#[91]⟩ : ByteArray))) (.tmp 14) 9) (v := .string ((⟨#[91]⟩ : ByteArray) ++ a0.Loc)) (by kernel_rfl) (by kernel_rfl) (fun o ho _ => x_concat (by kernel_rfl) (by kernel_rfl) g23 ho) ?_
   obtain ⟨g25, hp26⟩ := ite_some hp24
   refine r_val (c := (cd9 [1, 1, 1, 0])) (i := 3) (d := (some 16)) (ty := 9) (op := .binOp .add 9 (.tmp 15) (.const (.string (⟨#[93]⟩ : ByteArray))) 9) (v := .string (((⟨#[91]⟩ : ByteArray) ++ a0.Loc) ++ (⟨#[93]⟩ : ByteArray))) (by kernel_rfl) (by kernel_rfl) (fun o ho _ => x_concat (by kernel_rfl) (by kernel_rfl) g25 ho) ?_
   refine sx_run 6 (todo' := [.inRegion (opsOf (cd9 [1, 1, 1, 1, 0, 0])) [1], .code (cd9 [1, 1, 1, 1, 0, 1]), .code (cd9 [1, 1, 1, 1, 1])]) (us := [(5, .string (((⟨#[91]⟩ : ByteArray) ++ a0.Loc) ++ (⟨#[93]⟩ : ByteArray))), (17, .pointer (some ⟨b1, 0, none⟩))]) (by kernel_rfl) ?_
   refine r_load (c := (cd9 [1, 1, 1, 1, 0, 0])) (i := 1) (d := (some 18)) (ty := 3) (t := 3) (x := (.tmp 17)) (p := ⟨b1, 0, none⟩) (v := .int .i64 a0.Op) (by kernel_rfl) (by kernel_rfl) (by kernel_rfl) (loads_at 0 (hS20.blk 0 rfl) (by kernel_rfl) (by kernel_rfl)) ?_
   refine sx_split 5 (todo' := [.inRegion (opsOf (cd9 [1, 1, 1, 1, 0, 1, 0, 0])) [1], .code (cd9 [1, 1, 1, 1, 0, 1, 0, 1]), .inBlock 0, .code (cd9 [1, 1, 1, 1, 1])]) (us := []) (d := 20) (t := (a0.Op == 1)) (by kernel_rfl) (fun h27 => ?_) (fun h28 => ?_)
   ·skip
    have hp29 := ite_t hp26 h27
    refine sx_run 6 (todo' := [.inRegion (opsOf (cd9 [1, 1, 1, 1, 0, 1, 0, 1, 0, 0])) [1, 2, 3, 4, 5, 6, 7], .code (cd9 [1, 1, 1, 1, 0, 1, 0, 1, 0, 1]), .inBlock 0, .code (cd9 [1, 1, 1, 1, 1])]) (us := [(19, .bool true), (21, .pointer (some ⟨b1, 1, none⟩))]) (by kernel_rfl) ?_
    refine r_load (c := (cd9 [1, 1, 1, 1, 0, 1, 0, 1, 0, 0])) (i := 1) (d := (some 22)) (ty := 9) (t := 9) (x := (.tmp 21)) (p := ⟨b1, 1, none⟩) (v := .string a0.Reg) (by kernel_rfl) (by kernel_rfl) (by kernel_rfl) (loads_at 1 (hS20.blk 0 rfl) (by kernel_rfl) (by kernel_rfl)) ?_
    obtain ⟨g30, hp31⟩ := ite_some hp29
    refine r_val (c := (cd9 [1, 1, 1, 1, 0, 1, 0, 1, 0, 0])) (i := 2) (d := (some 23)) (ty := 9) (op := .binOp .add 9 (.const (.string (⟨#[77, 79, 86, 32]⟩ : ByteArray))) (.tmp 22) 9) (v := .string ((⟨#[77, 79, 86, 32]⟩ : ByteArray) ++ a0.Reg)) (by kernel_rfl) (by kernel_rfl) (fun o ho _ => x_concat (by kernel_rfl) (by kernel_rfl) g30 ho) ?_
    obtain ⟨g32, hp33⟩ := ite_some hp31
    refine r_val (c := (cd9 [1, 1, 1, 1, 0, 1, 0, 1, 0, 0])) (i := 3) (d := (some 24)) (ty := 9) (op := .binOp .add 9 (.tmp 23) (.const (.string (⟨#[44]⟩ : ByteArray))) 9) (v := .string (((⟨#[77, 79, 86, 32]⟩ : ByteArray) ++ a0.Reg) ++ (⟨#[44]⟩ : ByteArray))) (by kernel_rfl) (by kernel_rfl) (fun o ho _ => x_concat (by kernel_rfl) (by kernel_rfl) g32 ho) ?_
    refine sx_run 1 (todo' := [.inRegion (opsOf (cd9 [1, 1, 1, 1, 0, 1, 0, 1, 0, 0])) [5, 6, 7], .code (cd9 [1, 1, 1, 1, 0, 1, 0, 1, 0, 1]), .inBlock 0, .code (cd9 [1, 1, 1, 1, 1])]) (us := [(25, .string ((⟨#[36]⟩ : ByteArray) ++ t16))]) (by kernel_rfl) ?_
    obtain ⟨g34, hp35⟩ := ite_some hp33
    refine r_val (c := (cd9 [1, 1, 1, 1, 0, 1, 0, 1, 0, 0])) (i := 5) (d := (some 26)) (ty := 9) (op := .binOp .add 9 (.tmp 24) (.tmp 25) 9) (v := .string ((((⟨#[77, 79, 86, 32]⟩ : ByteArray) ++ a0.Reg) ++ (⟨#[44]⟩ : ByteArray)) ++ ((⟨#[36]⟩ : ByteArray) ++ t16))) (by kernel_rfl) (by kernel_rfl) (fun o ho _ => x_concat (by kernel_rfl) (by kernel_rfl) g34 ho) ?_
    refine sx_run 3 (todo' := [.code (cd9 [1, 1, 1, 1, 0, 1, 0, 1, 0, 1]), .inBlock 0, .code (cd9 [1, 1, 1, 1, 1])]) (us := [(2, .string ((((⟨#[77, 79, 86, 32]⟩ : ByteArray) ++ a0.Reg) ++ (⟨#[44]⟩ : ByteArray)) ++ ((⟨#[36]⟩ : ByteArray) ++ t16))), (3, .int .i64 0)]) (by kernel_rfl) ?_
    have hS36 := hS20.drop
    refine runs_ret (fn := Tryd.f9) (v := .tuple #[.string ((((⟨#[77, 79, 86, 32]⟩ : ByteArray) ++ a0.Reg) ++ (⟨#[44]⟩ : ByteArray)) ++ ((⟨#[36]⟩ : ByteArray) ++ t16)), .int .i64 0]) Tryd.func9 (by kernel_rfl) ?_
    have hr37 := (Option.some.inj hp35)
    cases hr37
    exact hR _ _ ⟨rfl, hS36⟩
   ·skip
    have hp38 := ite_f hp26 h28
    refine sx_split 6 (todo' := [.inRegion (opsOf (cd9 [1, 1, 1, 1, 0, 1, 0, 1, 1, 0])) [1], .code (cd9 [1, 1, 1, 1, 0, 1, 0, 1, 1, 1]), .inBlock 0, .code (cd9 [1, 1, 1, 1, 1])]) (us := [(19, .bool false)]) (d := 28) (t := (a0.Op == 2)) (by kernel_rfl) (fun h39 => ?_) (fun h40 => ?_)
    ·skip
     have hp41 := ite_t hp38 h39
     refine sx_run 6 (todo' := [.inRegion (opsOf (cd9 [1, 1, 1, 1, 0, 1, 0, 1, 1, 1, 0, 0])) [1, 2, 3, 4, 5, 6, 7, 8], .code (cd9 [1, 1, 1, 1, 0, 1, 0, 1, 1, 1, 0, 1]), .inBlock 0, .code (cd9 [1, 1, 1, 1, 1])]) (us := [(27, .bool true), (29, .pointer (some ⟨b1, 1, none⟩))]) (by kernel_rfl) ?_
     refine r_load (c := (cd9 [1, 1, 1, 1, 0, 1, 0, 1, 1, 1, 0, 0])) (i := 1) (d := (some 30)) (ty := 9) (t := 9) (x := (.tmp 29)) (p := ⟨b1, 1, none⟩) (v := .string a0.Reg) (by kernel_rfl) (by kernel_rfl) (by kernel_rfl) (loads_at 1 (hS20.blk 0 rfl) (by kernel_rfl) (by kernel_rfl)) ?_
     obtain ⟨g42, hp43⟩ := ite_some hp41
     refine r_val (c := (cd9 [1, 1, 1, 1, 0, 1, 0, 1, 1, 1, 0, 0])) (i := 2) (d := (some 31)) (ty := 9) (op := .binOp .add 9 (.const (.string (⟨#[77, 79, 86, 32]⟩ : ByteArray))) (.tmp 30) 9) (v := .string ((⟨#[77, 79, 86, 32]⟩ : ByteArray) ++ a0.Reg)) (by kernel_rfl) (by kernel_rfl) (fun o ho _ => x_concat (by kernel_rfl) (by kernel_rfl) g42 ho) ?_
     obtain ⟨g44, hp45⟩ := ite_some hp43
     refine r_val (c := (cd9 [1, 1, 1, 1, 0, 1, 0, 1, 1, 1, 0, 0])) (i := 3) (d := (some 32)) (ty := 9) (op := .binOp .add 9 (.tmp 31) (.const (.string (⟨#[44]⟩ : ByteArray))) 9) (v := .string (((⟨#[77, 79, 86, 32]⟩ : ByteArray) ++ a0.Reg) ++ (⟨#[44]⟩ : ByteArray))) (by kernel_rfl) (by kernel_rfl) (fun o ho _ => x_concat (by kernel_rfl) (by kernel_rfl) g44 ho) ?_
     refine sx_run 1 (todo' := [.inRegion (opsOf (cd9 [1, 1, 1, 1, 0, 1, 0, 1, 1, 1, 0, 0])) [5, 6, 7, 8], .code (cd9 [1, 1, 1, 1, 0, 1, 0, 1, 1, 1, 0, 1]), .inBlock 0, .code (cd9 [1, 1, 1, 1, 1])]) (us := [(33, .pointer (some ⟨b1, 2, none⟩))]) (by kernel_rfl) ?_
     refine r_load (c := (cd9 [1, 1, 1, 1, 0, 1, 0, 1, 1, 1, 0, 0])) (i := 5) (d := (some 34)) (ty := 9) (t := 9) (x := (.tmp 33)) (p := ⟨b1, 2, none⟩) (v := .string a0.Src) (by kernel_rfl) (by kernel_rfl) (by kernel_rfl) (loads_at 2 (hS20.blk 0 rfl) (by kernel_rfl) (by kernel_rfl)) ?_
     obtain ⟨g46, hp47⟩ := ite_some hp45
     refine r_val (c := (cd9 [1, 1, 1, 1, 0, 1, 0, 1, 1, 1, 0, 0])) (i := 6) (d := (some 35)) (ty := 9) (op := .binOp .add 9 (.tmp 32) (.tmp 34) 9) (v := .string ((((⟨#[77, 79, 86, 32]⟩ : ByteArray) ++ a0.Reg) ++ (⟨#[44]⟩ : ByteArray)) ++ a0.Src)) (by kernel_rfl) (by kernel_rfl) (fun o ho _ => x_concat (by kernel_rfl) (by kernel_rfl) g46 ho) ?_
     refine sx_run 3 (todo' := [.code (cd9 [1, 1, 1, 1, 0, 1, 0, 1, 1, 1, 0, 1]), .inBlock 0, .code (cd9 [1, 1, 1, 1, 1])]) (us := [(2, .string ((((⟨#[77, 79, 86, 32]⟩ : ByteArray) ++ a0.Reg) ++ (⟨#[44]⟩ : ByteArray)) ++ a0.Src)), (3, .int .i64 0)]) (by kernel_rfl) ?_
     have hS48 := hS20.drop
     refine runs_ret (fn := Tryd.f9) (v := .tuple #[.string ((((⟨#[77, 79, 86, 32]⟩ : ByteArray) ++ a0.Reg) ++ (⟨#[44]⟩ : ByteArray)) ++ a0.Src), .int .i64 0]) Tryd.func9 (by kernel_rfl) ?_
     have hr49 := (Option.some.inj hp47)
     cases hr49
     exact hR _ _ ⟨rfl, hS48⟩
    ·skip
     have hp50 := ite_f hp38 h40
     refine sx_split 6 (todo' := [.inRegion (opsOf (cd9 [1, 1, 1, 1, 0, 1, 0, 1, 1, 1, 1, 0])) [1], .code (cd9 [1, 1, 1, 1, 0, 1, 0, 1, 1, 1, 1, 1]), .inBlock 0, .code (cd9 [1, 1, 1, 1, 1])]) (us := [(27, .bool false)]) (d := 37) (t := (a0.Op == 3)) (by kernel_rfl) (fun h51 => ?_) (fun h52 => ?_)
     ·skip
      have hp53 := ite_t hp50 h51
      refine sx_run 6 (todo' := [.inRegion (opsOf (cd9 [1, 1, 1, 1, 0, 1, 0, 1, 1, 1, 1, 1, 0, 0])) [1, 2, 3, 4, 5, 6, 7], .code (cd9 [1, 1, 1, 1, 0, 1, 0, 1, 1, 1, 1, 1, 0, 1]), .inBlock 0, .code (cd9 [1, 1, 1, 1, 1])]) (us := [(36, .bool true), (38, .pointer (some ⟨b1, 1, none⟩))]) (by kernel_rfl) ?_
      refine r_load (c := (cd9 [1, 1, 1, 1, 0, 1, 0, 1, 1, 1, 1, 1, 0, 0])) (i := 1) (d := (some 39)) (ty := 9) (t := 9) (x := (.tmp 38)) (p := ⟨b1, 1, none⟩) (v := .string a0.Reg) (by kernel_rfl) (by kernel_rfl) (by kernel_rfl) (loads_at 1 (hS20.blk 0 rfl) (by kernel_rfl) (by kernel_rfl)) ?_
      obtain ⟨g54, hp55⟩ := ite_some hp53
      refine r_val (c := (cd9 [1, 1, 1, 1, 0, 1, 0, 1, 1, 1, 1, 1, 0, 0])) (i := 2) (d := (some 40)) (ty := 9) (op := .binOp .add 9 (.const (.string (⟨#[77, 79, 86, 32]⟩ : ByteArray))) (.tmp 39) 9) (v := .string ((⟨#[77, 79, 86, 32]⟩ : ByteArray) ++ a0.Reg)) (by kernel_rfl) (by kernel_rfl) (fun o ho _ => x_concat (by kernel_rfl) (by kernel_rfl) g54 ho) ?_
      obtain ⟨g56, hp57⟩ := ite_some hp55
      refine r_val (c := (cd9 [1, 1, 1, 1, 0, 1, 0, 1, 1, 1, 1, 1, 0, 0])) (i := 3) (d := (some 41)) (ty := 9) (op := .binOp .add 9 (.tmp 40) (.const (.string (⟨#[44]⟩ : ByteArray))) 9) (v := .string (((⟨#[77, 79, 86, 32]⟩ : ByteArray) ++ a0.Reg) ++ (⟨#[44]⟩ : ByteArray))) (by kernel_rfl) (by kernel_rfl) (fun o ho _ => x_concat (by kernel_rfl) (by kernel_rfl) g56 ho) ?_
      refine sx_run 1 (todo' := [.inRegion (opsOf (cd9 [1, 1, 1, 1, 0, 1, 0, 1, 1, 1, 1, 1, 0, 0])) [5, 6, 7], .code (cd9 [1, 1, 1, 1, 0, 1, 0, 1, 1, 1, 1, 1, 0, 1]), .inBlock 0, .code (cd9 [1, 1, 1, 1, 1])]) (us := [(42, .string (((⟨#[91]⟩ : ByteArray) ++ a0.Loc) ++ (⟨#[93]⟩ : ByteArray)))]) (by kernel_rfl) ?_
      obtain ⟨g58, hp59⟩ := ite_some hp57
      refine r_val (c := (cd9 [1, 1, 1, 1, 0, 1, 0, 1, 1, 1, 1, 1, 0, 0])) (i := 5) (d := (some 43)) (ty := 9) (op := .binOp .add 9 (.tmp 41) (.tmp 42) 9) (v := .string ((((⟨#[77, 79, 86, 32]⟩ : ByteArray) ++ a0.Reg) ++ (⟨#[44]⟩ : ByteArray)) ++ (((⟨#[91]⟩ : ByteArray) ++ a0.Loc) ++ (⟨#[93]⟩ : ByteArray)))) (by kernel_rfl) (by kernel_rfl) (fun o ho _ => x_concat (by kernel_rfl) (by kernel_rfl) g58 ho) ?_
      refine sx_run 3 (todo' := [.code (cd9 [1, 1, 1, 1, 0, 1, 0, 1, 1, 1, 1, 1, 0, 1]), .inBlock 0, .code (cd9 [1, 1, 1, 1, 1])]) (us := [(2, .string ((((⟨#[77, 79, 86, 32]⟩ : ByteArray) ++ a0.Reg) ++ (⟨#[44]⟩ : ByteArray)) ++ (((⟨#[91]⟩ : ByteArray) ++ a0.Loc) ++ (⟨#[93]⟩ : ByteArray)))), (3, .int .i64 0)]) (by kernel_rfl) ?_
      have hS60 := hS20.drop
      refine runs_ret (fn := Tryd.f9) (v := .tuple #[.string ((((⟨#[77, 79, 86, 32]⟩ : ByteArray) ++ a0.Reg) ++ (⟨#[44]⟩ : ByteArray)) ++ (((⟨#[91]⟩ : ByteArray) ++ a0.Loc) ++ (⟨#[93]⟩ : ByteArray))), .int .i64 0]) Tryd.func9 (by kernel_rfl) ?_
      have hr61 := (Option.some.inj hp59)
      cases hr61
      exact hR _ _ ⟨rfl, hS60⟩
     ·skip
      have hp62 := ite_f hp50 h52
      refine sx_split 6 (todo' := [.inRegion (opsOf (cd9 [1, 1, 1, 1, 0, 1, 0, 1, 1, 1, 1, 1, 1, 0])) [1], .code (cd9 [1, 1, 1, 1, 0, 1, 0, 1, 1, 1, 1, 1, 1, 1]), .inBlock 0, .code (cd9 [1, 1, 1, 1, 1])]) (us := [(36, .bool false)]) (d := 45) (t := (a0.Op == 4)) (by kernel_rfl) (fun h63 => ?_) (fun h64 => ?_)
      ·skip
       have hp65 := ite_t hp62 h63
       refine sx_run 6 (todo' := [.inRegion (opsOf (cd9 [1, 1, 1, 1, 0, 1, 0, 1, 1, 1, 1, 1, 1, 1, 0, 0])) [1, 2, 3, 4, 5, 6], .code (cd9 [1, 1, 1, 1, 0, 1, 0, 1, 1, 1, 1, 1, 1, 1, 0, 1]), .inBlock 0, .code (cd9 [1, 1, 1, 1, 1])]) (us := [(44, .bool true), (46, .string (((⟨#[91]⟩ : ByteArray) ++ a0.Loc) ++ (⟨#[93]⟩ : ByteArray)))]) (by kernel_rfl) ?_
       obtain ⟨g66, hp67⟩ := ite_some hp65
       refine r_val (c := (cd9 [1, 1, 1, 1, 0, 1, 0, 1, 1, 1, 1, 1, 1, 1, 0, 0])) (i := 1) (d := (some 47)) (ty := 9) (op := .binOp .add 9 (.const (.string (⟨#[77, 79, 86, 32]⟩ : ByteArray))) (.tmp 46) 9) (v := .string ((⟨#[77, 79, 86, 32]⟩ : ByteArray) ++ (((⟨#[91]⟩ : ByteArray) ++ a0.Loc) ++ (⟨#[93]⟩ : ByteArray)))) (by kernel_rfl) (by kernel_rfl) (fun o ho _ => x_concat (by kernel_rfl) (by kernel_rfl) g66 ho) ?_
       obtain ⟨g68, hp69⟩ := ite_some hp67
       refine r_val (c := (cd9 [1, 1, 1, 1, 0, 1, 0, 1, 1, 1, 1, 1, 1, 1, 0, 0])) (i := 2) (d := (some 48)) (ty := 9) (op := .binOp .add 9 (.tmp 47) (.const (.string (⟨#[44]⟩ : ByteArray))) 9) (v := .string (((⟨#[77, 79, 86, 32]⟩ : ByteArray) ++ (((⟨#[91]⟩ : ByteArray) ++ a0.Loc) ++ (⟨#[93]⟩ : ByteArray))) ++ (⟨#[44]⟩ : ByteArray))) (by kernel_rfl) (by kernel_rfl) (fun o ho _ => x_concat (by kernel_rfl) (by kernel_rfl) g68 ho) ?_
       refine sx_run 1 (todo' := [.inRegion (opsOf (cd9 [1, 1, 1, 1, 0, 1, 0, 1, 1, 1, 1, 1, 1, 1, 0, 0])) [4, 5, 6], .code (cd9 [1, 1, 1, 1, 0, 1, 0, 1, 1, 1, 1, 1, 1, 1, 0, 1]), .inBlock 0, .code (cd9 [1, 1, 1, 1, 1])]) (us := [(49, .string ((⟨#[36]⟩ : ByteArray) ++ t16))]) (by kernel_rfl) ?_
       obtain ⟨g70, hp71⟩ := ite_some hp69
       refine r_val (c := (cd9 [1, 1, 1, 1, 0, 1, 0, 1, 1, 1, 1, 1, 1, 1, 0, 0])) (i := 4) (d := (some 50)) (ty := 9) (op := .binOp .add 9 (.tmp 48) (.tmp 49) 9) (v := .string ((((⟨#[77, 79, 86, 32]⟩ : ByteArray) ++ (((⟨#[91]⟩ : ByteArray) ++ a0.Loc) ++ (⟨#[93]⟩ : ByteArray))) ++ (⟨#[44]⟩ : ByteArray)) ++ ((⟨#[36]⟩ : ByteArray) ++ t16))) (by kernel_rfl) (by kernel_rfl) (fun o ho _ => x_concat (by kernel_rfl) (by kernel_rfl) g70 ho) ?_
       refine sx_run 3 (todo' := [.code (cd9 [1, 1, 1, 1, 0, 1, 0, 1, 1, 1, 1, 1, 1, 1, 0, 1]), .inBlock 0, .code (cd9 [1, 1, 1, 1, 1])]) (us := [(2, .string ((((⟨#[77, 79, 86, 32]⟩ : ByteArray) ++ (((⟨#[91]⟩ : ByteArray) ++ a0.Loc) ++ (⟨#[93]⟩ : ByteArray))) ++ (⟨#[44]⟩ : ByteArray)) ++ ((⟨#[36]⟩ : ByteArray) ++ t16))), (3, .int .i64 0)]) (by kernel_rfl) ?_
       have hS72 := hS20.drop
       refine runs_ret (fn := Tryd.f9) (v := .tuple #[.string ((((⟨#[77, 79, 86, 32]⟩ : ByteArray) ++ (((⟨#[91]⟩ : ByteArray) ++ a0.Loc) ++ (⟨#[93]⟩ : ByteArray))) ++ (⟨#[44]⟩ : ByteArray)) ++ ((⟨#[36]⟩ : ByteArray) ++ t16)), .int .i64 0]) Tryd.func9 (by kernel_rfl) ?_
       have hr73 := (Option.some.inj hp71)
       cases hr73
       exact hR _ _ ⟨rfl, hS72⟩
      ·skip
       have hp74 := ite_f hp62 h64
       refine sx_split 6 (todo' := [.inRegion (opsOf (cd9 [1, 1, 1, 1, 0, 1, 0, 1, 1, 1, 1, 1, 1, 1, 1, 0])) [1], .code (cd9 [1, 1, 1, 1, 0, 1, 0, 1, 1, 1, 1, 1, 1, 1, 1, 1]), .inBlock 0, .code (cd9 [1, 1, 1, 1, 1])]) (us := [(44, .bool false)]) (d := 52) (t := (a0.Op == 5)) (by kernel_rfl) (fun h75 => ?_) (fun h76 => ?_)
       ·skip
        have hp77 := ite_t hp74 h75
        refine sx_run 6 (todo' := [.inRegion (opsOf (cd9 [1, 1, 1, 1, 0, 1, 0, 1, 1, 1, 1, 1, 1, 1, 1, 1, 0, 0])) [1, 2, 3, 4, 5, 6, 7], .code (cd9 [1, 1, 1, 1, 0, 1, 0, 1, 1, 1, 1, 1, 1, 1, 1, 1, 0, 1]), .inBlock 0, .code (cd9 [1, 1, 1, 1, 1])]) (us := [(51, .bool true), (53, .string (((⟨#[91]⟩ : ByteArray) ++ a0.Loc) ++ (⟨#[93]⟩ : ByteArray)))]) (by kernel_rfl) ?_
        obtain ⟨g78, hp79⟩ := ite_some hp77
        refine r_val (c := (cd9 [1, 1, 1, 1, 0, 1, 0, 1, 1, 1, 1, 1, 1, 1, 1, 1, 0, 0])) (i := 1) (d := (some 54)) (ty := 9) (op := .binOp .add 9 (.const (.string (⟨#[77, 79, 86, 32]⟩ : ByteArray))) (.tmp 53) 9) (v := .string ((⟨#[77, 79, 86, 32]⟩ : ByteArray) ++ (((⟨#[91]⟩ : ByteArray) ++ a0.Loc) ++ (⟨#[93]⟩ : ByteArray)))) (by kernel_rfl) (by kernel_rfl) (fun o ho _ => x_concat (by kernel_rfl) (by kernel_rfl) g78 ho) ?_
        obtain ⟨g80, hp81⟩ := ite_some hp79
        refine r_val (c := (cd9 [1, 1, 1, 1, 0, 1, 0, 1, 1, 1, 1, 1, 1, 1, 1, 1, 0, 0])) (i := 2) (d := (some 55)) (ty := 9) (op := .binOp .add 9 (.tmp 54) (.const (.string (⟨#[44]⟩ : ByteArray))) 9) (v := .string (((⟨#[77, 79, 86, 32]⟩ : ByteArray) ++ (((⟨#[91]⟩ : ByteArray) ++ a0.Loc) ++ (⟨#[93]⟩ : ByteArray))) ++ (⟨#[44]⟩ : ByteArray))) (by kernel_rfl) (by kernel_rfl) (fun o ho _ => x_concat (by kernel_rfl) (by kernel_rfl) g80 ho) ?_
        refine sx_run 1 (todo' := [.inRegion (opsOf (cd9 [1, 1, 1, 1, 0, 1, 0, 1, 1, 1, 1, 1, 1, 1, 1, 1, 0, 0])) [4, 5, 6, 7], .code (cd9 [1, 1, 1, 1, 0, 1, 0, 1, 1, 1, 1, 1, 1, 1, 1, 1, 0, 1]), .inBlock 0, .code (cd9 [1, 1, 1, 1, 1])]) (us := [(56, .pointer (some ⟨b1, 2, none⟩))]) (by kernel_rfl) ?_
        refine r_load (c := (cd9 [1, 1, 1, 1, 0, 1, 0, 1, 1, 1, 1, 1, 1, 1, 1, 1, 0, 0])) (i := 4) (d := (some 57)) (ty := 9) (t := 9) (x := (.tmp 56)) (p := ⟨b1, 2, none⟩) (v := .string a0.Src) (by kernel_rfl) (by kernel_rfl) (by kernel_rfl) (loads_at 2 (hS20.blk 0 rfl) (by kernel_rfl) (by kernel_rfl)) ?_
        obtain ⟨g82, hp83⟩ := ite_some hp81
        refine r_val (c := (cd9 [1, 1, 1, 1, 0, 1, 0, 1, 1, 1, 1, 1, 1, 1, 1, 1, 0, 0])) (i := 5) (d := (some 58)) (ty := 9) (op := .binOp .add 9 (.tmp 55) (.tmp 57) 9) (v := .string ((((⟨#[77, 79, 86, 32]⟩ : ByteArray) ++ (((⟨#[91]⟩ : ByteArray) ++ a0.Loc) ++ (⟨#[93]⟩ : ByteArray))) ++ (⟨#[44]⟩ : ByteArray)) ++ a0.Src)) (by kernel_rfl) (by kernel_rfl) (fun o ho _ => x_concat (by kernel_rfl) (by kernel_rfl) g82 ho) ?_
        refine sx_run 3 (todo' := [.code (cd9 [1, 1, 1, 1, 0, 1, 0, 1, 1, 1, 1, 1, 1, 1, 1, 1, 0, 1]), .inBlock 0, .code (cd9 [1, 1, 1, 1, 1])]) (us := [(2, .string ((((⟨#[77, 79, 86, 32]⟩ : ByteArray) ++ (((⟨#[91]⟩ : ByteArray) ++ a0.Loc) ++ (⟨#[93]⟩ : ByteArray))) ++ (⟨#[44]⟩ : ByteArray)) ++ a0.Src)), (3, .int .i64 0)]) (by kernel_rfl) ?_
        have hS84 := hS20.drop
        refine runs_ret (fn := Tryd.f9) (v := .tuple #[.string ((((⟨#[77, 79, 86, 32]⟩ : ByteArray) ++ (((⟨#[91]⟩ : ByteArray) ++ a0.Loc) ++ (⟨#[93]⟩ : ByteArray))) ++ (⟨#[44]⟩ : ByteArray)) ++ a0.Src), .int .i64 0]) Tryd.func9 (by kernel_rfl) ?_
        have hr85 := (Option.some.inj hp83)
        cases hr85
        exact hR _ _ ⟨rfl, hS84⟩
       ·skip
        have hp86 := ite_f hp74 h76
        refine sx_split 6 (todo' := [.inRegion (opsOf (cd9 [1, 1, 1, 1, 0, 1, 0, 1, 1, 1, 1, 1, 1, 1, 1, 1, 1, 0])) [1], .code (cd9 [1, 1, 1, 1, 0, 1, 0, 1, 1, 1, 1, 1, 1, 1, 1, 1, 1, 1]), .inBlock 0, .code (cd9 [1, 1, 1, 1, 1])]) (us := [(51, .bool false)]) (d := 60) (t := (a0.Op == 7)) (by kernel_rfl) (fun h87 => ?_) (fun h88 => ?_)
        ·skip
         have hp89 := ite_t hp86 h87
         refine sx_run 6 (todo' := [.inRegion (opsOf (cd9 [1, 1, 1, 1, 0, 1, 0, 1, 1, 1, 1, 1, 1, 1, 1, 1, 1, 1, 0, 0])) [1, 2, 3, 4, 5, 6, 7], .code (cd9 [1, 1, 1, 1, 0, 1, 0, 1, 1, 1, 1, 1, 1, 1, 1, 1, 1, 1, 0, 1]), .inBlock 0, .code (cd9 [1, 1, 1, 1, 1])]) (us := [(59, .bool true), (61, .string (((⟨#[91]⟩ : ByteArray) ++ a0.Loc) ++ (⟨#[93]⟩ : ByteArray)))]) (by kernel_rfl) ?_
         obtain ⟨g90, hp91⟩ := ite_some hp89
         refine r_val (c := (cd9 [1, 1, 1, 1, 0, 1, 0, 1, 1, 1, 1, 1, 1, 1, 1, 1, 1, 1, 0, 0])) (i := 1) (d := (some 62)) (ty := 9) (op := .binOp .add 9 (.const (.string (⟨#[88, 67, 72, 71, 32]⟩ : ByteArray))) (.tmp 61) 9) (v := .string ((⟨#[88, 67, 72, 71, 32]⟩ : ByteArray) ++ (((⟨#[91]⟩ : ByteArray) ++ a0.Loc) ++ (⟨#[93]⟩ : ByteArray)))) (by kernel_rfl) (by kernel_rfl) (fun o ho _ => x_concat (by kernel_rfl) (by kernel_rfl) g90 ho) ?_
         obtain ⟨g92, hp93⟩ := ite_some hp91
         refine r_val (c := (cd9 [1, 1, 1, 1, 0, 1, 0, 1, 1, 1, 1, 1, 1, 1, 1, 1, 1, 1, 0, 0])) (i := 2) (d := (some 63)) (ty := 9) (op := .binOp .add 9 (.tmp 62) (.const (.string (⟨#[44]⟩ : ByteArray))) 9) (v := .string (((⟨#[88, 67, 72, 71, 32]⟩ : ByteArray) ++ (((⟨#[91]⟩ : ByteArray) ++ a0.Loc) ++ (⟨#[93]⟩ : ByteArray))) ++ (⟨#[44]⟩ : ByteArray))) (by kernel_rfl) (by kernel_rfl) (fun o ho _ => x_concat (by kernel_rfl) (by kernel_rfl) g92 ho) ?_
         refine sx_run 1 (todo' := [.inRegion (opsOf (cd9 [1, 1, 1, 1, 0, 1, 0, 1, 1, 1, 1, 1, 1, 1, 1, 1, 1, 1, 0, 0])) [4, 5, 6, 7], .code (cd9 [1, 1, 1, 1, 0, 1, 0, 1, 1, 1, 1, 1, 1, 1, 1, 1, 1, 1, 0, 1]), .inBlock 0, .code (cd9 [1, 1, 1, 1, 1])]) (us := [(64, .pointer (some ⟨b1, 1, none⟩))]) (by kernel_rfl) ?_
         refine r_load (c := (cd9 [1, 1, 1, 1, 0, 1, 0, 1, 1, 1, 1, 1, 1, 1, 1, 1, 1, 1, 0, 0])) (i := 4) (d := (some 65)) (ty := 9) (t := 9) (x := (.tmp 64)) (p := ⟨b1, 1, none⟩) (v := .string a0.Reg) (by kernel_rfl) (by kernel_rfl) (by kernel_rfl) (loads_at 1 (hS20.blk 0 rfl) (by kernel_rfl) (by kernel_rfl)) ?_
         obtain ⟨g94, hp95⟩ := ite_some hp93
         refine r_val (c := (cd9 [1, 1, 1, 1, 0, 1, 0, 1, 1, 1, 1, 1, 1, 1, 1, 1, 1, 1, 0, 0])) (i := 5) (d := (some 66)) (ty := 9) (op := .binOp .add 9 (.tmp 63) (.tmp 65) 9) (v := .string ((((⟨#[88, 67, 72, 71, 32]⟩ : ByteArray) ++ (((⟨#[91]⟩ : ByteArray) ++ a0.Loc) ++ (⟨#[93]⟩ : ByteArray))) ++ (⟨#[44]⟩ : ByteArray)) ++ a0.Reg)) (by kernel_rfl) (by kernel_rfl) (fun o ho _ => x_concat (by kernel_rfl) (by kernel_rfl) g94 ho) ?_
         refine sx_run 3 (todo' := [.code (cd9 [1, 1, 1, 1, 0, 1, 0, 1, 1, 1, 1, 1, 1, 1, 1, 1, 1, 1, 0, 1]), .inBlock 0, .code (cd9 [1, 1, 1, 1, 1])]) (us := [(2, .string ((((⟨#[88, 67, 72, 71, 32]⟩ : ByteArray) ++ (((⟨#[91]⟩ : ByteArray) ++ a0.Loc) ++ (⟨#[93]⟩ : ByteArray))) ++ (⟨#[44]⟩ : ByteArray)) ++ a0.Reg)), (3, .int .i64 0)]) (by kernel_rfl) ?_
         have hS96 := hS20.drop
         refine runs_ret (fn := Tryd.f9) (v := .tuple #[.string ((((⟨#[88, 67, 72, 71, 32]⟩ : ByteArray) ++ (((⟨#[91]⟩ : ByteArray) ++ a0.Loc) ++ (⟨#[93]⟩ : ByteArray))) ++ (⟨#[44]⟩ : ByteArray)) ++ a0.Reg), .int .i64 0]) Tryd.func9 (by kernel_rfl) ?_
         have hr97 := (Option.some.inj hp95)
         cases hr97
         exact hR _ _ ⟨rfl, hS96⟩
        ·skip
         have hp98 := ite_f hp86 h88
         refine sx_split 6 (todo' := [.inRegion (opsOf (cd9 [1, 1, 1, 1, 0, 1, 0, 1, 1, 1, 1, 1, 1, 1, 1, 1, 1, 1, 1, 0])) [1], .code (cd9 [1, 1, 1, 1, 0, 1, 0, 1, 1, 1, 1, 1, 1, 1, 1, 1, 1, 1, 1, 1]), .inBlock 0, .code (cd9 [1, 1, 1, 1, 1])]) (us := [(59, .bool false)]) (d := 68) (t := (a0.Op == 8)) (by kernel_rfl) (fun h99 => ?_) (fun h100 => ?_)
         ·skip
          have hp101 := ite_t hp98 h99
          refine sx_run 6 (todo' := [.inRegion (opsOf (cd9 [1, 1, 1, 1, 0, 1, 0, 1, 1, 1, 1, 1, 1, 1, 1, 1, 1, 1, 1, 1, 0, 0])) [1, 2, 3, 4, 5, 6, 7], .code (cd9 [1, 1, 1, 1, 0, 1, 0, 1, 1, 1, 1, 1, 1, 1, 1, 1, 1, 1, 1, 1, 0, 1]), .inBlock 0, .code (cd9 [1, 1, 1, 1, 1])]) (us := [(67, .bool true), (69, .string (((⟨#[91]⟩ : ByteArray) ++ a0.Loc) ++ (⟨#[93]⟩ : ByteArray)))]) (by kernel_rfl) ?_
          obtain ⟨g102, hp103⟩ := ite_some hp101
          refine r_val (c := (cd9 [1, 1, 1, 1, 0, 1, 0, 1, 1, 1, 1, 1, 1, 1, 1, 1, 1, 1, 1, 1, 0, 0])) (i := 1) (d := (some 70)) (ty := 9) (op := .binOp .add 9 (.const (.string (⟨#[76, 79, 67, 75, 32, 67, 77, 80, 88, 67, 72, 71, 32]⟩ : ByteArray))) (.tmp 69) 9) (v := .string ((⟨#[76, 79, 67, 75, 32, 67, 77, 80, 88, 67, 72, 71, 32]⟩ : ByteArray) ++ (((⟨#[91]⟩ : ByteArray) ++ a0.Loc) ++ (⟨#[93]⟩ : ByteArray)))) (by kernel_rfl) (by kernel_rfl) (fun o ho _ => x_concat (by kernel_rfl) (by kernel_rfl) g102 ho) ?_
          obtain ⟨g104, hp105⟩ := ite_some hp103
          refine r_val (c := (cd9 [1, 1, 1, 1, 0, 1, 0, 1, 1, 1, 1, 1, 1, 1, 1, 1, 1, 1, 1, 1, 0, 0])) (i := 2) (d := (some 71)) (ty := 9) (op := .binOp .add 9 (.tmp 70) (.const (.string (⟨#[44]⟩ : ByteArray))) 9) (v := .string (((⟨#[76, 79, 67, 75, 32, 67, 77, 80, 88, 67, 72, 71, 32]⟩ : ByteArray) ++ (((⟨#[91]⟩ : ByteArray) ++ a0.Loc) ++ (⟨#[93]⟩ : ByteArray))) ++ (⟨#[44]⟩ : ByteArray))) (by kernel_rfl) (by kernel_rfl) (fun o ho _ => x_concat (by kernel_rfl) (by kernel_rfl) g104 ho) ?_
          refine sx_run 1 (todo' := [.inRegion (opsOf (cd9 [1, 1, 1, 1, 0, 1, 0, 1, 1, 1, 1, 1, 1, 1, 1, 1, 1, 1, 1, 1, 0, 0])) [4, 5, 6, 7], .code (cd9 [1, 1, 1, 1, 0, 1, 0, 1, 1, 1, 1, 1, 1, 1, 1, 1, 1, 1, 1, 1, 0, 1]), .inBlock 0, .code (cd9 [1, 1, 1, 1, 1])]) (us := [(72, .pointer (some ⟨b1, 2, none⟩))]) (by kernel_rfl) ?_
          refine r_load (c := (cd9 [1, 1, 1, 1, 0, 1, 0, 1, 1, 1, 1, 1, 1, 1, 1, 1, 1, 1, 1, 1, 0, 0])) (i := 4) (d := (some 73)) (ty := 9) (t := 9) (x := (.tmp 72)) (p := ⟨b1, 2, none⟩) (v := .string a0.Src) (by kernel_rfl) (by kernel_rfl) (by kernel_rfl) (loads_at 2 (hS20.blk 0 rfl) (by kernel_rfl) (by kernel_rfl)) ?_
          obtain ⟨g106, hp107⟩ := ite_some hp105
          refine r_val (c := (cd9 [1, 1, 1, 1, 0, 1, 0, 1, 1, 1, 1, 1, 1, 1, 1, 1, 1, 1, 1, 1, 0, 0])) (i := 5) (d := (some 74)) (ty := 9) (op := .binOp .add 9 (.tmp 71) (.tmp 73) 9) (v := .string ((((⟨#[76, 79, 67, 75, 32, 67, 77, 80, 88, 67, 72, 71, 32]⟩ : ByteArray) ++ (((⟨#[91]⟩ : ByteArray) ++ a0.Loc) ++ (⟨#[93]⟩ : ByteArray))) ++ (⟨#[44]⟩ : ByteArray)) ++ a0.Src)) (by kernel_rfl) (by kernel_rfl) (fun o ho _ => x_concat (by kernel_rfl) (by kernel_rfl) g106 ho) ?_
          refine sx_run 3 (todo' := [.code (cd9 [1, 1, 1, 1, 0, 1, 0, 1, 1, 1, 1, 1, 1, 1, 1, 1, 1, 1, 1, 1, 0, 1]), .inBlock 0, .code (cd9 [1, 1, 1, 1, 1])]) (us := [(2, .string ((((⟨#[76, 79, 67, 75, 32, 67, 77, 80, 88, 67, 72, 71, 32]⟩ : ByteArray) ++ (((⟨#[91]⟩ : ByteArray) ++ a0.Loc) ++ (⟨#[93]⟩ : ByteArray))) ++ (⟨#[44]⟩ : ByteArray)) ++ a0.Src)), (3, .int .i64 0)]) (by kernel_rfl) ?_
          have hS108 := hS20.drop
          refine runs_ret (fn := Tryd.f9) (v := .tuple #[.string ((((⟨#[76, 79, 67, 75, 32, 67, 77, 80, 88, 67, 72, 71, 32]⟩ : ByteArray) ++ (((⟨#[91]⟩ : ByteArray) ++ a0.Loc) ++ (⟨#[93]⟩ : ByteArray))) ++ (⟨#[44]⟩ : ByteArray)) ++ a0.Src), .int .i64 0]) Tryd.func9 (by kernel_rfl) ?_
          have hr109 := (Option.some.inj hp107)
          cases hr109
          exact hR _ _ ⟨rfl, hS108⟩
         ·skip
          have hp110 := ite_f hp98 h100
          refine sx_split 6 (todo' := [.inRegion (opsOf (cd9 [1, 1, 1, 1, 0, 1, 0, 1, 1, 1, 1, 1, 1, 1, 1, 1, 1, 1, 1, 1, 1, 0])) [1], .code (cd9 [1, 1, 1, 1, 0, 1, 0, 1, 1, 1, 1, 1, 1, 1, 1, 1, 1, 1, 1, 1, 1, 1]), .inBlock 0, .code (cd9 [1, 1, 1, 1, 1])]) (us := [(67, .bool false)]) (d := 76) (t := (a0.Op == 9)) (by kernel_rfl) (fun h111 => ?_) (fun h112 => ?_)
          ·skip
           have hp113 := ite_t hp110 h111
           refine sx_run 6 (todo' := [.inRegion (opsOf (cd9 [1, 1, 1, 1, 0, 1, 0, 1, 1, 1, 1, 1, 1, 1, 1, 1, 1, 1, 1, 1, 1, 1, 0, 0])) [1, 2, 3, 4, 5, 6, 7], .code (cd9 [1, 1, 1, 1, 0, 1, 0, 1, 1, 1, 1, 1, 1, 1, 1, 1, 1, 1, 1, 1, 1, 1, 0, 1]), .inBlock 0, .code (cd9 [1, 1, 1, 1, 1])]) (us := [(75, .bool true), (77, .string (((⟨#[91]⟩ : ByteArray) ++ a0.Loc) ++ (⟨#[93]⟩ : ByteArray)))]) (by kernel_rfl) ?_
           obtain ⟨g114, hp115⟩ := ite_some hp113
           refine r_val (c := (cd9 [1, 1, 1, 1, 0, 1, 0, 1, 1, 1, 1, 1, 1, 1, 1, 1, 1, 1, 1, 1, 1, 1, 0, 0])) (i := 1) (d := (some 78)) (ty := 9) (op := .binOp .add 9 (.const (.string (⟨#[76, 79, 67, 75, 32, 88, 65, 68, 68, 32]⟩ : ByteArray))) (.tmp 77) 9) (v := .string ((⟨#[76, 79, 67, 75, 32, 88, 65, 68, 68, 32]⟩ : ByteArray) ++ (((⟨#[91]⟩ : ByteArray) ++ a0.Loc) ++ (⟨#[93]⟩ : ByteArray)))) (by kernel_rfl) (by kernel_rfl) (fun o ho _ => x_concat (by kernel_rfl) (by kernel_rfl) g114 ho) ?_
           obtain ⟨g116, hp117⟩ := ite_some hp115
           refine r_val (c := (cd9 [1, 1, 1, 1, 0, 1, 0, 1, 1, 1, 1, 1, 1, 1, 1, 1, 1, 1, 1, 1, 1, 1, 0, 0])) (i := 2) (d := (some 79)) (ty := 9) (op := .binOp .add 9 (.tmp 78) (.const (.string (⟨#[44]⟩ : ByteArray))) 9) (v := .string (((⟨#[76, 79, 67, 75, 32, 88, 65, 68, 68, 32]⟩ : ByteArray) ++ (((⟨#[91]⟩ : ByteArray) ++ a0.Loc) ++ (⟨#[93]⟩ : ByteArray))) ++ (⟨#[44]⟩ : ByteArray))) (by kernel_rfl) (by kernel_rfl) (fun o ho _ => x_concat (by kernel_rfl) (by kernel_rfl) g116 ho) ?_
           refine sx_run 1 (todo' := [.inRegion (opsOf (cd9 [1, 1, 1, 1, 0, 1, 0, 1, 1, 1, 1, 1, 1, 1, 1, 1, 1, 1, 1, 1, 1, 1, 0, 0])) [4, 5, 6, 7], .code (cd9 [1, 1, 1, 1, 0, 1, 0, 1, 1, 1, 1, 1, 1, 1, 1, 1, 1, 1, 1, 1, 1, 1, 0, 1]), .inBlock 0, .code (cd9 [1, 1, 1, 1, 1])]) (us := [(80, .pointer (some ⟨b1, 1, none⟩))]) (by kernel_rfl) ?_
           refine r_load (c := (cd9 [1, 1, 1, 1, 0, 1, 0, 1, 1, 1, 1, 1, 1, 1, 1, 1, 1, 1, 1, 1, 1, 1, 0, 0])) (i := 4) (d := (some 81)) (ty := 9) (t := 9) (x := (.tmp 80)) (p := ⟨b1, 1, none⟩) (v := .string a0.Reg) (by kernel_rfl) (by kernel_rfl) (by kernel_rfl) (loads_at 1 (hS20.blk 0 rfl) (by kernel_rfl) (by kernel_rfl)) ?_
           obtain ⟨g118, hp119⟩ := ite_some hp117
           refine r_val (c := (cd9 [1, 1, 1, 1, 0, 1, 0, 1, 1, 1, 1, 1, 1, 1, 1, 1, 1, 1, 1, 1, 1, 1, 0, 0])) (i := 5) (d := (some 82)) (ty := 9) (op := .binOp .add 9 (.tmp 79) (.tmp 81) 9) (v := .string ((((⟨#[76, 79, 67, 75, 32, 88, 65, 68, 68, 32]⟩ : ByteArray) ++ (((⟨#[91]⟩ : ByteArray) ++ a0.Loc) ++ (⟨#[93]⟩ : ByteArray))) ++ (⟨#[44]⟩ : ByteArray)) ++ a0.Reg)) (by kernel_rfl) (by kernel_rfl) (fun o ho _ => x_concat (by kernel_rfl) (by kernel_rfl) g118 ho) ?_
           refine sx_run 3 (todo' := [.code (cd9 [1, 1, 1, 1, 0, 1, 0, 1, 1, 1, 1, 1, 1, 1, 1, 1, 1, 1, 1, 1, 1, 1, 0, 1]), .inBlock 0, .code (cd9 [1, 1, 1, 1, 1])]) (us := [(2, .string ((((⟨#[76, 79, 67, 75, 32, 88, 65, 68, 68, 32]⟩ : ByteArray) ++ (((⟨#[91]⟩ : ByteArray) ++ a0.Loc) ++ (⟨#[93]⟩ : ByteArray))) ++ (⟨#[44]⟩ : ByteArray)) ++ a0.Reg)), (3, .int .i64 0)]) (by kernel_rfl) ?_
           have hS120 := hS20.drop
           refine runs_ret (fn := Tryd.f9) (v := .tuple #[.string ((((⟨#[76, 79, 67, 75, 32, 88, 65, 68, 68, 32]⟩ : ByteArray) ++ (((⟨#[91]⟩ : ByteArray) ++ a0.Loc) ++ (⟨#[93]⟩ : ByteArray))) ++ (⟨#[44]⟩ : ByteArray)) ++ a0.Reg), .int .i64 0]) Tryd.func9 (by kernel_rfl) ?_
           have hr121 := (Option.some.inj hp119)
           cases hr121
           exact hR _ _ ⟨rfl, hS120⟩
          ·skip
           have hp122 := ite_f hp110 h112
           refine sx_run 10 (todo' := [.code (cd9 [1, 1, 1, 1, 1, 1])]) (us := [(75, .bool false), (2, .string (⟨#[77, 70, 69, 78, 67, 69]⟩ : ByteArray)), (3, .int .i64 0)]) (by kernel_rfl) ?_
           have hS123 := hS20.drop
           refine runs_ret (fn := Tryd.f9) (v := .tuple #[.string (⟨#[77, 70, 69, 78, 67, 69]⟩ : ByteArray), .int .i64 0]) Tryd.func9 (by kernel_rfl) ?_
           have hr124 := (Option.some.inj hp122)
           cases hr124
           exact hR _ _ ⟨rfl, hS123⟩

noncomputable def cd10 (p : List Nat) : Code := sub (bodyOf Tryd.f10) p
def weirlaw08_num.f (a0 : Int) : Option Int :=
  some (a0)
set_option maxHeartbeats 16000000 in
theorem weirlaw08_num.ok (a0 : Int) {w0 : World} {Z : Zm} {fs : List XObj} {w : World} (hS0 : St w0 Z (fs) w) {q0 : Int} (hp0 : weirlaw08_num.f a0 = some q0) :
    Calls Tryd.prog 10 #[.int .i64 a0] w (fun e w' => e = .returned (.int .i64 q0) ∧ St w0 Z (fs) w') := by
  refine calls_abs ?_; intro R hR
  unfold weirlaw08_num.f at hp0
  refine calls_of_runs (fn := Tryd.f10) (c := cd10 []) Tryd.func10 (by kernel_rfl) (al := [.int .i64 a0]) rfl (n := 3) rfl ?_
  refine sx_run 9 (todo' := [.code (cd10 [1, 1])]) (us := [(2, .int .i64 0), (3, .int .i64 a0), (2, .int .i64 a0)]) (by kernel_rfl) ?_
  refine runs_ret (fn := Tryd.f10) (v := .int .i64 a0) Tryd.func10 (by kernel_rfl) ?_
  have hr1 := (Option.some.inj hp0)
  cases hr1
  exact hR _ _ ⟨rfl, hS0⟩

noncomputable def cd3 (p : List Nat) : Code := sub (bodyOf Tryd.f3) p
def weirlaw08_PrintParts.f (a0 : api_Ref) (a1 : api_Init) (a2 : api_Instr) : Option Bool :=
  (print_Ref.f a0 >>= (fun (t13, t14) => (weirref08_Ref.f a0 >>= (fun (t19, t20) => (print_Init.f a1 >>= (fun (t25, t26) => (weirref08_Init.f a1 >>= (fun (t31, t32) => (print_Instr.f a2 >>= (fun (t37, t38) => (weirref08_Instr.f a2 >>= (fun (t43, t44) => (if (seq t13 t19) = true then (weirlaw08_num.f t14 >>= (fun t52 => (if (t52 == t20) = true then (if (seq t25 t31) = true then (weirlaw08_num.f t26 >>= (fun t63 => (if (t63 == t32) = true then (if (seq t37 t43) = true then (weirlaw08_num.f t38 >>= (fun t74 => (if (t74 == t44) = true then some (true) else some (false)))) else some (false)) else some (false)))) else some (false)) else some (false)))) else some (false))))))))))))))
set_option maxHeartbeats 16000000 in
theorem weirlaw08_PrintParts.ok (a0 : api_Ref) (a1 : api_Init) (a2 : api_Instr) {w0 : World} {Z : Zm} {fs : List XObj} {w : World} (hS0 : St w0 Z (fs) w) (hE : Env Z) {q0 : Bool} (hp0 : weirlaw08_PrintParts.f a0 a1 a2 = some q0) :
    Calls Tryd.prog 3 #[.agg (enc_api_Ref a0).toArray, .agg (enc_api_Init a1).toArray, .agg (enc_api_Instr a2).toArray] w (fun e w' => e = .returned (.bool q0) ∧ St w0 Z (fs) w') := by
  refine calls_abs ?_; intro R hR
  unfold weirlaw08_PrintParts.f at hp0
  refine calls_of_runs (fn := Tryd.f3) (c := cd3 []) Tryd.func3 (by kernel_rfl) (al := [.agg (enc_api_Ref a0).toArray, .agg (enc_api_Init a1).toArray, .agg (enc_api_Instr a2).toArray]) rfl (n := 77) rfl ?_
  refine sx_run 2 (todo' := [.inRegion (opsOf (cd3 [0])) [0, 1, 2, 3], .code (cd3 [1])]) (us := []) (by kernel_rfl) ?_
  refine r_box (c := (cd3 [0])) (i := 0) (d := (some 3)) (ty := 0) (x := (.tmp 0)) (v := .agg (enc_api_Ref a0).toArray) (t := 23) (cs := enc_api_Ref a0) hS0 (by kernel_rfl) (by kernel_rfl) (by kernel_rfl) (by kernel_rfl) ?_
  intro b1 w2 hS3
  refine r_box (c := (cd3 [0])) (i := 1) (d := (some 4)) (ty := 0) (x := (.tmp 1)) (v := .agg (enc_api_Init a1).toArray) (t := 25) (cs := enc_api_Init a1) hS3 (by kernel_rfl) (by kernel_rfl) (by kernel_rfl) (by kernel_rfl) ?_
  intro b5 w6 hS7
  refine r_box (c := (cd3 [0])) (i := 2) (d := (some 5)) (ty := 0) (x := (.tmp 2)) (v := .agg (enc_api_Instr a2).toArray) (t := 27) (cs := enc_api_Instr a2) hS7 (by kernel_rfl) (by kernel_rfl) (by kernel_rfl) (by kernel_rfl) ?_
  intro b9 w10 hS11
  refine sx_run 4 (todo' := [.inRegion (opsOf (cd3 [1, 0])) [0, 1, 2, 3, 4, 5, 6], .code (cd3 [1, 1])]) (us := [(6, .bool false)]) (by kernel_rfl) ?_
  refine r_load (c := (cd3 [1, 0])) (i := 0) (d := (some 20)) (ty := 23) (t := 23) (x := (.tmp 3)) (p := ⟨b1, 0, none⟩) (v := .agg (enc_api_Ref a0).toArray) (by kernel_rfl) (by kernel_rfl) (by kernel_rfl) (loads_agg (hS11.blk 2 rfl) (by kernel_rfl) (by kernel_rfl)) ?_
  obtain ⟨⟨t13, t14⟩, hr15, hp16⟩ := bind_some' hp0
  try dsimp only at hp16
  refine r_call1 (c := (cd3 [1, 0])) (i := 1) (d := (some 21)) (g := 4) (args := #[.agg (enc_api_Ref a0).toArray]) (by kernel_rfl) (by kernel_rfl) (by kernel_rfl) (by kernel_rfl) (print_Ref.ok a0 hS11 hE hr15) ?_
  rintro _ w17 ⟨rfl, hS18⟩
  refine ⟨.tuple #[.string t13, .int .i64 t14], rfl, ?_⟩
  refine sx_run 8 (todo' := [.inRegion (opsOf (cd3 [1, 1, 0])) [0, 1, 2, 3, 4, 5, 6], .code (cd3 [1, 1, 1])]) (us := [(19, .tuple #[.string t13, .int .i64 t14]), (22, .string t13), (23, .int .i64 t14), (7, .string t13), (8, .int .i64 t14)]) (by kernel_rfl) ?_
  refine r_load (c := (cd3 [1, 1, 0])) (i := 0) (d := (some 25)) (ty := 23) (t := 23) (x := (.tmp 3)) (p := ⟨b1, 0, none⟩) (v := .agg (enc_api_Ref a0).toArray) (by kernel_rfl) (by kernel_rfl) (by kernel_rfl) (loads_agg (hS18.blk 2 rfl) (by kernel_rfl) (by kernel_rfl)) ?_
  obtain ⟨⟨t19, t20⟩, hr21, hp22⟩ := bind_some' hp16
  try dsimp only at hp22
  refine r_call1 (c := (cd3 [1, 1, 0])) (i := 1) (d := (some 26)) (g := 5) (args := #[.agg (enc_api_Ref a0).toArray]) (by kernel_rfl) (by kernel_rfl) (by kernel_rfl) (by kernel_rfl) (weirref08_Ref.ok a0 hS18 hr21) ?_
  rintro _ w23 ⟨rfl, hS24⟩
  refine ⟨.tuple #[.string t19, .int .i64 t20], rfl, ?_⟩
  refine sx_run 8 (todo' := [.inRegion (opsOf (cd3 [1, 1, 1, 0])) [0, 1, 2, 3, 4, 5, 6], .code (cd3 [1, 1, 1, 1])]) (us := [(24, .tuple #[.string t19, .int .i64 t20]), (27, .string t19), (28, .int .i64 t20), (9, .string t19), (10, .int .i64 t20)]) (by kernel_rfl) ?_
  refine r_load (c := (cd3 [1, 1, 1, 0])) (i := 0) (d := (some 30)) (ty := 25) (t := 25) (x := (.tmp 4)) (p := ⟨b5, 0, none⟩) (v := .agg (enc_api_Init a1).toArray) (by kernel_rfl) (by kernel_rfl) (by kernel_rfl) (loads_agg (hS24.blk 1 rfl) (by kernel_rfl) (by kernel_rfl)) ?_
  obtain ⟨⟨t25, t26⟩, hr27, hp28⟩ := bind_some' hp22
  try dsimp only at hp28
  refine r_call1 (c := (cd3 [1, 1, 1, 0])) (i := 1) (d := (some 31)) (g := 6) (args := #[.agg (enc_api_Init a1).toArray]) (by kernel_rfl) (by kernel_rfl) (by kernel_rfl) (by kernel_rfl) (print_Init.ok a1 hS24 hE hr27) ?_
  rintro _ w29 ⟨rfl, hS30⟩
  refine ⟨.tuple #[.string t25, .int .i64 t26], rfl, ?_⟩
  refine sx_run 8 (todo' := [.inRegion (opsOf (cd3 [1, 1, 1, 1, 0])) [0, 1, 2, 3, 4, 5, 6], .code (cd3 [1, 1, 1, 1, 1])]) (us := [(29, .tuple #[.string t25, .int .i64 t26]), (32, .string t25), (33, .int .i64 t26), (11, .string t25), (12, .int .i64 t26)]) (by kernel_rfl) ?_
  refine r_load (c := (cd3 [1, 1, 1, 1, 0])) (i := 0) (d := (some 35)) (ty := 25) (t := 25) (x := (.tmp 4)) (p := ⟨b5, 0, none⟩) (v := .agg (enc_api_Init a1).toArray) (by kernel_rfl) (by kernel_rfl) (by kernel_rfl) (loads_agg (hS30.blk 1 rfl) (by kernel_rfl) (by kernel_rfl)) ?_
  obtain ⟨⟨t31, t32⟩, hr33, hp34⟩ := bind_some' hp28
  try dsimp only at hp34
  refine r_call1 (c := (cd3 [1, 1, 1, 1, 0])) (i := 1) (d := (some 36)) (g := 7) (args := #[.agg (enc_api_Init a1).toArray]) (by kernel_rfl) (by kernel_rfl) (by kernel_rfl) (by kernel_rfl) (weirref08_Init.ok a1 hS30 hr33) ?_
  rintro _ w35 ⟨rfl, hS36⟩
  refine ⟨.tuple #[.string t31, .int .i64 t32], rfl, ?_⟩
  refine sx_run 8 (todo' := [.inRegion (opsOf (cd3 [1, 1, 1, 1, 1, 0])) [0, 1, 2, 3, 4, 5, 6], .code (cd3 [1, 1, 1, 1, 1, 1])]) (us := [(34, .tuple #[.string t31, .int .i64 t32]), (37, .string t31), (38, .int .i64 t32), (13, .string t31), (14, .int .i64 t32)]) (by kernel_rfl) ?_
  refine r_load (c := (cd3 [1, 1, 1, 1, 1, 0])) (i := 0) (d := (some 40)) (ty := 27) (t := 27) (x := (.tmp 5)) (p := ⟨b9, 0, none⟩) (v := .agg (enc_api_Instr a2).toArray) (by kernel_rfl) (by kernel_rfl) (by kernel_rfl) (loads_agg (hS36.blk 0 rfl) (by kernel_rfl) (by kernel_rfl)) ?_
  obtain ⟨⟨t37, t38⟩, hr39, hp40⟩ := bind_some' hp34
  try dsimp only at hp40
  refine r_call1 (c := (cd3 [1, 1, 1, 1, 1, 0])) (i := 1) (d := (some 41)) (g := 8) (args := #[.agg (enc_api_Instr a2).toArray]) (by kernel_rfl) (by kernel_rfl) (by kernel_rfl) (by kernel_rfl) (print_Instr.ok a2 hS36 hE hr39) ?_
  rintro _ w41 ⟨rfl, hS42⟩
  refine ⟨.tuple #[.string t37, .int .i64 t38], rfl, ?_⟩
  refine sx_run 8 (todo' := [.inRegion (opsOf (cd3 [1, 1, 1, 1, 1, 1, 0])) [0, 1, 2, 3, 4, 5, 6], .code (cd3 [1, 1, 1, 1, 1, 1, 1])]) (us := [(39, .tuple #[.string t37, .int .i64 t38]), (42, .string t37), (43, .int .i64 t38), (15, .string t37), (16, .int .i64 t38)]) (by kernel_rfl) ?_
  refine r_load (c := (cd3 [1, 1, 1, 1, 1, 1, 0])) (i := 0) (d := (some 45)) (ty := 27) (t := 27) (x := (.tmp 5)) (p := ⟨b9, 0, none⟩) (v := .agg (enc_api_Instr a2).toArray) (by kernel_rfl) (by kernel_rfl) (by kernel_rfl) (loads_agg (hS42.blk 0 rfl) (by kernel_rfl) (by kernel_rfl)) ?_
  obtain ⟨⟨t43, t44⟩, hr45, hp46⟩ := bind_some' hp40
  try dsimp only at hp46
  refine r_call1 (c := (cd3 [1, 1, 1, 1, 1, 1, 0])) (i := 1) (d := (some 46)) (g := 9) (args := #[.agg (enc_api_Instr a2).toArray]) (by kernel_rfl) (by kernel_rfl) (by kernel_rfl) (by kernel_rfl) (weirref08_Instr.ok a2 hS42 hr45) ?_
  rintro _ w47 ⟨rfl, hS48⟩
  refine ⟨.tuple #[.string t43, .int .i64 t44], rfl, ?_⟩
  refine sx_split 11 (todo' := [.inRegion (opsOf (cd3 [1, 1, 1, 1, 1, 1, 1, 0])) [3, 4, 5, 6, 7, 8, 9, 10, 11, 12, 13, 14, 15, 16, 17, 18, 19, 20, 21, 22, 23, 24, 25, 26, 27, 28, 29, 30, 31], .code (cd3 [1, 1, 1, 1, 1, 1, 1, 1])]) (us := [(44, .tuple #[.string t43, .int .i64 t44]), (47, .string t43), (48, .int .i64 t44), (17, .string t43), (18, .int .i64 t44), (49, .string t13), (50, .string t19)]) (d := 51) (t := (seq t13 t19)) (by kernel_rfl) (fun h49 => ?_) (fun h50 => ?_)
  ·skip
   have hp51 := ite_t hp46 h49
   refine sx_run 2 (todo' := [.inRegion (opsOf (cd3 [1, 1, 1, 1, 1, 1, 1, 0])) [5, 6, 7, 8, 9, 10, 11, 12, 13, 14, 15, 16, 17, 18, 19, 20, 21, 22, 23, 24, 25, 26, 27, 28, 29, 30, 31], .code (cd3 [1, 1, 1, 1, 1, 1, 1, 1])]) (us := [(52, .bool true), (53, .int .i64 t14)]) (by kernel_rfl) ?_
   obtain ⟨t52, hr53, hp54⟩ := bind_some' hp51
   refine r_call1 (c := (cd3 [1, 1, 1, 1, 1, 1, 1, 0])) (i := 5) (d := (some 54)) (g := 10) (args := #[.int .i64 t14]) (by kernel_rfl) (by kernel_rfl) (by kernel_rfl) (by kernel_rfl) (weirlaw08_num.ok t14 hS48 hr53) ?_
   rintro _ w55 ⟨rfl, hS56⟩
   refine ⟨.int .i64 t52, rfl, ?_⟩
   refine sx_split 2 (todo' := [.inRegion (opsOf (cd3 [1, 1, 1, 1, 1, 1, 1, 0])) [8, 9, 10, 11, 12, 13, 14, 15, 16, 17, 18, 19, 20, 21, 22, 23, 24, 25, 26, 27, 28, 29, 30, 31], .code (cd3 [1, 1, 1, 1, 1, 1, 1, 1])]) (us := [(55, .int .i64 t20)]) (d := 56) (t := (t52 == t20)) (by kernel_rfl) (fun h57 => ?_) (fun h58 => ?_)
   ·skip
    have hp59 := ite_t hp54 h57
    refine sx_split 5 (todo' := [.inRegion (opsOf (cd3 [1, 1, 1, 1, 1, 1, 1, 0])) [13, 14, 15, 16, 17, 18, 19, 20, 21, 22, 23, 24, 25, 26, 27, 28, 29, 30, 31], .code (cd3 [1, 1, 1, 1, 1, 1, 1, 1])]) (us := [(57, .bool true), (58, .bool true), (59, .string t25), (60, .string t31)]) (d := 61) (t := (seq t25 t31)) (by kernel_rfl) (fun h60 => ?_) (fun h61 => ?_)
    ·skip
     have hp62 := ite_t hp59 h60
     refine sx_run 3 (todo' := [.inRegion (opsOf (cd3 [1, 1, 1, 1, 1, 1, 1, 0])) [16, 17, 18, 19, 20, 21, 22, 23, 24, 25, 26, 27, 28, 29, 30, 31], .code (cd3 [1, 1, 1, 1, 1, 1, 1, 1])]) (us := [(62, .bool true), (63, .bool true), (64, .int .i64 t26)]) (by kernel_rfl) ?_
     obtain ⟨t63, hr64, hp65⟩ := bind_some' hp62
     refine r_call1 (c := (cd3 [1, 1, 1, 1, 1, 1, 1, 0])) (i := 16) (d := (some 65)) (g := 10) (args := #[.int .i64 t26]) (by kernel_rfl) (by kernel_rfl) (by kernel_rfl) (by kernel_rfl) (weirlaw08_num.ok t26 hS56 hr64) ?_
     rintro _ w66 ⟨rfl, hS67⟩
     refine ⟨.int .i64 t63, rfl, ?_⟩
     refine sx_split 2 (todo' := [.inRegion (opsOf (cd3 [1, 1, 1, 1, 1, 1, 1, 0])) [19, 20, 21, 22, 23, 24, 25, 26, 27, 28, 29, 30, 31], .code (cd3 [1, 1, 1, 1, 1, 1, 1, 1])]) (us := [(66, .int .i64 t32)]) (d := 67) (t := (t63 == t32)) (by kernel_rfl) (fun h68 => ?_) (fun h69 => ?_)
     ·skip
      have hp70 := ite_t hp65 h68
      refine sx_split 5 (todo' := [.inRegion (opsOf (cd3 [1, 1, 1, 1, 1, 1, 1, 0])) [24, 25, 26, 27, 28, 29, 30, 31], .code (cd3 [1, 1, 1, 1, 1, 1, 1, 1])]) (us := [(68, .bool true), (69, .bool true), (70, .string t37), (71, .string t43)]) (d := 72) (t := (seq t37 t43)) (by kernel_rfl) (fun h71 => ?_) (fun h72 => ?_)
      ·skip
       have hp73 := ite_t hp70 h71
       refine sx_run 3 (todo' := [.inRegion (opsOf (cd3 [1, 1, 1, 1, 1, 1, 1, 0])) [27, 28, 29, 30, 31], .code (cd3 [1, 1, 1, 1, 1, 1, 1, 1])]) (us := [(73, .bool true), (74, .bool true), (75, .int .i64 t38)]) (by kernel_rfl) ?_
       obtain ⟨t74, hr75, hp76⟩ := bind_some' hp73
       refine r_call1 (c := (cd3 [1, 1, 1, 1, 1, 1, 1, 0])) (i := 27) (d := (some 76)) (g := 10) (args := #[.int .i64 t38]) (by kernel_rfl) (by kernel_rfl) (by kernel_rfl) (by kernel_rfl) (weirlaw08_num.ok t38 hS67 hr75) ?_
       rintro _ w77 ⟨rfl, hS78⟩
       refine ⟨.int .i64 t74, rfl, ?_⟩
       refine sx_split 2 (todo' := [.inRegion (opsOf (cd3 [1, 1, 1, 1, 1, 1, 1, 0])) [30, 31], .code (cd3 [1, 1, 1, 1, 1, 1, 1, 1])]) (us := [(77, .int .i64 t44)]) (d := 78) (t := (t74 == t44)) (by kernel_rfl) (fun h79 => ?_) (fun h80 => ?_)
       ·skip
        have hp81 := ite_t hp76 h79
        refine sx_run 3 (todo' := [.code (cd3 [1, 1, 1, 1, 1, 1, 1, 1])]) (us := [(79, .bool true), (6, .bool true)]) (by kernel_rfl) ?_
        have hS82 := hS78.drop
        have hS83 := hS82.drop
        have hS84 := hS83.drop
        refine runs_ret (fn := Tryd.f3) (v := .bool true) Tryd.func3 (by kernel_rfl) ?_
        have hr85 := (Option.some.inj hp81)
        cases hr85
        exact hR _ _ ⟨rfl, hS84⟩
       ·skip
        have hp86 := ite_f hp76 h80
        refine sx_run 3 (todo' := [.code (cd3 [1, 1, 1, 1, 1, 1, 1, 1])]) (us := [(79, .bool false), (6, .bool false)]) (by kernel_rfl) ?_
        have hS87 := hS78.drop
        have hS88 := hS87.drop
        have hS89 := hS88.drop
        refine runs_ret (fn := Tryd.f3) (v := .bool false) Tryd.func3 (by kernel_rfl) ?_
        have hr90 := (Option.some.inj hp86)
        cases hr90
        exact hR _ _ ⟨rfl, hS89⟩
      ·skip
       have hp91 := ite_f hp70 h72
       refine sx_run 9 (todo' := [.code (cd3 [1, 1, 1, 1, 1, 1, 1, 1])]) (us := [(73, .bool false), (74, .bool false), (75, undef), (76, undef), (77, undef), (78, undef), (79, .bool false), (6, .bool false)]) (by kernel_rfl) ?_
       have hS92 := hS67.drop
       have hS93 := hS92.drop
       have hS94 := hS93.drop
       refine runs_ret (fn := Tryd.f3) (v := .bool false) Tryd.func3 (by kernel_rfl) ?_
       have hr95 := (Option.some.inj hp91)
       cases hr95
       exact hR _ _ ⟨rfl, hS94⟩
     ·skip
      have hp96 := ite_f hp65 h69
      refine sx_run 14 (todo' := [.code (cd3 [1, 1, 1, 1, 1, 1, 1, 1])]) (us := [(68, .bool false), (69, .bool false), (70, undef), (71, undef), (72, undef), (73, .bool false), (74, .bool false), (75, undef), (76, undef), (77, undef), (78, undef), (79, .bool false), (6, .bool false)]) (by kernel_rfl) ?_
      have hS97 := hS67.drop
      have hS98 := hS97.drop
      have hS99 := hS98.drop
      refine runs_ret (fn := Tryd.f3) (v := .bool false) Tryd.func3 (by kernel_rfl) ?_
      have hr100 := (Option.some.inj hp96)
      cases hr100
      exact hR _ _ ⟨rfl, hS99⟩
    ·skip
     have hp101 := ite_f hp59 h61
     refine sx_run 20 (todo' := [.code (cd3 [1, 1, 1, 1, 1, 1, 1, 1])]) (us := [(62, .bool false), (63, .bool false), (64, undef), (65, undef), (66, undef), (67, undef), (68, .bool false), (69, .bool false), (70, undef), (71, undef), (72, undef), (73, .bool false), (74, .bool false), (75, undef), (76, undef), (77, undef), (78, undef), (79, .bool false), (6, .bool false)]) (by kernel_rfl) ?_
     have hS102 := hS56.drop
     have hS103 := hS102.drop
     have hS104 := hS103.drop
     refine runs_ret (fn := Tryd.f3) (v := .bool false) Tryd.func3 (by kernel_rfl) ?_
     have hr105 := (Option.some.inj hp101)
     cases hr105
     exact hR _ _ ⟨rfl, hS104⟩
   ·skip
    have hp106 := ite_f hp54 h58
    refine sx_run 25 (todo' := [.code (cd3 [1, 1, 1, 1, 1, 1, 1, 1])]) (us := [(57, .bool false), (58, .bool false), (59, undef), (60, undef), (61, undef), (62, .bool false), (63, .bool false), (64, undef), (65, undef), (66, undef), (67, undef), (68, .bool false), (69, .bool false), (70, undef), (71, undef), (72, undef), (73, .bool false), (74, .bool false), (75, undef), (76, undef), (77, undef), (78, undef), (79, .bool false), (6, .bool false)]) (by kernel_rfl) ?_
    have hS107 := hS56.drop
    have hS108 := hS107.drop
    have hS109 := hS108.drop
    refine runs_ret (fn := Tryd.f3) (v := .bool false) Tryd.func3 (by kernel_rfl) ?_
    have hr110 := (Option.some.inj hp106)
    cases hr110
    exact hR _ _ ⟨rfl, hS109⟩
  ·skip
   have hp111 := ite_f hp46 h50
   refine sx_run 30 (todo' := [.code (cd3 [1, 1, 1, 1, 1, 1, 1, 1])]) (us := [(52, .bool false), (53, undef), (54, undef), (55, undef), (56, undef), (57, .bool false), (58, .bool false), (59, undef), (60, undef), (61, undef), (62, .bool false), (63, .bool false), (64, undef), (65, undef), (66, undef), (67, undef), (68, .bool false), (69, .bool false), (70, undef), (71, undef), (72, undef), (73, .bool false), (74, .bool false), (75, undef), (76, undef), (77, undef), (78, undef), (79, .bool false), (6, .bool false)]) (by kernel_rfl) ?_
   have hS112 := hS48.drop
   have hS113 := hS112.drop
   have hS114 := hS113.drop
   refine runs_ret (fn := Tryd.f3) (v := .bool false) Tryd.func3 (by kernel_rfl) ?_
   have hr115 := (Option.some.inj hp111)
   cases hr115
   exact hR _ _ ⟨rfl, hS114⟩

end
end Go.Proofs.YtmgjnplkpmcleaaDoor.K
