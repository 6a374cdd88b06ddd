/- The walk, part 3: each Go function as a plain Lean function, and that its call answers as that function says. No condition. -/
import Derived.Test.YtpmemdhgcelkoaaE
import Derived.Test.YtpmemdhgcelkoaaNM
import Derived.Test.YtpmemdhgcelkoaaF2
set_option linter.unusedVariables false
set_option linter.unusedSimpArgs false
set_option maxRecDepth 100000
namespace Go.Proofs.Ytpmemdhgcelkoaa.K
open Go Go.RowKit
noncomputable section
noncomputable def cd4 (p : List Nat) : Code := sub (bodyOf Try.f4) p
def weirlaw15_ScriptReplays.l1 (t717 : Int) (t718 : List api_Pick) : Option Unit :=
  (if (decide (t717 < (t718.length : Int))) = true then (if 0 ≤ t717 ∧ t717 < (t718.length : Int) then (weirlaw15_ScriptReplays.l1 (IntKind.i64.wrap (t717 + 1)) (setl t718 t717 (⟨(-2), 0, 0⟩ : api_Pick))) else none) else some (()))
 partial_fixpoint
def weirlaw15_ScriptReplays.l0 (t744 : Int) (t745 : List api_Pick) : Option Unit :=
  (if (decide (t744 < (t745.length : Int))) = true then (if 0 ≤ t744 ∧ t744 < (t745.length : Int) then (weirlaw15_ScriptReplays.l0 (IntKind.i64.wrap (t744 + 1)) (setl t745 t744 (⟨(-1), 0, 0⟩ : api_Pick))) else none) else some (()))
 partial_fixpoint
def weirlaw15_ScriptReplays.f (a0 : weirlaw15_Graph) (a1 : List api_Pick) : Option Bool :=
  (weirlaw15_Graph__small.f (⟨a0.To, a0.Ends, a0.Odd, a0.Holes⟩ : weirlaw15_Graph) >>= (fun t5 => (if (!t5) = true then some (true) else (if (decide ((a1.length : Int) > 2000)) = true then some (true) else (weirlaw15_Graph__Machine.f (⟨a0.To, a0.Ends, a0.Odd, a0.Holes⟩ : weirlaw15_Graph) >>= (fun (t22, t23, t24, t25, t26) => (if (([] : List api_Pick).length + a1.length) * 24 ≤ 140737488355328 then (if ((([] : List api_Pick) ++ a1).length + ([(⟨5, 0, 0⟩ : api_Pick)] : List api_Pick).length) * 24 ≤ 140737488355328 then (if 0 ≤ (a1.length : Int) ∧ (a1.length : Int) ≤ (((([] : List api_Pick) ++ a1) ++ ([(⟨5, 0, 0⟩ : api_Pick)] : List api_Pick)).length : Int) then (if (a1.length : Int).toNat ≤ ((([] : List api_Pick) ++ a1) ++ ([(⟨5, 0, 0⟩ : api_Pick)] : List api_Pick)).length then (script_Replay.f t22 t23 (⟨t24.To, t24.Ends, t24.Odd, t24.Holes⟩ : weirlaw15_Graph) t25 t26 (((([] : List api_Pick) ++ a1) ++ ([(⟨5, 0, 0⟩ : api_Pick)] : List api_Pick)).take ((a1.length : Int).toNat)) >>= (fun (t79, t80) => (weirref15_Replay.f t22 t23 (⟨t24.To, t24.Ends, t24.Odd, t24.Holes⟩ : weirlaw15_Graph) t25 t26 a1 >>= (fun (t150, t151) => (if 0 ≤ (a1.length : Int) ∧ (a1.length : Int) ≤ (((([] : List api_Pick) ++ a1) ++ ([(⟨5, 0, 0⟩ : api_Pick)] : List api_Pick)).length : Int) then (if (a1.length : Int).toNat ≤ ((([] : List api_Pick) ++ a1) ++ ([(⟨5, 0, 0⟩ : api_Pick)] : List api_Pick)).length then (script_Outcome.f t22 t23 (⟨t24.To, t24.Ends, t24.Odd, t24.Holes⟩ : weirlaw15_Graph) t25 t26 (((([] : List api_Pick) ++ a1) ++ ([(⟨5, 0, 0⟩ : api_Pick)] : List api_Pick)).take ((a1.length : Int).toNat)) >>= (fun (t176, t177) => (weirref15_Outcome.f t22 t23 (⟨t24.To, t24.Ends, t24.Odd, t24.Holes⟩ : weirlaw15_Graph) t25 t26 a1 >>= (fun (t225, t226) => (if 0 ≤ (a1.length : Int) ∧ (a1.length : Int) ≤ (((([] : List api_Pick) ++ a1) ++ ([(⟨5, 0, 0⟩ : api_Pick)] : List api_Pick)).length : Int) then (if (a1.length : Int).toNat ≤ ((([] : List api_Pick) ++ a1) ++ ([(⟨5, 0, 0⟩ : api_Pick)] : List api_Pick)).length then (script_Taken.f t22 t23 (⟨t24.To, t24.Ends, t24.Odd, t24.Holes⟩ : weirlaw15_Graph) t25 t26 (((([] : List api_Pick) ++ a1) ++ ([(⟨5, 0, 0⟩ : api_Pick)] : List api_Pick)).take ((a1.length : Int).toNat)) >>= (fun t251 => (if 0 ≤ (a1.length : Int) ∧ (a1.length : Int) ≤ (((([] : List api_Pick) ++ a1) ++ ([(⟨5, 0, 0⟩ : api_Pick)] : List api_Pick)).length : Int) then (if (a1.length : Int).toNat ≤ ((([] : List api_Pick) ++ a1) ++ ([(⟨5, 0, 0⟩ : api_Pick)] : List api_Pick)).length then (script_Straight.f t22 t23 (⟨t24.To, t24.Ends, t24.Odd, t24.Holes⟩ : weirlaw15_Graph) t25 t26 (((([] : List api_Pick) ++ a1) ++ ([(⟨5, 0, 0⟩ : api_Pick)] : List api_Pick)).take ((a1.length : Int).toNat)) >>= (fun t343 => (weirlaw15_sameTexts.f t79 t150 >>= (fun t427 => (if (!t427) = true then some (false) else (weirlaw15_sameBools.f t80 t151 >>= (fun t465 => (if (!t465) = true then some (false) else (if (!(decide (t176 = t225))) = true then some (false) else (if (!(t177 == t226)) = true then some (false) else (weirref15_Taken.f t22 t23 (⟨t24.To, t24.Ends, t24.Odd, t24.Holes⟩ : weirlaw15_Graph) t25 t26 a1 >>= (fun t541 => (weirlaw11_SamePicks.f t251 t541 >>= (fun t552 => (if (!t552) = true then some (false) else (weirref15_Straight.f t22 t23 (⟨t24.To, t24.Ends, t24.Odd, t24.Holes⟩ : weirlaw15_Graph) t25 t26 a1 >>= (fun t590 => (weirlaw11_SamePicks.f t343 t590 >>= (fun t601 => (if (!t601) = true then some (false) else (weirlaw15_ScriptReplays.l0 0 t251 >>= (fun _ => (weirlaw15_ScriptReplays.l1 0 t343 >>= (fun _ => (if 0 ≤ (a1.length : Int) ∧ (a1.length : Int) ≤ (((([] : List api_Pick) ++ a1) ++ ([(⟨5, 0, 0⟩ : api_Pick)] : List api_Pick)).length : Int) then (if (a1.length : Int).toNat ≤ ((([] : List api_Pick) ++ a1) ++ ([(⟨5, 0, 0⟩ : api_Pick)] : List api_Pick)).length then (weirlaw11_SamePicks.f (((([] : List api_Pick) ++ a1) ++ ([(⟨5, 0, 0⟩ : api_Pick)] : List api_Pick)).take ((a1.length : Int).toNat)) a1 >>= (fun t688 => (if t688 = true then (if 0 ≤ (a1.length : Int) ∧ (a1.length : Int) < (((([] : List api_Pick) ++ a1) ++ ([(⟨5, 0, 0⟩ : api_Pick)] : List api_Pick)).length : Int) then (if (((gt ((([] : List api_Pick) ++ a1) ++ ([(⟨5, 0, 0⟩ : api_Pick)] : List api_Pick)) (a1.length : Int)).Thread) == 5) = true then some (true) else some (false)) else none) else some (false)))) else none) else none))))))))))))))))))))))))) else none) else none))) else none) else none))))) else none) else none))))) else none) else none) else none) else none)))))))
set_option maxHeartbeats 16000000 in
theorem weirlaw15_ScriptReplays.ok (a0 : weirlaw15_Graph) (a1 : List api_Pick) (Aa0_0 : Option Addr) (ca0_0 : Nat) (Aa1 : Option Addr) (ca1 : Nat) {w0 : World} {Z : Zm} {fs : List XObj} {w : World} (hS0 : St w0 Z (fs) w) (ha0_0 : SlZ (repL (flat (encI .i64)) 1) 1 Z Aa0_0 ca0_0 a0.To) (ha1 : SlZ (flat enc_api_Pick) 3 Z Aa1 ca1 a1) {q0 : Bool} (hp0 : weirlaw15_ScriptReplays.f a0 a1 = some q0) :
    Calls Try.prog 4 #[.agg #[.slice Aa0_0 a0.To.length ca0_0, .int .u64 a0.Ends, .bool a0.Odd, .int .i64 a0.Holes], .slice Aa1 a1.length ca1] w (fun e w' => e = .returned (.bool q0) ∧ St w0 Z (fs) w') := by
  refine calls_abs ?_; intro R hR
  unfold weirlaw15_ScriptReplays.f at hp0
  refine calls_of_runs (fn := Try.f4) (c := cd4 []) Try.func4 (by kernel_rfl) (al := [.agg #[.slice Aa0_0 a0.To.length ca0_0, .int .u64 a0.Ends, .bool a0.Odd, .int .i64 a0.Holes], .slice Aa1 a1.length ca1]) rfl (n := 146) rfl ?_
  refine sx_run 2 (todo' := [.inRegion (opsOf (cd4 [0])) [0, 1], .code (cd4 [1])]) (us := []) (by kernel_rfl) ?_
  refine r_box (c := (cd4 [0])) (i := 0) (d := (some 2)) (ty := 0) (x := (.tmp 0)) (v := .agg #[.slice Aa0_0 a0.To.length ca0_0, .int .u64 a0.Ends, .bool a0.Odd, .int .i64 a0.Holes]) (t := 25) (cs := [.slice Aa0_0 a0.To.length ca0_0, .int .u64 a0.Ends, .bool a0.Odd, .int .i64 a0.Holes]) hS0 (by kernel_rfl) (by kernel_rfl) (by kernel_rfl) (by kernel_rfl) ?_
  intro b1 w2 hS3
  refine sx_run 5 (todo' := [.inRegion (opsOf (cd4 [1, 0, 0])) [0, 1, 2, 3, 4, 5, 6, 7], .code (cd4 [1, 0, 1]), .code (cd4 [1, 1])]) (us := [(4, .bool false)]) (by kernel_rfl) ?_
  refine r_load (c := (cd4 [1, 0, 0])) (i := 0) (d := (some 19)) (ty := 25) (t := 25) (x := (.tmp 2)) (p := ⟨b1, 0, none⟩) (v := .agg #[.slice Aa0_0 a0.To.length ca0_0, .int .u64 a0.Ends, .bool a0.Odd, .int .i64 a0.Holes]) (by kernel_rfl) (by kernel_rfl) (by kernel_rfl) (loads_agg (hS3.blk 0 rfl) (by kernel_rfl) (by kernel_rfl)) ?_
  obtain ⟨t5, hr6, hp7⟩ := bind_some' hp0
  refine r_call1 (c := (cd4 [1, 0, 0])) (i := 1) (d := (some 20)) (g := 5) (args := #[.agg #[.slice Aa0_0 a0.To.length ca0_0, .int .u64 a0.Ends, .bool a0.Odd, .int .i64 a0.Holes]]) (by kernel_rfl) (by kernel_rfl) (by kernel_rfl) (by kernel_rfl) (weirlaw15_Graph__small.ok (⟨a0.To, a0.Ends, a0.Odd, a0.Holes⟩ : weirlaw15_Graph) Aa0_0 ca0_0 hS3 ha0_0 hr6) ?_
  rintro _ w8 ⟨rfl, hS9⟩
  refine ⟨.bool t5, rfl, ?_⟩
  refine sx_split 1 (todo' := [.inRegion (opsOf (cd4 [1, 0, 0])) [3, 4, 5, 6, 7], .code (cd4 [1, 0, 1]), .code (cd4 [1, 1])]) (us := []) (d := 21) (t := (!t5)) (by kernel_rfl) (fun h10 => ?_) (fun h11 => ?_)
  ·skip
   have hp12 := ite_t hp7 h10
   refine sx_run 11 (todo' := [.code (cd4 [1, 0, 1, 0, 1]), .code (cd4 [1, 1])]) (us := [(22, .bool true), (23, undef), (24, undef), (25, undef), (26, .bool true), (4, .bool true)]) (by kernel_rfl) ?_
   have hS13 := hS9.drop
   refine runs_ret (fn := Try.f4) (v := .bool true) Try.func4 (by kernel_rfl) ?_
   have hr14 := (Option.some.inj hp12)
   cases hr14
   exact hR _ _ ⟨rfl, hS13⟩
  ·skip
   have hp15 := ite_f hp7 h11
   refine sx_split 4 (todo' := [.inRegion (opsOf (cd4 [1, 0, 0])) [7], .code (cd4 [1, 0, 1]), .code (cd4 [1, 1])]) (us := [(22, .bool false), (23, .slice Aa1 a1.length ca1), (24, .int .i64 (a1.length : Int))]) (d := 25) (t := (decide ((a1.length : Int) > 2000))) (by kernel_rfl) (fun h16 => ?_) (fun h17 => ?_)
   ·skip
    have hp18 := ite_t hp15 h16
    refine sx_run 7 (todo' := [.code (cd4 [1, 0, 1, 0, 1]), .code (cd4 [1, 1])]) (us := [(26, .bool true), (4, .bool true)]) (by kernel_rfl) ?_
    have hS19 := hS9.drop
    refine runs_ret (fn := Try.f4) (v := .bool true) Try.func4 (by kernel_rfl) ?_
    have hr20 := (Option.some.inj hp18)
    cases hr20
    exact hR _ _ ⟨rfl, hS19⟩
   ·skip
    have hp21 := ite_f hp15 h17
    refine sx_run 6 (todo' := [.inRegion (opsOf (cd4 [1, 1, 0])) [0, 1, 2, 3], .code (cd4 [1, 1, 1])]) (us := [(26, .bool false)]) (by kernel_rfl) ?_
    refine r_load (c := (cd4 [1, 1, 0])) (i := 0) (d := (some 27)) (ty := 25) (t := 25) (x := (.tmp 2)) (p := ⟨b1, 0, none⟩) (v := .agg #[.slice Aa0_0 a0.To.length ca0_0, .int .u64 a0.Ends, .bool a0.Odd, .int .i64 a0.Holes]) (by kernel_rfl) (by kernel_rfl) (by kernel_rfl) (loads_agg (hS9.blk 0 rfl) (by kernel_rfl) (by kernel_rfl)) ?_
    obtain ⟨⟨t22, t23, t24, t25, t26⟩, hr31, hp32⟩ := bind_some' hp21
    try dsimp only at hp32
    refine r_call1 (c := (cd4 [1, 1, 0])) (i := 1) (d := (some 28)) (g := 6) (args := #[.agg #[.slice Aa0_0 a0.To.length ca0_0, .int .u64 a0.Ends, .bool a0.Odd, .int .i64 a0.Holes]]) (by kernel_rfl) (by kernel_rfl) (by kernel_rfl) (by kernel_rfl) (weirlaw15_Graph__Machine.ok (⟨a0.To, a0.Ends, a0.Odd, a0.Holes⟩ : weirlaw15_Graph) Aa0_0 ca0_0 hS9 ha0_0 hr31) ?_
    rintro _ w36 ⟨Q27, Q28, Q29, Q30, rfl, hS37, hs38⟩
    refine ⟨.agg #[.string t22, cond t23 (.func (.func 21) #[] #[.pointer (some ⟨Q27, 0, none⟩), .pointer (some ⟨Q28, 0, none⟩)]) .nilFunc, cond t25 (.func (.func 22) #[] #[.pointer (some ⟨Q27, 0, none⟩), .pointer (some ⟨Q28, 0, none⟩)]) .nilFunc, cond t26 (.func (.func 23) #[] #[.pointer (some ⟨Q27, 0, none⟩), .pointer (some ⟨Q28, 0, none⟩)]) .nilFunc], rfl, ?_⟩
    refine r_alloc (c := (cd4 [1, 1, 0])) (i := 2) (d := (some 5)) (ty := 0) (z := .agg #[.string (⟨#[]⟩ : ByteArray), .nilFunc, .nilFunc, .nilFunc]) (t := 31) (cs := [.string (⟨#[]⟩ : ByteArray), .nilFunc, .nilFunc, .nilFunc]) hS37 (by kernel_rfl) (by kernel_rfl) (by kernel_rfl) (by kernel_rfl) ?_
    intro b39 w40 hS41
    refine r_store (c := (cd4 [1, 1, 0])) (i := 3) (d := none) (ty := 0) (t := 31) (x := (.tmp 5)) (y := (.tmp 28)) (b := b39) (o := 0) (e := 31) (cs := [.string (⟨#[]⟩ : ByteArray), .nilFunc, .nilFunc, .nilFunc]) (v := .agg #[.string t22, cond t23 (.func (.func 21) #[] #[.pointer (some ⟨Q27, 0, none⟩), .pointer (some ⟨Q28, 0, none⟩)]) .nilFunc, cond t25 (.func (.func 22) #[] #[.pointer (some ⟨Q27, 0, none⟩), .pointer (some ⟨Q28, 0, none⟩)]) .nilFunc, cond t26 (.func (.func 23) #[] #[.pointer (some ⟨Q27, 0, none⟩), .pointer (some ⟨Q28, 0, none⟩)]) .nilFunc]) (vs := [.string t22, cond t23 (.func (.func 21) #[] #[.pointer (some ⟨Q27, 0, none⟩), .pointer (some ⟨Q28, 0, none⟩)]) .nilFunc, cond t25 (.func (.func 22) #[] #[.pointer (some ⟨Q27, 0, none⟩), .pointer (some ⟨Q28, 0, none⟩)]) .nilFunc, cond t26 (.func (.func 23) #[] #[.pointer (some ⟨Q27, 0, none⟩), .pointer (some ⟨Q28, 0, none⟩)]) .nilFunc]) (cs' := [.string t22, cond t23 (.func (.func 21) #[] #[.pointer (some ⟨Q27, 0, none⟩), .pointer (some ⟨Q28, 0, none⟩)]) .nilFunc, cond t25 (.func (.func 22) #[] #[.pointer (some ⟨Q27, 0, none⟩), .pointer (some ⟨Q28, 0, none⟩)]) .nilFunc, cond t26 (.func (.func 23) #[] #[.pointer (some ⟨Q27, 0, none⟩), .pointer (some ⟨Q28, 0, none⟩)]) .nilFunc]) hS41 (by kernel_rfl) (by kernel_rfl) (by kernel_rfl) (by kernel_rfl) (by kernel_rfl) (by kernel_rfl) (by cases t23 <;> cases t25 <;> cases t26 <;> rfl) (Nat.le_of_ble_eq_true (by kernel_rfl)) (by kernel_rfl) ?_
    intro w43 hS44
    refine sx_run 3 (todo' := [.inRegion (opsOf (cd4 [1, 1, 1, 0])) [0, 1, 2, 3, 4, 5, 6], .code (cd4 [1, 1, 1, 1])]) (us := []) (by kernel_rfl) ?_
    refine r_lit0 (c := (cd4 [1, 1, 1, 0])) (i := 0) (d := (some 29)) (ty := 33) (t := 33) (e := 39) (sz := 3) hS44 (by kernel_rfl) (by kernel_rfl) (by kernel_rfl) (by kernel_rfl) ?_
    intro b46 w47 hS48
    refine sx_run 1 (todo' := [.inRegion (opsOf (cd4 [1, 1, 1, 0])) [2, 3, 4, 5, 6], .code (cd4 [1, 1, 1, 1])]) (us := [(30, .slice Aa1 a1.length ca1)]) (by kernel_rfl) ?_
    obtain ⟨g49, hp50⟩ := ite_some hp32
    refine r_append (c := (cd4 [1, 1, 1, 0])) (i := 2) (d := (some 31)) (ty := 33) (enc := enc_api_Pick) (e := 39) (u := 39) (t := 33) (t2 := 33) (sz := 3) (cp := 0) (A := (some ⟨b46, 0, none⟩)) (bytes := 24) (xs := ([] : List api_Pick)) (ys := a1) (s := (.tmp 29)) (x := (.tmp 30)) (xv := .slice Aa1 a1.length ca1) (info := infoOf Try.prog 39) (z := zeroOf Try.prog 39) (ycs := a1.flatMap enc_api_Pick) hS48 (by kernel_rfl) (by kernel_rfl) (by kernel_rfl) (by kernel_rfl) (by kernel_rfl) (.inl (by kernel_rfl)) (by kernel_rfl) (by kernel_rfl) (by kernel_rfl) (by kernel_rfl) (by kernel_rfl) (by omega) len_api_Pick one_api_Pick (src_slz hS48 ha1 (by omega) len_api_Pick) rfl g49 (by omega) ?_
    intro A51 c52 w53 hS54
    refine sx_run 1 (todo' := [.inRegion (opsOf (cd4 [1, 1, 1, 0])) [4, 5, 6], .code (cd4 [1, 1, 1, 1])]) (us := [(32, .agg (enc_api_Pick (⟨5, 0, 0⟩ : api_Pick)).toArray)]) (by kernel_rfl) ?_
    refine r_lit (c := (cd4 [1, 1, 1, 0])) (i := 4) (d := (some 33)) (ty := 33) (t := 33) (e := 39) (sz := 3) (n := 1) (parts := #[(0, (.tmp 32))]) (vs := [(0, .agg (enc_api_Pick (⟨5, 0, 0⟩ : api_Pick)).toArray)]) (z := zeroOf Try.prog 39) (cs' := ([(⟨5, 0, 0⟩ : api_Pick)] : List api_Pick).flatMap enc_api_Pick) hS54 (by kernel_rfl) (by kernel_rfl) (by kernel_rfl) (by kernel_rfl) (by kernel_rfl) (by decide) (by decide) (by kernel_rfl) rfl (Parts.cons (c := enc_api_Pick (⟨5, 0, 0⟩ : api_Pick)) (by kernel_rfl) (len_api_Pick _) Parts.nil) rfl ?_
    intro b57 w58 hS59
    have hS60 := hS59.pick1
    obtain ⟨g61, hp62⟩ := ite_some hp50
    refine r_append (c := (cd4 [1, 1, 1, 0])) (i := 5) (d := (some 34)) (ty := 33) (enc := enc_api_Pick) (e := 39) (u := 39) (t := 33) (t2 := 33) (sz := 3) (cp := c52) (A := A51) (bytes := 24) (xs := (([] : List api_Pick) ++ a1)) (ys := ([(⟨5, 0, 0⟩ : api_Pick)] : List api_Pick)) (s := (.tmp 31)) (x := (.tmp 33)) (xv := .slice (some ⟨b57, 0, none⟩) ([(⟨5, 0, 0⟩ : api_Pick)] : List api_Pick).length 1) (info := infoOf Try.prog 39) (z := zeroOf Try.prog 39) (ycs := ([(⟨5, 0, 0⟩ : api_Pick)] : List api_Pick).flatMap enc_api_Pick) hS60 (by kernel_rfl) (by kernel_rfl) (by kernel_rfl) (by kernel_rfl) (by kernel_rfl) (.inl (by kernel_rfl)) (by kernel_rfl) (by kernel_rfl) (by kernel_rfl) (by kernel_rfl) (by kernel_rfl) (by omega) len_api_Pick one_api_Pick (src_row (hS60.row 1 rfl) (by omega) len_api_Pick) rfl g61 (by omega) ?_
    intro A63 c64 w65 hS66
    refine sx_run 3 (todo' := [.code (cd4 [1, 1, 1, 1, 0]), .code (cd4 [1, 1, 1, 1, 1])]) (us := [(6, .slice A63 ((([] : List api_Pick) ++ a1) ++ ([(⟨5, 0, 0⟩ : api_Pick)] : List api_Pick)).length c64)]) (by kernel_rfl) ?_
    obtain ⟨g68, hp69⟩ := ite_some hp62
    have hc75 := (hS66.row 0 rfl).cap len_api_Pick (by omega)
    have g76 : 0 ≤ (a1.length : Int) ∧ (a1.length : Int) ≤ (c64 : Int) := by omega
    obtain ⟨g77, hp78⟩ := ite_some hp69
    obtain ⟨⟨t79, t80⟩, hr81, hp82⟩ := bind_some' hp78
    try dsimp only at hp82
    refine r_drawnP (S := Option (Option Addr × Nat × Option Addr × Nat)) (dn := (fun (st : Option (Option Addr × Nat × Option Addr × Nat)) k => [st.isSome].getD k true)) (C := (fun st w' => match st with | none => St w0 Z (xrow A63 c64 39 3 (((([] : List api_Pick) ++ a1) ++ ([(⟨5, 0, 0⟩ : api_Pick)] : List api_Pick)).flatMap enc_api_Pick) :: xrow (some ⟨b57, 0, none⟩) 1 39 3 (([(⟨5, 0, 0⟩ : api_Pick)] : List api_Pick).flatMap enc_api_Pick) :: xblk b39 31 ([.string t22, cond t23 (.func (.func 21) #[] #[.pointer (some ⟨Q27, 0, none⟩), .pointer (some ⟨Q28, 0, none⟩)]) .nilFunc, cond t25 (.func (.func 22) #[] #[.pointer (some ⟨Q27, 0, none⟩), .pointer (some ⟨Q28, 0, none⟩)]) .nilFunc, cond t26 (.func (.func 23) #[] #[.pointer (some ⟨Q27, 0, none⟩), .pointer (some ⟨Q28, 0, none⟩)]) .nilFunc]) :: xblk Q27 53 ([.func (.func 20) #[] #[.pointer (some ⟨Q28, 0, none⟩)]]) :: xblk Q28 25 ([.slice Q29 t24.To.length Q30, .int .u64 t24.Ends, .bool t24.Odd, .int .i64 t24.Holes]) :: xblk b1 25 ([.slice Aa0_0 a0.To.length ca0_0, .int .u64 a0.Ends, .bool a0.Odd, .int .i64 a0.Holes]) :: fs) w' | some x83 => St w0 Z (xrow x83.1 x83.2.1 9 1 (t79.flatMap encS) :: xrow x83.2.2.1 x83.2.2.2 4 1 (t80.flatMap encB) :: xrow A63 c64 39 3 (((([] : List api_Pick) ++ a1) ++ ([(⟨5, 0, 0⟩ : api_Pick)] : List api_Pick)).flatMap enc_api_Pick) :: xrow (some ⟨b57, 0, none⟩) 1 39 3 (([(⟨5, 0, 0⟩ : api_Pick)] : List api_Pick).flatMap enc_api_Pick) :: xblk b39 31 ([.string t22, cond t23 (.func (.func 21) #[] #[.pointer (some ⟨Q27, 0, none⟩), .pointer (some ⟨Q28, 0, none⟩)]) .nilFunc, cond t25 (.func (.func 22) #[] #[.pointer (some ⟨Q27, 0, none⟩), .pointer (some ⟨Q28, 0, none⟩)]) .nilFunc, cond t26 (.func (.func 23) #[] #[.pointer (some ⟨Q27, 0, none⟩), .pointer (some ⟨Q28, 0, none⟩)]) .nilFunc]) :: xblk Q27 53 ([.func (.func 20) #[] #[.pointer (some ⟨Q28, 0, none⟩)]]) :: xblk Q28 25 ([.slice Q29 t24.To.length Q30, .int .u64 t24.Ends, .bool t24.Odd, .int .i64 t24.Holes]) :: xblk b1 25 ([.slice Aa0_0 a0.To.length ca0_0, .int .u64 a0.Ends, .bool a0.Odd, .int .i64 a0.Holes]) :: fs) w')) (v := (fun st => match st with | none => [.agg #[.string t22, cond t23 (.func (.func 21) #[] #[.pointer (some ⟨Q27, 0, none⟩), .pointer (some ⟨Q28, 0, none⟩)]) .nilFunc, cond t25 (.func (.func 22) #[] #[.pointer (some ⟨Q27, 0, none⟩), .pointer (some ⟨Q28, 0, none⟩)]) .nilFunc, cond t26 (.func (.func 23) #[] #[.pointer (some ⟨Q27, 0, none⟩), .pointer (some ⟨Q28, 0, none⟩)]) .nilFunc], .slice A63 ((([] : List api_Pick) ++ a1) ++ ([(⟨5, 0, 0⟩ : api_Pick)] : List api_Pick)).length c64, .slice Aa1 a1.length ca1, .int .i64 (a1.length : Int), .slice A63 ((a1.length : Int).toNat) c64, undef, undef, undef, undef, undef, undef] | some x83 => [.agg #[.string t22, cond t23 (.func (.func 21) #[] #[.pointer (some ⟨Q27, 0, none⟩), .pointer (some ⟨Q28, 0, none⟩)]) .nilFunc, cond t25 (.func (.func 22) #[] #[.pointer (some ⟨Q27, 0, none⟩), .pointer (some ⟨Q28, 0, none⟩)]) .nilFunc, cond t26 (.func (.func 23) #[] #[.pointer (some ⟨Q27, 0, none⟩), .pointer (some ⟨Q28, 0, none⟩)]) .nilFunc], .slice A63 ((([] : List api_Pick) ++ a1) ++ ([(⟨5, 0, 0⟩ : api_Pick)] : List api_Pick)).length c64, .slice Aa1 a1.length ca1, .int .i64 (a1.length : Int), .slice A63 ((a1.length : Int).toNat) c64, .tuple #[.slice x83.1 t79.length x83.2.1, .slice x83.2.2.1 t80.length x83.2.2.2], .tuple #[.slice x83.1 t79.length x83.2.1, .slice x83.2.2.1 t80.length x83.2.2.2], .slice x83.1 t79.length x83.2.1, .slice x83.2.2.1 t80.length x83.2.2.2, .slice x83.1 t79.length x83.2.1, .slice x83.2.2.1 t80.length x83.2.2.2])) (c := (cd4 [1, 1, 1, 1, 0])) (id := 5) none 0 11 [5] [[], [], [], [], [], [], [0], [0], [0], [0], [0]] [[0], [], [], [], [0], [], [], [], [], [], []] [] [true, true, true, true, true, true, true, true, true, true, true] (by kernel_rfl) (by kernel_rfl) (by kernel_rfl) (by kernel_rfl) (by kernel_rfl) (by kernel_rfl) (by kernel_rfl) (by kernel_rfl) (by kernel_rfl) (fun k hk => match k, hk with | 0, _ => rfl | k + 1, hk => absurd hk (by simp)) hS66.drew ?_ (fun k hk => match k, hk with | 0, _ => rfl | k + 1, hk => absurd hk (by simp)) ?_ ?_ ?_
    ·intro i hi st w hC hd
     match i, hi with
     | 0, _ => (show _ = _; kernel_rfl)
     | 1, _ => (show _ = _; kernel_rfl)
     | 2, _ => (show _ = _; kernel_rfl)
     | 3, _ => (show _ = _; kernel_rfl)
     | 4, _ => (show _ = _; kernel_rfl)
     | 5, _ => (show _ = _; kernel_rfl)
     | 6, _ => (show _ = _; kernel_rfl)
     | 7, _ => (show _ = _; kernel_rfl)
     | 8, _ => (show _ = _; kernel_rfl)
     | 9, _ => (show _ = _; kernel_rfl)
     | 10, _ => (show _ = _; kernel_rfl)
     | i + 11, hi => exact absurd hi (by omega)
    ·intro i hi he st w hC hd hu
     match i, hi, he with
     | 0, _, _ =>
      rcases st with _ | x83
      ·replace hC : St w0 Z (xrow A63 c64 39 3 (((([] : List api_Pick) ++ a1) ++ ([(⟨5, 0, 0⟩ : api_Pick)] : List api_Pick)).flatMap enc_api_Pick) :: xrow (some ⟨b57, 0, none⟩) 1 39 3 (([(⟨5, 0, 0⟩ : api_Pick)] : List api_Pick).flatMap enc_api_Pick) :: xblk b39 31 ([.string t22, cond t23 (.func (.func 21) #[] #[.pointer (some ⟨Q27, 0, none⟩), .pointer (some ⟨Q28, 0, none⟩)]) .nilFunc, cond t25 (.func (.func 22) #[] #[.pointer (some ⟨Q27, 0, none⟩), .pointer (some ⟨Q28, 0, none⟩)]) .nilFunc, cond t26 (.func (.func 23) #[] #[.pointer (some ⟨Q27, 0, none⟩), .pointer (some ⟨Q28, 0, none⟩)]) .nilFunc]) :: xblk Q27 53 ([.func (.func 20) #[] #[.pointer (some ⟨Q28, 0, none⟩)]]) :: xblk Q28 25 ([.slice Q29 t24.To.length Q30, .int .u64 t24.Ends, .bool t24.Odd, .int .i64 t24.Holes]) :: xblk b1 25 ([.slice Aa0_0 a0.To.length ca0_0, .int .u64 a0.Ends, .bool a0.Odd, .int .i64 a0.Holes]) :: fs) w := hC
       exact ⟨fun _ => does_run (x_load (t := 31) (x := (.tmp 5)) (p := ⟨b39, 0, none⟩) (v := .agg #[.string t22, cond t23 (.func (.func 21) #[] #[.pointer (some ⟨Q27, 0, none⟩), .pointer (some ⟨Q28, 0, none⟩)]) .nilFunc, cond t25 (.func (.func 22) #[] #[.pointer (some ⟨Q27, 0, none⟩), .pointer (some ⟨Q28, 0, none⟩)]) .nilFunc, cond t26 (.func (.func 23) #[] #[.pointer (some ⟨Q27, 0, none⟩), .pointer (some ⟨Q28, 0, none⟩)]) .nilFunc]) (by kernel_rfl) (loads_agg (hC.blk 2 rfl) (by kernel_rfl) (by kernel_rfl)) (by kernel_rfl)) rfl hC, fun h => absurd h (by decide)⟩
      ·exact Bool.noConfusion (hu 0 (by decide))
     | 1, _, _ =>
      rcases st with _ | x83
      ·replace hC : St w0 Z (xrow A63 c64 39 3 (((([] : List api_Pick) ++ a1) ++ ([(⟨5, 0, 0⟩ : api_Pick)] : List api_Pick)).flatMap enc_api_Pick) :: xrow (some ⟨b57, 0, none⟩) 1 39 3 (([(⟨5, 0, 0⟩ : api_Pick)] : List api_Pick).flatMap enc_api_Pick) :: xblk b39 31 ([.string t22, cond t23 (.func (.func 21) #[] #[.pointer (some ⟨Q27, 0, none⟩), .pointer (some ⟨Q28, 0, none⟩)]) .nilFunc, cond t25 (.func (.func 22) #[] #[.pointer (some ⟨Q27, 0, none⟩), .pointer (some ⟨Q28, 0, none⟩)]) .nilFunc, cond t26 (.func (.func 23) #[] #[.pointer (some ⟨Q27, 0, none⟩), .pointer (some ⟨Q28, 0, none⟩)]) .nilFunc]) :: xblk Q27 53 ([.func (.func 20) #[] #[.pointer (some ⟨Q28, 0, none⟩)]]) :: xblk Q28 25 ([.slice Q29 t24.To.length Q30, .int .u64 t24.Ends, .bool t24.Odd, .int .i64 t24.Holes]) :: xblk b1 25 ([.slice Aa0_0 a0.To.length ca0_0, .int .u64 a0.Ends, .bool a0.Odd, .int .i64 a0.Holes]) :: fs) w := hC
       exact ⟨fun _ => does_pure (v := .slice A63 ((([] : List api_Pick) ++ a1) ++ ([(⟨5, 0, 0⟩ : api_Pick)] : List api_Pick)).length c64) (by kernel_rfl) rfl hC, fun h => absurd h (by decide)⟩
      ·replace hC : St w0 Z (xrow x83.1 x83.2.1 9 1 (t79.flatMap encS) :: xrow x83.2.2.1 x83.2.2.2 4 1 (t80.flatMap encB) :: xrow A63 c64 39 3 (((([] : List api_Pick) ++ a1) ++ ([(⟨5, 0, 0⟩ : api_Pick)] : List api_Pick)).flatMap enc_api_Pick) :: xrow (some ⟨b57, 0, none⟩) 1 39 3 (([(⟨5, 0, 0⟩ : api_Pick)] : List api_Pick).flatMap enc_api_Pick) :: xblk b39 31 ([.string t22, cond t23 (.func (.func 21) #[] #[.pointer (some ⟨Q27, 0, none⟩), .pointer (some ⟨Q28, 0, none⟩)]) .nilFunc, cond t25 (.func (.func 22) #[] #[.pointer (some ⟨Q27, 0, none⟩), .pointer (some ⟨Q28, 0, none⟩)]) .nilFunc, cond t26 (.func (.func 23) #[] #[.pointer (some ⟨Q27, 0, none⟩), .pointer (some ⟨Q28, 0, none⟩)]) .nilFunc]) :: xblk Q27 53 ([.func (.func 20) #[] #[.pointer (some ⟨Q28, 0, none⟩)]]) :: xblk Q28 25 ([.slice Q29 t24.To.length Q30, .int .u64 t24.Ends, .bool t24.Odd, .int .i64 t24.Holes]) :: xblk b1 25 ([.slice Aa0_0 a0.To.length ca0_0, .int .u64 a0.Ends, .bool a0.Odd, .int .i64 a0.Holes]) :: fs) w := hC
       exact ⟨fun _ => does_pure (v := .slice A63 ((([] : List api_Pick) ++ a1) ++ ([(⟨5, 0, 0⟩ : api_Pick)] : List api_Pick)).length c64) (by kernel_rfl) rfl hC, fun h => absurd h (by decide)⟩
     | 2, _, _ =>
      rcases st with _ | x83
      ·replace hC : St w0 Z (xrow A63 c64 39 3 (((([] : List api_Pick) ++ a1) ++ ([(⟨5, 0, 0⟩ : api_Pick)] : List api_Pick)).flatMap enc_api_Pick) :: xrow (some ⟨b57, 0, none⟩) 1 39 3 (([(⟨5, 0, 0⟩ : api_Pick)] : List api_Pick).flatMap enc_api_Pick) :: xblk b39 31 ([.string t22, cond t23 (.func (.func 21) #[] #[.pointer (some ⟨Q27, 0, none⟩), .pointer (some ⟨Q28, 0, none⟩)]) .nilFunc, cond t25 (.func (.func 22) #[] #[.pointer (some ⟨Q27, 0, none⟩), .pointer (some ⟨Q28, 0, none⟩)]) .nilFunc, cond t26 (.func (.func 23) #[] #[.pointer (some ⟨Q27, 0, none⟩), .pointer (some ⟨Q28, 0, none⟩)]) .nilFunc]) :: xblk Q27 53 ([.func (.func 20) #[] #[.pointer (some ⟨Q28, 0, none⟩)]]) :: xblk Q28 25 ([.slice Q29 t24.To.length Q30, .int .u64 t24.Ends, .bool t24.Odd, .int .i64 t24.Holes]) :: xblk b1 25 ([.slice Aa0_0 a0.To.length ca0_0, .int .u64 a0.Ends, .bool a0.Odd, .int .i64 a0.Holes]) :: fs) w := hC
       exact ⟨fun _ => does_pure (v := .slice Aa1 a1.length ca1) (by kernel_rfl) rfl hC, fun h => absurd h (by decide)⟩
      ·replace hC : St w0 Z (xrow x83.1 x83.2.1 9 1 (t79.flatMap encS) :: xrow x83.2.2.1 x83.2.2.2 4 1 (t80.flatMap encB) :: xrow A63 c64 39 3 (((([] : List api_Pick) ++ a1) ++ ([(⟨5, 0, 0⟩ : api_Pick)] : List api_Pick)).flatMap enc_api_Pick) :: xrow (some ⟨b57, 0, none⟩) 1 39 3 (([(⟨5, 0, 0⟩ : api_Pick)] : List api_Pick).flatMap enc_api_Pick) :: xblk b39 31 ([.string t22, cond t23 (.func (.func 21) #[] #[.pointer (some ⟨Q27, 0, none⟩), .pointer (some ⟨Q28, 0, none⟩)]) .nilFunc, cond t25 (.func (.func 22) #[] #[.pointer (some ⟨Q27, 0, none⟩), .pointer (some ⟨Q28, 0, none⟩)]) .nilFunc, cond t26 (.func (.func 23) #[] #[.pointer (some ⟨Q27, 0, none⟩), .pointer (some ⟨Q28, 0, none⟩)]) .nilFunc]) :: xblk Q27 53 ([.func (.func 20) #[] #[.pointer (some ⟨Q28, 0, none⟩)]]) :: xblk Q28 25 ([.slice Q29 t24.To.length Q30, .int .u64 t24.Ends, .bool t24.Odd, .int .i64 t24.Holes]) :: xblk b1 25 ([.slice Aa0_0 a0.To.length ca0_0, .int .u64 a0.Ends, .bool a0.Odd, .int .i64 a0.Holes]) :: fs) w := hC
       exact ⟨fun _ => does_pure (v := .slice Aa1 a1.length ca1) (by kernel_rfl) rfl hC, fun h => absurd h (by decide)⟩
     | 3, _, _ =>
      rcases st with _ | x83
      ·replace hC : St w0 Z (xrow A63 c64 39 3 (((([] : List api_Pick) ++ a1) ++ ([(⟨5, 0, 0⟩ : api_Pick)] : List api_Pick)).flatMap enc_api_Pick) :: xrow (some ⟨b57, 0, none⟩) 1 39 3 (([(⟨5, 0, 0⟩ : api_Pick)] : List api_Pick).flatMap enc_api_Pick) :: xblk b39 31 ([.string t22, cond t23 (.func (.func 21) #[] #[.pointer (some ⟨Q27, 0, none⟩), .pointer (some ⟨Q28, 0, none⟩)]) .nilFunc, cond t25 (.func (.func 22) #[] #[.pointer (some ⟨Q27, 0, none⟩), .pointer (some ⟨Q28, 0, none⟩)]) .nilFunc, cond t26 (.func (.func 23) #[] #[.pointer (some ⟨Q27, 0, none⟩), .pointer (some ⟨Q28, 0, none⟩)]) .nilFunc]) :: xblk Q27 53 ([.func (.func 20) #[] #[.pointer (some ⟨Q28, 0, none⟩)]]) :: xblk Q28 25 ([.slice Q29 t24.To.length Q30, .int .u64 t24.Ends, .bool t24.Odd, .int .i64 t24.Holes]) :: xblk b1 25 ([.slice Aa0_0 a0.To.length ca0_0, .int .u64 a0.Ends, .bool a0.Odd, .int .i64 a0.Holes]) :: fs) w := hC
       exact ⟨fun _ => does_pure (v := .int .i64 (a1.length : Int)) (by kernel_rfl) rfl hC, fun h => absurd h (by decide)⟩
      ·replace hC : St w0 Z (xrow x83.1 x83.2.1 9 1 (t79.flatMap encS) :: xrow x83.2.2.1 x83.2.2.2 4 1 (t80.flatMap encB) :: xrow A63 c64 39 3 (((([] : List api_Pick) ++ a1) ++ ([(⟨5, 0, 0⟩ : api_Pick)] : List api_Pick)).flatMap enc_api_Pick) :: xrow (some ⟨b57, 0, none⟩) 1 39 3 (([(⟨5, 0, 0⟩ : api_Pick)] : List api_Pick).flatMap enc_api_Pick) :: xblk b39 31 ([.string t22, cond t23 (.func (.func 21) #[] #[.pointer (some ⟨Q27, 0, none⟩), .pointer (some ⟨Q28, 0, none⟩)]) .nilFunc, cond t25 (.func (.func 22) #[] #[.pointer (some ⟨Q27, 0, none⟩), .pointer (some ⟨Q28, 0, none⟩)]) .nilFunc, cond t26 (.func (.func 23) #[] #[.pointer (some ⟨Q27, 0, none⟩), .pointer (some ⟨Q28, 0, none⟩)]) .nilFunc]) :: xblk Q27 53 ([.func (.func 20) #[] #[.pointer (some ⟨Q28, 0, none⟩)]]) :: xblk Q28 25 ([.slice Q29 t24.To.length Q30, .int .u64 t24.Ends, .bool t24.Odd, .int .i64 t24.Holes]) :: xblk b1 25 ([.slice Aa0_0 a0.To.length ca0_0, .int .u64 a0.Ends, .bool a0.Odd, .int .i64 a0.Holes]) :: fs) w := hC
       exact ⟨fun _ => does_pure (v := .int .i64 (a1.length : Int)) (by kernel_rfl) rfl hC, fun h => absurd h (by decide)⟩
     | 4, _, _ =>
      rcases st with _ | x83
      ·replace hC : St w0 Z (xrow A63 c64 39 3 (((([] : List api_Pick) ++ a1) ++ ([(⟨5, 0, 0⟩ : api_Pick)] : List api_Pick)).flatMap enc_api_Pick) :: xrow (some ⟨b57, 0, none⟩) 1 39 3 (([(⟨5, 0, 0⟩ : api_Pick)] : List api_Pick).flatMap enc_api_Pick) :: xblk b39 31 ([.string t22, cond t23 (.func (.func 21) #[] #[.pointer (some ⟨Q27, 0, none⟩), .pointer (some ⟨Q28, 0, none⟩)]) .nilFunc, cond t25 (.func (.func 22) #[] #[.pointer (some ⟨Q27, 0, none⟩), .pointer (some ⟨Q28, 0, none⟩)]) .nilFunc, cond t26 (.func (.func 23) #[] #[.pointer (some ⟨Q27, 0, none⟩), .pointer (some ⟨Q28, 0, none⟩)]) .nilFunc]) :: xblk Q27 53 ([.func (.func 20) #[] #[.pointer (some ⟨Q28, 0, none⟩)]]) :: xblk Q28 25 ([.slice Q29 t24.To.length Q30, .int .u64 t24.Ends, .bool t24.Odd, .int .i64 t24.Holes]) :: xblk b1 25 ([.slice Aa0_0 a0.To.length ca0_0, .int .u64 a0.Ends, .bool a0.Odd, .int .i64 a0.Holes]) :: fs) w := hC
       exact ⟨fun _ => does_run (x_cutSl_nsC (t := 33) (x := (.tmp 37)) (hi := (.tmp 39)) (e := 39) (sz := 3) (A := A63) (n := ((([] : List api_Pick) ++ a1) ++ ([(⟨5, 0, 0⟩ : api_Pick)] : List api_Pick)).length) (c := c64) (k := .i64) (by kernel_rfl) (by kernel_rfl) (by kernel_rfl) (by kernel_rfl) g76 cut0 (by kernel_rfl)) rfl hC, fun h => absurd h (by decide)⟩
      ·exact Bool.noConfusion (hu 0 (by decide))
     | 5, _, he => exact absurd he (by decide)
     | 6, _, _ =>
      rcases st with _ | x83
      ·exact Bool.noConfusion (hd 0 (by decide))
      ·replace hC : St w0 Z (xrow x83.1 x83.2.1 9 1 (t79.flatMap encS) :: xrow x83.2.2.1 x83.2.2.2 4 1 (t80.flatMap encB) :: xrow A63 c64 39 3 (((([] : List api_Pick) ++ a1) ++ ([(⟨5, 0, 0⟩ : api_Pick)] : List api_Pick)).flatMap enc_api_Pick) :: xrow (some ⟨b57, 0, none⟩) 1 39 3 (([(⟨5, 0, 0⟩ : api_Pick)] : List api_Pick).flatMap enc_api_Pick) :: xblk b39 31 ([.string t22, cond t23 (.func (.func 21) #[] #[.pointer (some ⟨Q27, 0, none⟩), .pointer (some ⟨Q28, 0, none⟩)]) .nilFunc, cond t25 (.func (.func 22) #[] #[.pointer (some ⟨Q27, 0, none⟩), .pointer (some ⟨Q28, 0, none⟩)]) .nilFunc, cond t26 (.func (.func 23) #[] #[.pointer (some ⟨Q27, 0, none⟩), .pointer (some ⟨Q28, 0, none⟩)]) .nilFunc]) :: xblk Q27 53 ([.func (.func 20) #[] #[.pointer (some ⟨Q28, 0, none⟩)]]) :: xblk Q28 25 ([.slice Q29 t24.To.length Q30, .int .u64 t24.Ends, .bool t24.Odd, .int .i64 t24.Holes]) :: xblk b1 25 ([.slice Aa0_0 a0.To.length ca0_0, .int .u64 a0.Ends, .bool a0.Odd, .int .i64 a0.Holes]) :: fs) w := hC
       exact ⟨fun _ => does_pure (v := .tuple #[.slice x83.1 t79.length x83.2.1, .slice x83.2.2.1 t80.length x83.2.2.2]) (by kernel_rfl) rfl hC, fun h => absurd h (by decide)⟩
     | 7, _, _ =>
      rcases st with _ | x83
      ·exact Bool.noConfusion (hd 0 (by decide))
      ·replace hC : St w0 Z (xrow x83.1 x83.2.1 9 1 (t79.flatMap encS) :: xrow x83.2.2.1 x83.2.2.2 4 1 (t80.flatMap encB) :: xrow A63 c64 39 3 (((([] : List api_Pick) ++ a1) ++ ([(⟨5, 0, 0⟩ : api_Pick)] : List api_Pick)).flatMap enc_api_Pick) :: xrow (some ⟨b57, 0, none⟩) 1 39 3 (([(⟨5, 0, 0⟩ : api_Pick)] : List api_Pick).flatMap enc_api_Pick) :: xblk b39 31 ([.string t22, cond t23 (.func (.func 21) #[] #[.pointer (some ⟨Q27, 0, none⟩), .pointer (some ⟨Q28, 0, none⟩)]) .nilFunc, cond t25 (.func (.func 22) #[] #[.pointer (some ⟨Q27, 0, none⟩), .pointer (some ⟨Q28, 0, none⟩)]) .nilFunc, cond t26 (.func (.func 23) #[] #[.pointer (some ⟨Q27, 0, none⟩), .pointer (some ⟨Q28, 0, none⟩)]) .nilFunc]) :: xblk Q27 53 ([.func (.func 20) #[] #[.pointer (some ⟨Q28, 0, none⟩)]]) :: xblk Q28 25 ([.slice Q29 t24.To.length Q30, .int .u64 t24.Ends, .bool t24.Odd, .int .i64 t24.Holes]) :: xblk b1 25 ([.slice Aa0_0 a0.To.length ca0_0, .int .u64 a0.Ends, .bool a0.Odd, .int .i64 a0.Holes]) :: fs) w := hC
       exact ⟨fun _ => does_pure (v := .slice x83.1 t79.length x83.2.1) (by kernel_rfl) rfl hC, fun h => absurd h (by decide)⟩
     | 8, _, _ =>
      rcases st with _ | x83
      ·exact Bool.noConfusion (hd 0 (by decide))
      ·replace hC : St w0 Z (xrow x83.1 x83.2.1 9 1 (t79.flatMap encS) :: xrow x83.2.2.1 x83.2.2.2 4 1 (t80.flatMap encB) :: xrow A63 c64 39 3 (((([] : List api_Pick) ++ a1) ++ ([(⟨5, 0, 0⟩ : api_Pick)] : List api_Pick)).flatMap enc_api_Pick) :: xrow (some ⟨b57, 0, none⟩) 1 39 3 (([(⟨5, 0, 0⟩ : api_Pick)] : List api_Pick).flatMap enc_api_Pick) :: xblk b39 31 ([.string t22, cond t23 (.func (.func 21) #[] #[.pointer (some ⟨Q27, 0, none⟩), .pointer (some ⟨Q28, 0, none⟩)]) .nilFunc, cond t25 (.func (.func 22) #[] #[.pointer (some ⟨Q27, 0, none⟩), .pointer (some ⟨Q28, 0, none⟩)]) .nilFunc, cond t26 (.func (.func 23) #[] #[.pointer (some ⟨Q27, 0, none⟩), .pointer (some ⟨Q28, 0, none⟩)]) .nilFunc]) :: xblk Q27 53 ([.func (.func 20) #[] #[.pointer (some ⟨Q28, 0, none⟩)]]) :: xblk Q28 25 ([.slice Q29 t24.To.length Q30, .int .u64 t24.Ends, .bool t24.Odd, .int .i64 t24.Holes]) :: xblk b1 25 ([.slice Aa0_0 a0.To.length ca0_0, .int .u64 a0.Ends, .bool a0.Odd, .int .i64 a0.Holes]) :: fs) w := hC
       exact ⟨fun _ => does_pure (v := .slice x83.2.2.1 t80.length x83.2.2.2) (by kernel_rfl) rfl hC, fun h => absurd h (by decide)⟩
     | 9, _, _ =>
      rcases st with _ | x83
      ·exact Bool.noConfusion (hd 0 (by decide))
      ·replace hC : St w0 Z (xrow x83.1 x83.2.1 9 1 (t79.flatMap encS) :: xrow x83.2.2.1 x83.2.2.2 4 1 (t80.flatMap encB) :: xrow A63 c64 39 3 (((([] : List api_Pick) ++ a1) ++ ([(⟨5, 0, 0⟩ : api_Pick)] : List api_Pick)).flatMap enc_api_Pick) :: xrow (some ⟨b57, 0, none⟩) 1 39 3 (([(⟨5, 0, 0⟩ : api_Pick)] : List api_Pick).flatMap enc_api_Pick) :: xblk b39 31 ([.string t22, cond t23 (.func (.func 21) #[] #[.pointer (some ⟨Q27, 0, none⟩), .pointer (some ⟨Q28, 0, none⟩)]) .nilFunc, cond t25 (.func (.func 22) #[] #[.pointer (some ⟨Q27, 0, none⟩), .pointer (some ⟨Q28, 0, none⟩)]) .nilFunc, cond t26 (.func (.func 23) #[] #[.pointer (some ⟨Q27, 0, none⟩), .pointer (some ⟨Q28, 0, none⟩)]) .nilFunc]) :: xblk Q27 53 ([.func (.func 20) #[] #[.pointer (some ⟨Q28, 0, none⟩)]]) :: xblk Q28 25 ([.slice Q29 t24.To.length Q30, .int .u64 t24.Ends, .bool t24.Odd, .int .i64 t24.Holes]) :: xblk b1 25 ([.slice Aa0_0 a0.To.length ca0_0, .int .u64 a0.Ends, .bool a0.Odd, .int .i64 a0.Holes]) :: fs) w := hC
       exact ⟨fun _ => does_pure (v := .slice x83.1 t79.length x83.2.1) (by kernel_rfl) rfl hC, fun h => absurd h (by decide)⟩
     | 10, _, _ =>
      rcases st with _ | x83
      ·exact Bool.noConfusion (hd 0 (by decide))
      ·replace hC : St w0 Z (xrow x83.1 x83.2.1 9 1 (t79.flatMap encS) :: xrow x83.2.2.1 x83.2.2.2 4 1 (t80.flatMap encB) :: xrow A63 c64 39 3 (((([] : List api_Pick) ++ a1) ++ ([(⟨5, 0, 0⟩ : api_Pick)] : List api_Pick)).flatMap enc_api_Pick) :: xrow (some ⟨b57, 0, none⟩) 1 39 3 (([(⟨5, 0, 0⟩ : api_Pick)] : List api_Pick).flatMap enc_api_Pick) :: xblk b39 31 ([.string t22, cond t23 (.func (.func 21) #[] #[.pointer (some ⟨Q27, 0, none⟩), .pointer (some ⟨Q28, 0, none⟩)]) .nilFunc, cond t25 (.func (.func 22) #[] #[.pointer (some ⟨Q27, 0, none⟩), .pointer (some ⟨Q28, 0, none⟩)]) .nilFunc, cond t26 (.func (.func 23) #[] #[.pointer (some ⟨Q27, 0, none⟩), .pointer (some ⟨Q28, 0, none⟩)]) .nilFunc]) :: xblk Q27 53 ([.func (.func 20) #[] #[.pointer (some ⟨Q28, 0, none⟩)]]) :: xblk Q28 25 ([.slice Q29 t24.To.length Q30, .int .u64 t24.Ends, .bool t24.Odd, .int .i64 t24.Holes]) :: xblk b1 25 ([.slice Aa0_0 a0.To.length ca0_0, .int .u64 a0.Ends, .bool a0.Odd, .int .i64 a0.Holes]) :: fs) w := hC
       exact ⟨fun _ => does_pure (v := .slice x83.2.2.1 t80.length x83.2.2.2) (by kernel_rfl) rfl hC, fun h => absurd h (by decide)⟩
     | i + 11, hi, _ => exact absurd hi (by omega)
    ·intro k hk st w hC hr hm
     match k, hk with
     | 0, _ =>
      rcases st with _ | x83
      ·replace hC : St w0 Z (xrow A63 c64 39 3 (((([] : List api_Pick) ++ a1) ++ ([(⟨5, 0, 0⟩ : api_Pick)] : List api_Pick)).flatMap enc_api_Pick) :: xrow (some ⟨b57, 0, none⟩) 1 39 3 (([(⟨5, 0, 0⟩ : api_Pick)] : List api_Pick).flatMap enc_api_Pick) :: xblk b39 31 ([.string t22, cond t23 (.func (.func 21) #[] #[.pointer (some ⟨Q27, 0, none⟩), .pointer (some ⟨Q28, 0, none⟩)]) .nilFunc, cond t25 (.func (.func 22) #[] #[.pointer (some ⟨Q27, 0, none⟩), .pointer (some ⟨Q28, 0, none⟩)]) .nilFunc, cond t26 (.func (.func 23) #[] #[.pointer (some ⟨Q27, 0, none⟩), .pointer (some ⟨Q28, 0, none⟩)]) .nilFunc]) :: xblk Q27 53 ([.func (.func 20) #[] #[.pointer (some ⟨Q28, 0, none⟩)]]) :: xblk Q28 25 ([.slice Q29 t24.To.length Q30, .int .u64 t24.Ends, .bool t24.Odd, .int .i64 t24.Holes]) :: xblk b1 25 ([.slice Aa0_0 a0.To.length ca0_0, .int .u64 a0.Ends, .bool a0.Odd, .int .i64 a0.Holes]) :: fs) w := hC
       obtain ⟨Z126, hz127, hS128, hs129, hb130⟩ := hC.lendrow len_api_Pick (by omega)
       have hS131 := hS128.pick3
       have hS132 := hS131.pick3
       refine does_call (g := 10) (args := #[.agg #[.string t22, cond t23 (.func (.func 21) #[] #[.pointer (some ⟨Q27, 0, none⟩), .pointer (some ⟨Q28, 0, none⟩)]) .nilFunc, cond t25 (.func (.func 22) #[] #[.pointer (some ⟨Q27, 0, none⟩), .pointer (some ⟨Q28, 0, none⟩)]) .nilFunc, cond t26 (.func (.func 23) #[] #[.pointer (some ⟨Q27, 0, none⟩), .pointer (some ⟨Q28, 0, none⟩)]) .nilFunc], .slice A63 ((a1.length : Int).toNat) c64]) (by kernel_rfl) (args_eq (by rw [lenTake g77]) (script_Replay.ok t22 t23 (⟨t24.To, t24.Ends, t24.Odd, t24.Holes⟩ : weirlaw15_Graph) t25 t26 (((([] : List api_Pick) ++ a1) ++ ([(⟨5, 0, 0⟩ : api_Pick)] : List api_Pick)).take ((a1.length : Int).toNat)) Q27 Q28 Q29 Q30 A63 c64 hS132 (SlZ.mono (mono_repL (mono_flat _)) hs38 hz127) (hs129.take0 ((a1.length : Int).toNat)) hr81)) ?_
       rintro e w2 ⟨m133, m134, m135, m136, rfl, h2⟩
       refine ⟨_, rfl, ?_⟩
       have hS137 := hb130 _ _ h2
       have hS138 := hS137.pick7
       have hS139 := hS138.pick5
       have hS140 := hS139.pick5
       have hS141 := hS140.pick7
       have hS142 := hS141.pick7
       have hS143 := hS142.pick5
       have hS144 := hS143.pick7
       have hS145 := hS144.pick7
       have h2 := hS145
       have h2 := h2.pick7
       have h2 := h2.pick7
       have h2 := h2.pick7
       have h2 := h2.pick7
       have h2 := h2.pick7
       have h2 := h2.pick7
       have h2 := h2.pick7
       have h2 := h2.pick7
       refine ⟨some (m133, m134, m135, m136), rfl, ?_, ?_, .inr rfl, h2⟩
       ·intro m hne; match m, hne with
        | 0, hne => exact absurd rfl hne
        | m + 1, _ => exact rfl
       ·intro j hj; match j, hj with
        | 0, hj => exact rfl
        | 1, hj => exact rfl
        | 2, hj => exact rfl
        | 3, hj => exact rfl
        | 4, hj => exact rfl
        | 5, hj => exact absurd (by decide) hj
        | 6, hj => exact absurd (by decide) hj
        | 7, hj => exact absurd (by decide) hj
        | 8, hj => exact absurd (by decide) hj
        | 9, hj => exact absurd (by decide) hj
        | 10, hj => exact absurd (by decide) hj
        | j + 11, _ => exact rfl
      ·exact Bool.noConfusion hr
     | k + 1, hk => exact absurd hk (by simp)
    intro st149 w146 hS147 hr148
    rcases st149 with _ | x83
    ·exact Bool.noConfusion (hr148 0 (Nat.lt_of_sub_eq_succ rfl))
    replace hS147 : St w0 Z (xrow x83.1 x83.2.1 9 1 (t79.flatMap encS) :: xrow x83.2.2.1 x83.2.2.2 4 1 (t80.flatMap encB) :: xrow A63 c64 39 3 (((([] : List api_Pick) ++ a1) ++ ([(⟨5, 0, 0⟩ : api_Pick)] : List api_Pick)).flatMap enc_api_Pick) :: xrow (some ⟨b57, 0, none⟩) 1 39 3 (([(⟨5, 0, 0⟩ : api_Pick)] : List api_Pick).flatMap enc_api_Pick) :: xblk b39 31 ([.string t22, cond t23 (.func (.func 21) #[] #[.pointer (some ⟨Q27, 0, none⟩), .pointer (some ⟨Q28, 0, none⟩)]) .nilFunc, cond t25 (.func (.func 22) #[] #[.pointer (some ⟨Q27, 0, none⟩), .pointer (some ⟨Q28, 0, none⟩)]) .nilFunc, cond t26 (.func (.func 23) #[] #[.pointer (some ⟨Q27, 0, none⟩), .pointer (some ⟨Q28, 0, none⟩)]) .nilFunc]) :: xblk Q27 53 ([.func (.func 20) #[] #[.pointer (some ⟨Q28, 0, none⟩)]]) :: xblk Q28 25 ([.slice Q29 t24.To.length Q30, .int .u64 t24.Ends, .bool t24.Odd, .int .i64 t24.Holes]) :: xblk b1 25 ([.slice Aa0_0 a0.To.length ca0_0, .int .u64 a0.Ends, .bool a0.Odd, .int .i64 a0.Holes]) :: fs) w146 := hS147
    refine sx_run 2 (todo' := [.inRegion (opsOf (cd4 [1, 1, 1, 1, 1, 0])) [0, 1, 2, 3, 4, 5, 6, 7], .code (cd4 [1, 1, 1, 1, 1, 1])]) (us := []) (by kernel_rfl) ?_
    refine r_load (c := (cd4 [1, 1, 1, 1, 1, 0])) (i := 0) (d := (some 45)) (ty := 31) (t := 31) (x := (.tmp 5)) (p := ⟨b39, 0, none⟩) (v := .agg #[.string t22, cond t23 (.func (.func 21) #[] #[.pointer (some ⟨Q27, 0, none⟩), .pointer (some ⟨Q28, 0, none⟩)]) .nilFunc, cond t25 (.func (.func 22) #[] #[.pointer (some ⟨Q27, 0, none⟩), .pointer (some ⟨Q28, 0, none⟩)]) .nilFunc, cond t26 (.func (.func 23) #[] #[.pointer (some ⟨Q27, 0, none⟩), .pointer (some ⟨Q28, 0, none⟩)]) .nilFunc]) (by kernel_rfl) (by kernel_rfl) (by kernel_rfl) (loads_agg (hS147.blk 4 rfl) (by kernel_rfl) (by kernel_rfl)) ?_
    refine sx_run 1 (todo' := [.inRegion (opsOf (cd4 [1, 1, 1, 1, 1, 0])) [2, 3, 4, 5, 6, 7], .code (cd4 [1, 1, 1, 1, 1, 1])]) (us := [(46, .slice Aa1 a1.length ca1)]) (by kernel_rfl) ?_
    obtain ⟨⟨t150, t151⟩, hr156, hp157⟩ := bind_some' hp82
    try dsimp only at hp157
    have hS161 := hS147.pick6
    have hS162 := hS161.pick6
    refine r_call1 (c := (cd4 [1, 1, 1, 1, 1, 0])) (i := 2) (d := (some 47)) (g := 11) (args := #[.agg #[.string t22, cond t23 (.func (.func 21) #[] #[.pointer (some ⟨Q27, 0, none⟩), .pointer (some ⟨Q28, 0, none⟩)]) .nilFunc, cond t25 (.func (.func 22) #[] #[.pointer (some ⟨Q27, 0, none⟩), .pointer (some ⟨Q28, 0, none⟩)]) .nilFunc, cond t26 (.func (.func 23) #[] #[.pointer (some ⟨Q27, 0, none⟩), .pointer (some ⟨Q28, 0, none⟩)]) .nilFunc], .slice Aa1 a1.length ca1]) (by kernel_rfl) (by kernel_rfl) (by kernel_rfl) (by kernel_rfl) (weirref15_Replay.ok t22 t23 (⟨t24.To, t24.Ends, t24.Odd, t24.Holes⟩ : weirlaw15_Graph) t25 t26 a1 Q27 Q28 Q29 Q30 Aa1 ca1 hS162 hs38 ha1 hr156) ?_
    rintro _ w163 ⟨Q152, Q153, Q154, Q155, rfl, hS164⟩
    refine ⟨.tuple #[.slice Q152 t150.length Q153, .slice Q154 t151.length Q155], rfl, ?_⟩
    refine sx_run 7 (todo' := [.code (cd4 [1, 1, 1, 1, 1, 1, 0]), .code (cd4 [1, 1, 1, 1, 1, 1, 1])]) (us := [(44, .tuple #[.slice Q152 t150.length Q153, .slice Q154 t151.length Q155]), (48, .slice Q152 t150.length Q153), (49, .slice Q154 t151.length Q155), (9, .slice Q152 t150.length Q153), (10, .slice Q154 t151.length Q155)]) (by kernel_rfl) ?_
    obtain ⟨g165, hp166⟩ := ite_some hp157
    have hc172 := (hS164.row 6 rfl).cap len_api_Pick (by omega)
    have g173 : 0 ≤ (a1.length : Int) ∧ (a1.length : Int) ≤ (c64 : Int) := by omega
    obtain ⟨g174, hp175⟩ := ite_some hp166
    obtain ⟨⟨t176, t177⟩, hr178, hp179⟩ := bind_some' hp175
    try dsimp only at hp179
    refine r_drawnP (S := Option Nat × Option Unit) (dn := (fun (st : Option Nat × Option Unit) k => [st.1.isSome, st.2.isSome].getD k true)) (C := (fun st w' => match st with | (none, none) => St w0 Z (xrow Q152 Q153 9 1 (t150.flatMap encS) :: xrow Q154 Q155 4 1 (t151.flatMap encB) :: xblk Q27 53 ([.func (.func 20) #[] #[.pointer (some ⟨Q28, 0, none⟩)]]) :: xblk Q28 25 ([.slice Q29 t24.To.length Q30, .int .u64 t24.Ends, .bool t24.Odd, .int .i64 t24.Holes]) :: xrow x83.1 x83.2.1 9 1 (t79.flatMap encS) :: xrow x83.2.2.1 x83.2.2.2 4 1 (t80.flatMap encB) :: xrow A63 c64 39 3 (((([] : List api_Pick) ++ a1) ++ ([(⟨5, 0, 0⟩ : api_Pick)] : List api_Pick)).flatMap enc_api_Pick) :: xrow (some ⟨b57, 0, none⟩) 1 39 3 (([(⟨5, 0, 0⟩ : api_Pick)] : List api_Pick).flatMap enc_api_Pick) :: xblk b39 31 ([.string t22, cond t23 (.func (.func 21) #[] #[.pointer (some ⟨Q27, 0, none⟩), .pointer (some ⟨Q28, 0, none⟩)]) .nilFunc, cond t25 (.func (.func 22) #[] #[.pointer (some ⟨Q27, 0, none⟩), .pointer (some ⟨Q28, 0, none⟩)]) .nilFunc, cond t26 (.func (.func 23) #[] #[.pointer (some ⟨Q27, 0, none⟩), .pointer (some ⟨Q28, 0, none⟩)]) .nilFunc]) :: xblk b1 25 ([.slice Aa0_0 a0.To.length ca0_0, .int .u64 a0.Ends, .bool a0.Odd, .int .i64 a0.Holes]) :: fs) w' | (none, some _) => False | (some b180, none) => St w0 Z (xblk b180 46 (enc_api_Final (⟨0, (Vector.replicate 48 0)⟩ : api_Final)) :: xrow Q152 Q153 9 1 (t150.flatMap encS) :: xrow Q154 Q155 4 1 (t151.flatMap encB) :: xblk Q27 53 ([.func (.func 20) #[] #[.pointer (some ⟨Q28, 0, none⟩)]]) :: xblk Q28 25 ([.slice Q29 t24.To.length Q30, .int .u64 t24.Ends, .bool t24.Odd, .int .i64 t24.Holes]) :: xrow x83.1 x83.2.1 9 1 (t79.flatMap encS) :: xrow x83.2.2.1 x83.2.2.2 4 1 (t80.flatMap encB) :: xrow A63 c64 39 3 (((([] : List api_Pick) ++ a1) ++ ([(⟨5, 0, 0⟩ : api_Pick)] : List api_Pick)).flatMap enc_api_Pick) :: xrow (some ⟨b57, 0, none⟩) 1 39 3 (([(⟨5, 0, 0⟩ : api_Pick)] : List api_Pick).flatMap enc_api_Pick) :: xblk b39 31 ([.string t22, cond t23 (.func (.func 21) #[] #[.pointer (some ⟨Q27, 0, none⟩), .pointer (some ⟨Q28, 0, none⟩)]) .nilFunc, cond t25 (.func (.func 22) #[] #[.pointer (some ⟨Q27, 0, none⟩), .pointer (some ⟨Q28, 0, none⟩)]) .nilFunc, cond t26 (.func (.func 23) #[] #[.pointer (some ⟨Q27, 0, none⟩), .pointer (some ⟨Q28, 0, none⟩)]) .nilFunc]) :: xblk b1 25 ([.slice Aa0_0 a0.To.length ca0_0, .int .u64 a0.Ends, .bool a0.Odd, .int .i64 a0.Holes]) :: fs) w' | (some b180, some _) => St w0 Z (xblk b180 46 (enc_api_Final t176) :: xrow Q152 Q153 9 1 (t150.flatMap encS) :: xrow Q154 Q155 4 1 (t151.flatMap encB) :: xblk Q27 53 ([.func (.func 20) #[] #[.pointer (some ⟨Q28, 0, none⟩)]]) :: xblk Q28 25 ([.slice Q29 t24.To.length Q30, .int .u64 t24.Ends, .bool t24.Odd, .int .i64 t24.Holes]) :: xrow x83.1 x83.2.1 9 1 (t79.flatMap encS) :: xrow x83.2.2.1 x83.2.2.2 4 1 (t80.flatMap encB) :: xrow A63 c64 39 3 (((([] : List api_Pick) ++ a1) ++ ([(⟨5, 0, 0⟩ : api_Pick)] : List api_Pick)).flatMap enc_api_Pick) :: xrow (some ⟨b57, 0, none⟩) 1 39 3 (([(⟨5, 0, 0⟩ : api_Pick)] : List api_Pick).flatMap enc_api_Pick) :: xblk b39 31 ([.string t22, cond t23 (.func (.func 21) #[] #[.pointer (some ⟨Q27, 0, none⟩), .pointer (some ⟨Q28, 0, none⟩)]) .nilFunc, cond t25 (.func (.func 22) #[] #[.pointer (some ⟨Q27, 0, none⟩), .pointer (some ⟨Q28, 0, none⟩)]) .nilFunc, cond t26 (.func (.func 23) #[] #[.pointer (some ⟨Q27, 0, none⟩), .pointer (some ⟨Q28, 0, none⟩)]) .nilFunc]) :: xblk b1 25 ([.slice Aa0_0 a0.To.length ca0_0, .int .u64 a0.Ends, .bool a0.Odd, .int .i64 a0.Holes]) :: fs) w')) (v := (fun st => match st with | (none, none) => [.agg #[.string t22, cond t23 (.func (.func 21) #[] #[.pointer (some ⟨Q27, 0, none⟩), .pointer (some ⟨Q28, 0, none⟩)]) .nilFunc, cond t25 (.func (.func 22) #[] #[.pointer (some ⟨Q27, 0, none⟩), .pointer (some ⟨Q28, 0, none⟩)]) .nilFunc, cond t26 (.func (.func 23) #[] #[.pointer (some ⟨Q27, 0, none⟩), .pointer (some ⟨Q28, 0, none⟩)]) .nilFunc], .slice A63 ((([] : List api_Pick) ++ a1) ++ ([(⟨5, 0, 0⟩ : api_Pick)] : List api_Pick)).length c64, .slice Aa1 a1.length ca1, .int .i64 (a1.length : Int), .slice A63 ((a1.length : Int).toNat) c64, .tuple #[.agg (enc_api_Final t176).toArray, .bool t177], .tuple #[.agg (enc_api_Final t176).toArray, .bool t177], .agg (enc_api_Final t176).toArray, .bool t177, undef, undef, undef] | (none, some _) => [.agg #[.string t22, cond t23 (.func (.func 21) #[] #[.pointer (some ⟨Q27, 0, none⟩), .pointer (some ⟨Q28, 0, none⟩)]) .nilFunc, cond t25 (.func (.func 22) #[] #[.pointer (some ⟨Q27, 0, none⟩), .pointer (some ⟨Q28, 0, none⟩)]) .nilFunc, cond t26 (.func (.func 23) #[] #[.pointer (some ⟨Q27, 0, none⟩), .pointer (some ⟨Q28, 0, none⟩)]) .nilFunc], .slice A63 ((([] : List api_Pick) ++ a1) ++ ([(⟨5, 0, 0⟩ : api_Pick)] : List api_Pick)).length c64, .slice Aa1 a1.length ca1, .int .i64 (a1.length : Int), .slice A63 ((a1.length : Int).toNat) c64, .tuple #[.agg (enc_api_Final t176).toArray, .bool t177], .tuple #[.agg (enc_api_Final t176).toArray, .bool t177], .agg (enc_api_Final t176).toArray, .bool t177, undef, undef, undef] | (some b180, none) => [.agg #[.string t22, cond t23 (.func (.func 21) #[] #[.pointer (some ⟨Q27, 0, none⟩), .pointer (some ⟨Q28, 0, none⟩)]) .nilFunc, cond t25 (.func (.func 22) #[] #[.pointer (some ⟨Q27, 0, none⟩), .pointer (some ⟨Q28, 0, none⟩)]) .nilFunc, cond t26 (.func (.func 23) #[] #[.pointer (some ⟨Q27, 0, none⟩), .pointer (some ⟨Q28, 0, none⟩)]) .nilFunc], .slice A63 ((([] : List api_Pick) ++ a1) ++ ([(⟨5, 0, 0⟩ : api_Pick)] : List api_Pick)).length c64, .slice Aa1 a1.length ca1, .int .i64 (a1.length : Int), .slice A63 ((a1.length : Int).toNat) c64, .tuple #[.agg (enc_api_Final t176).toArray, .bool t177], .tuple #[.agg (enc_api_Final t176).toArray, .bool t177], .agg (enc_api_Final t176).toArray, .bool t177, .pointer (some ⟨b180, 0, none⟩), undef, undef] | (some b180, some _) => [.agg #[.string t22, cond t23 (.func (.func 21) #[] #[.pointer (some ⟨Q27, 0, none⟩), .pointer (some ⟨Q28, 0, none⟩)]) .nilFunc, cond t25 (.func (.func 22) #[] #[.pointer (some ⟨Q27, 0, none⟩), .pointer (some ⟨Q28, 0, none⟩)]) .nilFunc, cond t26 (.func (.func 23) #[] #[.pointer (some ⟨Q27, 0, none⟩), .pointer (some ⟨Q28, 0, none⟩)]) .nilFunc], .slice A63 ((([] : List api_Pick) ++ a1) ++ ([(⟨5, 0, 0⟩ : api_Pick)] : List api_Pick)).length c64, .slice Aa1 a1.length ca1, .int .i64 (a1.length : Int), .slice A63 ((a1.length : Int).toNat) c64, .tuple #[.agg (enc_api_Final t176).toArray, .bool t177], .tuple #[.agg (enc_api_Final t176).toArray, .bool t177], .agg (enc_api_Final t176).toArray, .bool t177, .pointer (some ⟨b180, 0, none⟩), undef, .bool t177])) (c := (cd4 [1, 1, 1, 1, 1, 1, 0])) (id := 7) (none, none) 10 12 [9, 10] [[], [], [], [], [], [], [], [], [], [], [0], [0, 1]] [[1], [1], [1], [1], [1], [1], [1], [1], [], [1], [], []] [] [true, true, true, true, true, true, true, true, true, true, true, true] (by kernel_rfl) (by kernel_rfl) (by kernel_rfl) (by kernel_rfl) (by kernel_rfl) (by kernel_rfl) (by kernel_rfl) (by kernel_rfl) (by kernel_rfl) (fun k hk => match k, hk with | 0, _ => rfl | 1, _ => rfl | k + 2, hk => absurd hk (by simp)) hS164.drew ?_ (fun k hk => match k, hk with | 0, _ => rfl | 1, _ => rfl | k + 2, hk => absurd hk (by simp)) ?_ ?_ ?_
    ·intro i hi st w hC hd
     match i, hi with
     | 0, _ => (show _ = _; kernel_rfl)
     | 1, _ => (show _ = _; kernel_rfl)
     | 2, _ => (show _ = _; kernel_rfl)
     | 3, _ => (show _ = _; kernel_rfl)
     | 4, _ => (show _ = _; kernel_rfl)
     | 5, _ => (show _ = _; kernel_rfl)
     | 6, _ => (show _ = _; kernel_rfl)
     | 7, _ => (show _ = _; kernel_rfl)
     | 8, _ => (show _ = _; kernel_rfl)
     | 9, _ => (show _ = _; kernel_rfl)
     | 10, _ => (show _ = _; kernel_rfl)
     | 11, _ => (show _ = _; kernel_rfl)
     | i + 12, hi => exact absurd hi (by omega)
    ·intro i hi he st w hC hd hu
     match i, hi, he with
     | 0, _, _ =>
      rcases st with ⟨_ | b180, _ | _⟩
      ·replace hC : St w0 Z (xrow Q152 Q153 9 1 (t150.flatMap encS) :: xrow Q154 Q155 4 1 (t151.flatMap encB) :: xblk Q27 53 ([.func (.func 20) #[] #[.pointer (some ⟨Q28, 0, none⟩)]]) :: xblk Q28 25 ([.slice Q29 t24.To.length Q30, .int .u64 t24.Ends, .bool t24.Odd, .int .i64 t24.Holes]) :: xrow x83.1 x83.2.1 9 1 (t79.flatMap encS) :: xrow x83.2.2.1 x83.2.2.2 4 1 (t80.flatMap encB) :: xrow A63 c64 39 3 (((([] : List api_Pick) ++ a1) ++ ([(⟨5, 0, 0⟩ : api_Pick)] : List api_Pick)).flatMap enc_api_Pick) :: xrow (some ⟨b57, 0, none⟩) 1 39 3 (([(⟨5, 0, 0⟩ : api_Pick)] : List api_Pick).flatMap enc_api_Pick) :: xblk b39 31 ([.string t22, cond t23 (.func (.func 21) #[] #[.pointer (some ⟨Q27, 0, none⟩), .pointer (some ⟨Q28, 0, none⟩)]) .nilFunc, cond t25 (.func (.func 22) #[] #[.pointer (some ⟨Q27, 0, none⟩), .pointer (some ⟨Q28, 0, none⟩)]) .nilFunc, cond t26 (.func (.func 23) #[] #[.pointer (some ⟨Q27, 0, none⟩), .pointer (some ⟨Q28, 0, none⟩)]) .nilFunc]) :: xblk b1 25 ([.slice Aa0_0 a0.To.length ca0_0, .int .u64 a0.Ends, .bool a0.Odd, .int .i64 a0.Holes]) :: fs) w := hC
       exact ⟨fun _ => does_run (x_load (t := 31) (x := (.tmp 5)) (p := ⟨b39, 0, none⟩) (v := .agg #[.string t22, cond t23 (.func (.func 21) #[] #[.pointer (some ⟨Q27, 0, none⟩), .pointer (some ⟨Q28, 0, none⟩)]) .nilFunc, cond t25 (.func (.func 22) #[] #[.pointer (some ⟨Q27, 0, none⟩), .pointer (some ⟨Q28, 0, none⟩)]) .nilFunc, cond t26 (.func (.func 23) #[] #[.pointer (some ⟨Q27, 0, none⟩), .pointer (some ⟨Q28, 0, none⟩)]) .nilFunc]) (by kernel_rfl) (loads_agg (hC.blk 8 rfl) (by kernel_rfl) (by kernel_rfl)) (by kernel_rfl)) rfl hC, fun h => absurd h (by decide)⟩
      ·exact False.elim hC
      ·replace hC : St w0 Z (xblk b180 46 (enc_api_Final (⟨0, (Vector.replicate 48 0)⟩ : api_Final)) :: xrow Q152 Q153 9 1 (t150.flatMap encS) :: xrow Q154 Q155 4 1 (t151.flatMap encB) :: xblk Q27 53 ([.func (.func 20) #[] #[.pointer (some ⟨Q28, 0, none⟩)]]) :: xblk Q28 25 ([.slice Q29 t24.To.length Q30, .int .u64 t24.Ends, .bool t24.Odd, .int .i64 t24.Holes]) :: xrow x83.1 x83.2.1 9 1 (t79.flatMap encS) :: xrow x83.2.2.1 x83.2.2.2 4 1 (t80.flatMap encB) :: xrow A63 c64 39 3 (((([] : List api_Pick) ++ a1) ++ ([(⟨5, 0, 0⟩ : api_Pick)] : List api_Pick)).flatMap enc_api_Pick) :: xrow (some ⟨b57, 0, none⟩) 1 39 3 (([(⟨5, 0, 0⟩ : api_Pick)] : List api_Pick).flatMap enc_api_Pick) :: xblk b39 31 ([.string t22, cond t23 (.func (.func 21) #[] #[.pointer (some ⟨Q27, 0, none⟩), .pointer (some ⟨Q28, 0, none⟩)]) .nilFunc, cond t25 (.func (.func 22) #[] #[.pointer (some ⟨Q27, 0, none⟩), .pointer (some ⟨Q28, 0, none⟩)]) .nilFunc, cond t26 (.func (.func 23) #[] #[.pointer (some ⟨Q27, 0, none⟩), .pointer (some ⟨Q28, 0, none⟩)]) .nilFunc]) :: xblk b1 25 ([.slice Aa0_0 a0.To.length ca0_0, .int .u64 a0.Ends, .bool a0.Odd, .int .i64 a0.Holes]) :: fs) w := hC
       exact ⟨fun _ => does_run (x_load (t := 31) (x := (.tmp 5)) (p := ⟨b39, 0, none⟩) (v := .agg #[.string t22, cond t23 (.func (.func 21) #[] #[.pointer (some ⟨Q27, 0, none⟩), .pointer (some ⟨Q28, 0, none⟩)]) .nilFunc, cond t25 (.func (.func 22) #[] #[.pointer (some ⟨Q27, 0, none⟩), .pointer (some ⟨Q28, 0, none⟩)]) .nilFunc, cond t26 (.func (.func 23) #[] #[.pointer (some ⟨Q27, 0, none⟩), .pointer (some ⟨Q28, 0, none⟩)]) .nilFunc]) (by kernel_rfl) (loads_agg (hC.blk 9 rfl) (by kernel_rfl) (by kernel_rfl)) (by kernel_rfl)) rfl hC, fun h => absurd h (by decide)⟩
      ·exact Bool.noConfusion (hu 1 (by decide))
     | 1, _, _ =>
      rcases st with ⟨_ | b180, _ | _⟩
      ·replace hC : St w0 Z (xrow Q152 Q153 9 1 (t150.flatMap encS) :: xrow Q154 Q155 4 1 (t151.flatMap encB) :: xblk Q27 53 ([.func (.func 20) #[] #[.pointer (some ⟨Q28, 0, none⟩)]]) :: xblk Q28 25 ([.slice Q29 t24.To.length Q30, .int .u64 t24.Ends, .bool t24.Odd, .int .i64 t24.Holes]) :: xrow x83.1 x83.2.1 9 1 (t79.flatMap encS) :: xrow x83.2.2.1 x83.2.2.2 4 1 (t80.flatMap encB) :: xrow A63 c64 39 3 (((([] : List api_Pick) ++ a1) ++ ([(⟨5, 0, 0⟩ : api_Pick)] : List api_Pick)).flatMap enc_api_Pick) :: xrow (some ⟨b57, 0, none⟩) 1 39 3 (([(⟨5, 0, 0⟩ : api_Pick)] : List api_Pick).flatMap enc_api_Pick) :: xblk b39 31 ([.string t22, cond t23 (.func (.func 21) #[] #[.pointer (some ⟨Q27, 0, none⟩), .pointer (some ⟨Q28, 0, none⟩)]) .nilFunc, cond t25 (.func (.func 22) #[] #[.pointer (some ⟨Q27, 0, none⟩), .pointer (some ⟨Q28, 0, none⟩)]) .nilFunc, cond t26 (.func (.func 23) #[] #[.pointer (some ⟨Q27, 0, none⟩), .pointer (some ⟨Q28, 0, none⟩)]) .nilFunc]) :: xblk b1 25 ([.slice Aa0_0 a0.To.length ca0_0, .int .u64 a0.Ends, .bool a0.Odd, .int .i64 a0.Holes]) :: fs) w := hC
       exact ⟨fun _ => does_pure (v := .slice A63 ((([] : List api_Pick) ++ a1) ++ ([(⟨5, 0, 0⟩ : api_Pick)] : List api_Pick)).length c64) (by kernel_rfl) rfl hC, fun h => absurd h (by decide)⟩
      ·exact False.elim hC
      ·replace hC : St w0 Z (xblk b180 46 (enc_api_Final (⟨0, (Vector.replicate 48 0)⟩ : api_Final)) :: xrow Q152 Q153 9 1 (t150.flatMap encS) :: xrow Q154 Q155 4 1 (t151.flatMap encB) :: xblk Q27 53 ([.func (.func 20) #[] #[.pointer (some ⟨Q28, 0, none⟩)]]) :: xblk Q28 25 ([.slice Q29 t24.To.length Q30, .int .u64 t24.Ends, .bool t24.Odd, .int .i64 t24.Holes]) :: xrow x83.1 x83.2.1 9 1 (t79.flatMap encS) :: xrow x83.2.2.1 x83.2.2.2 4 1 (t80.flatMap encB) :: xrow A63 c64 39 3 (((([] : List api_Pick) ++ a1) ++ ([(⟨5, 0, 0⟩ : api_Pick)] : List api_Pick)).flatMap enc_api_Pick) :: xrow (some ⟨b57, 0, none⟩) 1 39 3 (([(⟨5, 0, 0⟩ : api_Pick)] : List api_Pick).flatMap enc_api_Pick) :: xblk b39 31 ([.string t22, cond t23 (.func (.func 21) #[] #[.pointer (some ⟨Q27, 0, none⟩), .pointer (some ⟨Q28, 0, none⟩)]) .nilFunc, cond t25 (.func (.func 22) #[] #[.pointer (some ⟨Q27, 0, none⟩), .pointer (some ⟨Q28, 0, none⟩)]) .nilFunc, cond t26 (.func (.func 23) #[] #[.pointer (some ⟨Q27, 0, none⟩), .pointer (some ⟨Q28, 0, none⟩)]) .nilFunc]) :: xblk b1 25 ([.slice Aa0_0 a0.To.length ca0_0, .int .u64 a0.Ends, .bool a0.Odd, .int .i64 a0.Holes]) :: fs) w := hC
       exact ⟨fun _ => does_pure (v := .slice A63 ((([] : List api_Pick) ++ a1) ++ ([(⟨5, 0, 0⟩ : api_Pick)] : List api_Pick)).length c64) (by kernel_rfl) rfl hC, fun h => absurd h (by decide)⟩
      ·exact Bool.noConfusion (hu 1 (by decide))
     | 2, _, _ =>
      rcases st with ⟨_ | b180, _ | _⟩
      ·replace hC : St w0 Z (xrow Q152 Q153 9 1 (t150.flatMap encS) :: xrow Q154 Q155 4 1 (t151.flatMap encB) :: xblk Q27 53 ([.func (.func 20) #[] #[.pointer (some ⟨Q28, 0, none⟩)]]) :: xblk Q28 25 ([.slice Q29 t24.To.length Q30, .int .u64 t24.Ends, .bool t24.Odd, .int .i64 t24.Holes]) :: xrow x83.1 x83.2.1 9 1 (t79.flatMap encS) :: xrow x83.2.2.1 x83.2.2.2 4 1 (t80.flatMap encB) :: xrow A63 c64 39 3 (((([] : List api_Pick) ++ a1) ++ ([(⟨5, 0, 0⟩ : api_Pick)] : List api_Pick)).flatMap enc_api_Pick) :: xrow (some ⟨b57, 0, none⟩) 1 39 3 (([(⟨5, 0, 0⟩ : api_Pick)] : List api_Pick).flatMap enc_api_Pick) :: xblk b39 31 ([.string t22, cond t23 (.func (.func 21) #[] #[.pointer (some ⟨Q27, 0, none⟩), .pointer (some ⟨Q28, 0, none⟩)]) .nilFunc, cond t25 (.func (.func 22) #[] #[.pointer (some ⟨Q27, 0, none⟩), .pointer (some ⟨Q28, 0, none⟩)]) .nilFunc, cond t26 (.func (.func 23) #[] #[.pointer (some ⟨Q27, 0, none⟩), .pointer (some ⟨Q28, 0, none⟩)]) .nilFunc]) :: xblk b1 25 ([.slice Aa0_0 a0.To.length ca0_0, .int .u64 a0.Ends, .bool a0.Odd, .int .i64 a0.Holes]) :: fs) w := hC
       exact ⟨fun _ => does_pure (v := .slice Aa1 a1.length ca1) (by kernel_rfl) rfl hC, fun h => absurd h (by decide)⟩
      ·exact False.elim hC
      ·replace hC : St w0 Z (xblk b180 46 (enc_api_Final (⟨0, (Vector.replicate 48 0)⟩ : api_Final)) :: xrow Q152 Q153 9 1 (t150.flatMap encS) :: xrow Q154 Q155 4 1 (t151.flatMap encB) :: xblk Q27 53 ([.func (.func 20) #[] #[.pointer (some ⟨Q28, 0, none⟩)]]) :: xblk Q28 25 ([.slice Q29 t24.To.length Q30, .int .u64 t24.Ends, .bool t24.Odd, .int .i64 t24.Holes]) :: xrow x83.1 x83.2.1 9 1 (t79.flatMap encS) :: xrow x83.2.2.1 x83.2.2.2 4 1 (t80.flatMap encB) :: xrow A63 c64 39 3 (((([] : List api_Pick) ++ a1) ++ ([(⟨5, 0, 0⟩ : api_Pick)] : List api_Pick)).flatMap enc_api_Pick) :: xrow (some ⟨b57, 0, none⟩) 1 39 3 (([(⟨5, 0, 0⟩ : api_Pick)] : List api_Pick).flatMap enc_api_Pick) :: xblk b39 31 ([.string t22, cond t23 (.func (.func 21) #[] #[.pointer (some ⟨Q27, 0, none⟩), .pointer (some ⟨Q28, 0, none⟩)]) .nilFunc, cond t25 (.func (.func 22) #[] #[.pointer (some ⟨Q27, 0, none⟩), .pointer (some ⟨Q28, 0, none⟩)]) .nilFunc, cond t26 (.func (.func 23) #[] #[.pointer (some ⟨Q27, 0, none⟩), .pointer (some ⟨Q28, 0, none⟩)]) .nilFunc]) :: xblk b1 25 ([.slice Aa0_0 a0.To.length ca0_0, .int .u64 a0.Ends, .bool a0.Odd, .int .i64 a0.Holes]) :: fs) w := hC
       exact ⟨fun _ => does_pure (v := .slice Aa1 a1.length ca1) (by kernel_rfl) rfl hC, fun h => absurd h (by decide)⟩
      ·exact Bool.noConfusion (hu 1 (by decide))
     | 3, _, _ =>
      rcases st with ⟨_ | b180, _ | _⟩
      ·replace hC : St w0 Z (xrow Q152 Q153 9 1 (t150.flatMap encS) :: xrow Q154 Q155 4 1 (t151.flatMap encB) :: xblk Q27 53 ([.func (.func 20) #[] #[.pointer (some ⟨Q28, 0, none⟩)]]) :: xblk Q28 25 ([.slice Q29 t24.To.length Q30, .int .u64 t24.Ends, .bool t24.Odd, .int .i64 t24.Holes]) :: xrow x83.1 x83.2.1 9 1 (t79.flatMap encS) :: xrow x83.2.2.1 x83.2.2.2 4 1 (t80.flatMap encB) :: xrow A63 c64 39 3 (((([] : List api_Pick) ++ a1) ++ ([(⟨5, 0, 0⟩ : api_Pick)] : List api_Pick)).flatMap enc_api_Pick) :: xrow (some ⟨b57, 0, none⟩) 1 39 3 (([(⟨5, 0, 0⟩ : api_Pick)] : List api_Pick).flatMap enc_api_Pick) :: xblk b39 31 ([.string t22, cond t23 (.func (.func 21) #[] #[.pointer (some ⟨Q27, 0, none⟩), .pointer (some ⟨Q28, 0, none⟩)]) .nilFunc, cond t25 (.func (.func 22) #[] #[.pointer (some ⟨Q27, 0, none⟩), .pointer (some ⟨Q28, 0, none⟩)]) .nilFunc, cond t26 (.func (.func 23) #[] #[.pointer (some ⟨Q27, 0, none⟩), .pointer (some ⟨Q28, 0, none⟩)]) .nilFunc]) :: xblk b1 25 ([.slice Aa0_0 a0.To.length ca0_0, .int .u64 a0.Ends, .bool a0.Odd, .int .i64 a0.Holes]) :: fs) w := hC
       exact ⟨fun _ => does_pure (v := .int .i64 (a1.length : Int)) (by kernel_rfl) rfl hC, fun h => absurd h (by decide)⟩
      ·exact False.elim hC
      ·replace hC : St w0 Z (xblk b180 46 (enc_api_Final (⟨0, (Vector.replicate 48 0)⟩ : api_Final)) :: xrow Q152 Q153 9 1 (t150.flatMap encS) :: xrow Q154 Q155 4 1 (t151.flatMap encB) :: xblk Q27 53 ([.func (.func 20) #[] #[.pointer (some ⟨Q28, 0, none⟩)]]) :: xblk Q28 25 ([.slice Q29 t24.To.length Q30, .int .u64 t24.Ends, .bool t24.Odd, .int .i64 t24.Holes]) :: xrow x83.1 x83.2.1 9 1 (t79.flatMap encS) :: xrow x83.2.2.1 x83.2.2.2 4 1 (t80.flatMap encB) :: xrow A63 c64 39 3 (((([] : List api_Pick) ++ a1) ++ ([(⟨5, 0, 0⟩ : api_Pick)] : List api_Pick)).flatMap enc_api_Pick) :: xrow (some ⟨b57, 0, none⟩) 1 39 3 (([(⟨5, 0, 0⟩ : api_Pick)] : List api_Pick).flatMap enc_api_Pick) :: xblk b39 31 ([.string t22, cond t23 (.func (.func 21) #[] #[.pointer (some ⟨Q27, 0, none⟩), .pointer (some ⟨Q28, 0, none⟩)]) .nilFunc, cond t25 (.func (.func 22) #[] #[.pointer (some ⟨Q27, 0, none⟩), .pointer (some ⟨Q28, 0, none⟩)]) .nilFunc, cond t26 (.func (.func 23) #[] #[.pointer (some ⟨Q27, 0, none⟩), .pointer (some ⟨Q28, 0, none⟩)]) .nilFunc]) :: xblk b1 25 ([.slice Aa0_0 a0.To.length ca0_0, .int .u64 a0.Ends, .bool a0.Odd, .int .i64 a0.Holes]) :: fs) w := hC
       exact ⟨fun _ => does_pure (v := .int .i64 (a1.length : Int)) (by kernel_rfl) rfl hC, fun h => absurd h (by decide)⟩
      ·exact Bool.noConfusion (hu 1 (by decide))
     | 4, _, _ =>
      rcases st with ⟨_ | b180, _ | _⟩
      ·replace hC : St w0 Z (xrow Q152 Q153 9 1 (t150.flatMap encS) :: xrow Q154 Q155 4 1 (t151.flatMap encB) :: xblk Q27 53 ([.func (.func 20) #[] #[.pointer (some ⟨Q28, 0, none⟩)]]) :: xblk Q28 25 ([.slice Q29 t24.To.length Q30, .int .u64 t24.Ends, .bool t24.Odd, .int .i64 t24.Holes]) :: xrow x83.1 x83.2.1 9 1 (t79.flatMap encS) :: xrow x83.2.2.1 x83.2.2.2 4 1 (t80.flatMap encB) :: xrow A63 c64 39 3 (((([] : List api_Pick) ++ a1) ++ ([(⟨5, 0, 0⟩ : api_Pick)] : List api_Pick)).flatMap enc_api_Pick) :: xrow (some ⟨b57, 0, none⟩) 1 39 3 (([(⟨5, 0, 0⟩ : api_Pick)] : List api_Pick).flatMap enc_api_Pick) :: xblk b39 31 ([.string t22, cond t23 (.func (.func 21) #[] #[.pointer (some ⟨Q27, 0, none⟩), .pointer (some ⟨Q28, 0, none⟩)]) .nilFunc, cond t25 (.func (.func 22) #[] #[.pointer (some ⟨Q27, 0, none⟩), .pointer (some ⟨Q28, 0, none⟩)]) .nilFunc, cond t26 (.func (.func 23) #[] #[.pointer (some ⟨Q27, 0, none⟩), .pointer (some ⟨Q28, 0, none⟩)]) .nilFunc]) :: xblk b1 25 ([.slice Aa0_0 a0.To.length ca0_0, .int .u64 a0.Ends, .bool a0.Odd, .int .i64 a0.Holes]) :: fs) w := hC
       exact ⟨fun _ => does_run (x_cutSl_nsC (t := 33) (x := (.tmp 52)) (hi := (.tmp 54)) (e := 39) (sz := 3) (A := A63) (n := ((([] : List api_Pick) ++ a1) ++ ([(⟨5, 0, 0⟩ : api_Pick)] : List api_Pick)).length) (c := c64) (k := .i64) (by kernel_rfl) (by kernel_rfl) (by kernel_rfl) (by kernel_rfl) g173 cut0 (by kernel_rfl)) rfl hC, fun h => absurd h (by decide)⟩
      ·exact False.elim hC
      ·replace hC : St w0 Z (xblk b180 46 (enc_api_Final (⟨0, (Vector.replicate 48 0)⟩ : api_Final)) :: xrow Q152 Q153 9 1 (t150.flatMap encS) :: xrow Q154 Q155 4 1 (t151.flatMap encB) :: xblk Q27 53 ([.func (.func 20) #[] #[.pointer (some ⟨Q28, 0, none⟩)]]) :: xblk Q28 25 ([.slice Q29 t24.To.length Q30, .int .u64 t24.Ends, .bool t24.Odd, .int .i64 t24.Holes]) :: xrow x83.1 x83.2.1 9 1 (t79.flatMap encS) :: xrow x83.2.2.1 x83.2.2.2 4 1 (t80.flatMap encB) :: xrow A63 c64 39 3 (((([] : List api_Pick) ++ a1) ++ ([(⟨5, 0, 0⟩ : api_Pick)] : List api_Pick)).flatMap enc_api_Pick) :: xrow (some ⟨b57, 0, none⟩) 1 39 3 (([(⟨5, 0, 0⟩ : api_Pick)] : List api_Pick).flatMap enc_api_Pick) :: xblk b39 31 ([.string t22, cond t23 (.func (.func 21) #[] #[.pointer (some ⟨Q27, 0, none⟩), .pointer (some ⟨Q28, 0, none⟩)]) .nilFunc, cond t25 (.func (.func 22) #[] #[.pointer (some ⟨Q27, 0, none⟩), .pointer (some ⟨Q28, 0, none⟩)]) .nilFunc, cond t26 (.func (.func 23) #[] #[.pointer (some ⟨Q27, 0, none⟩), .pointer (some ⟨Q28, 0, none⟩)]) .nilFunc]) :: xblk b1 25 ([.slice Aa0_0 a0.To.length ca0_0, .int .u64 a0.Ends, .bool a0.Odd, .int .i64 a0.Holes]) :: fs) w := hC
       exact ⟨fun _ => does_run (x_cutSl_nsC (t := 33) (x := (.tmp 52)) (hi := (.tmp 54)) (e := 39) (sz := 3) (A := A63) (n := ((([] : List api_Pick) ++ a1) ++ ([(⟨5, 0, 0⟩ : api_Pick)] : List api_Pick)).length) (c := c64) (k := .i64) (by kernel_rfl) (by kernel_rfl) (by kernel_rfl) (by kernel_rfl) g173 cut0 (by kernel_rfl)) rfl hC, fun h => absurd h (by decide)⟩
      ·exact Bool.noConfusion (hu 1 (by decide))
     | 5, _, _ =>
      rcases st with ⟨_ | b180, _ | _⟩
      ·replace hC : St w0 Z (xrow Q152 Q153 9 1 (t150.flatMap encS) :: xrow Q154 Q155 4 1 (t151.flatMap encB) :: xblk Q27 53 ([.func (.func 20) #[] #[.pointer (some ⟨Q28, 0, none⟩)]]) :: xblk Q28 25 ([.slice Q29 t24.To.length Q30, .int .u64 t24.Ends, .bool t24.Odd, .int .i64 t24.Holes]) :: xrow x83.1 x83.2.1 9 1 (t79.flatMap encS) :: xrow x83.2.2.1 x83.2.2.2 4 1 (t80.flatMap encB) :: xrow A63 c64 39 3 (((([] : List api_Pick) ++ a1) ++ ([(⟨5, 0, 0⟩ : api_Pick)] : List api_Pick)).flatMap enc_api_Pick) :: xrow (some ⟨b57, 0, none⟩) 1 39 3 (([(⟨5, 0, 0⟩ : api_Pick)] : List api_Pick).flatMap enc_api_Pick) :: xblk b39 31 ([.string t22, cond t23 (.func (.func 21) #[] #[.pointer (some ⟨Q27, 0, none⟩), .pointer (some ⟨Q28, 0, none⟩)]) .nilFunc, cond t25 (.func (.func 22) #[] #[.pointer (some ⟨Q27, 0, none⟩), .pointer (some ⟨Q28, 0, none⟩)]) .nilFunc, cond t26 (.func (.func 23) #[] #[.pointer (some ⟨Q27, 0, none⟩), .pointer (some ⟨Q28, 0, none⟩)]) .nilFunc]) :: xblk b1 25 ([.slice Aa0_0 a0.To.length ca0_0, .int .u64 a0.Ends, .bool a0.Odd, .int .i64 a0.Holes]) :: fs) w := hC
       exact ⟨fun _ => (by have hS182 := hC.pick6; obtain ⟨Z183, hz184, hS185, hs186, hb187⟩ := hS182.lendrow len_api_Pick (by omega); have hS188 := hS185.pick3; have hS189 := hS188.pick3; refine does_call (g := 12) (args := #[.agg #[.string t22, cond t23 (.func (.func 21) #[] #[.pointer (some ⟨Q27, 0, none⟩), .pointer (some ⟨Q28, 0, none⟩)]) .nilFunc, cond t25 (.func (.func 22) #[] #[.pointer (some ⟨Q27, 0, none⟩), .pointer (some ⟨Q28, 0, none⟩)]) .nilFunc, cond t26 (.func (.func 23) #[] #[.pointer (some ⟨Q27, 0, none⟩), .pointer (some ⟨Q28, 0, none⟩)]) .nilFunc], .slice A63 ((a1.length : Int).toNat) c64]) (by kernel_rfl) (args_eq (by rw [lenTake g174]) (script_Outcome.ok t22 t23 (⟨t24.To, t24.Ends, t24.Odd, t24.Holes⟩ : weirlaw15_Graph) t25 t26 (((([] : List api_Pick) ++ a1) ++ ([(⟨5, 0, 0⟩ : api_Pick)] : List api_Pick)).take ((a1.length : Int).toNat)) Q27 Q28 Q29 Q30 A63 c64 hS189 (SlZ.mono (mono_repL (mono_flat _)) hs38 hz184) (hs186.take0 ((a1.length : Int).toNat)) hr178)) ?_; rintro e w2 ⟨rfl, h2⟩; have hS190 := hb187 _ _ h2; have hS191 := hS190.pick9; have hS192 := hS191.pick9; have hS193 := hS192.pick9; have hS194 := hS193.pick3; have hS195 := hS194.pick9; have hS196 := hS195.pick9; have hS197 := hS196.pick7; have hS198 := hS197.pick7; have hS199 := hS198.pick9; have hS200 := hS199.pick9; exact ⟨_, rfl, rfl, hS200⟩), fun h => absurd h (by decide)⟩
      ·exact False.elim hC
      ·replace hC : St w0 Z (xblk b180 46 (enc_api_Final (⟨0, (Vector.replicate 48 0)⟩ : api_Final)) :: xrow Q152 Q153 9 1 (t150.flatMap encS) :: xrow Q154 Q155 4 1 (t151.flatMap encB) :: xblk Q27 53 ([.func (.func 20) #[] #[.pointer (some ⟨Q28, 0, none⟩)]]) :: xblk Q28 25 ([.slice Q29 t24.To.length Q30, .int .u64 t24.Ends, .bool t24.Odd, .int .i64 t24.Holes]) :: xrow x83.1 x83.2.1 9 1 (t79.flatMap encS) :: xrow x83.2.2.1 x83.2.2.2 4 1 (t80.flatMap encB) :: xrow A63 c64 39 3 (((([] : List api_Pick) ++ a1) ++ ([(⟨5, 0, 0⟩ : api_Pick)] : List api_Pick)).flatMap enc_api_Pick) :: xrow (some ⟨b57, 0, none⟩) 1 39 3 (([(⟨5, 0, 0⟩ : api_Pick)] : List api_Pick).flatMap enc_api_Pick) :: xblk b39 31 ([.string t22, cond t23 (.func (.func 21) #[] #[.pointer (some ⟨Q27, 0, none⟩), .pointer (some ⟨Q28, 0, none⟩)]) .nilFunc, cond t25 (.func (.func 22) #[] #[.pointer (some ⟨Q27, 0, none⟩), .pointer (some ⟨Q28, 0, none⟩)]) .nilFunc, cond t26 (.func (.func 23) #[] #[.pointer (some ⟨Q27, 0, none⟩), .pointer (some ⟨Q28, 0, none⟩)]) .nilFunc]) :: xblk b1 25 ([.slice Aa0_0 a0.To.length ca0_0, .int .u64 a0.Ends, .bool a0.Odd, .int .i64 a0.Holes]) :: fs) w := hC
       exact ⟨fun _ => (by have hS201 := hC.pick7; obtain ⟨Z202, hz203, hS204, hs205, hb206⟩ := hS201.lendrow len_api_Pick (by omega); have hS207 := hS204.pick4; have hS208 := hS207.pick4; refine does_call (g := 12) (args := #[.agg #[.string t22, cond t23 (.func (.func 21) #[] #[.pointer (some ⟨Q27, 0, none⟩), .pointer (some ⟨Q28, 0, none⟩)]) .nilFunc, cond t25 (.func (.func 22) #[] #[.pointer (some ⟨Q27, 0, none⟩), .pointer (some ⟨Q28, 0, none⟩)]) .nilFunc, cond t26 (.func (.func 23) #[] #[.pointer (some ⟨Q27, 0, none⟩), .pointer (some ⟨Q28, 0, none⟩)]) .nilFunc], .slice A63 ((a1.length : Int).toNat) c64]) (by kernel_rfl) (args_eq (by rw [lenTake g174]) (script_Outcome.ok t22 t23 (⟨t24.To, t24.Ends, t24.Odd, t24.Holes⟩ : weirlaw15_Graph) t25 t26 (((([] : List api_Pick) ++ a1) ++ ([(⟨5, 0, 0⟩ : api_Pick)] : List api_Pick)).take ((a1.length : Int).toNat)) Q27 Q28 Q29 Q30 A63 c64 hS208 (SlZ.mono (mono_repL (mono_flat _)) hs38 hz203) (hs205.take0 ((a1.length : Int).toNat)) hr178)) ?_; rintro e w2 ⟨rfl, h2⟩; have hS209 := hb206 _ _ h2; have hS210 := hS209.pick10; have hS211 := hS210.pick10; have hS212 := hS211.pick10; have hS213 := hS212.pick3; have hS214 := hS213.pick10; have hS215 := hS214.pick10; have hS216 := hS215.pick7; have hS217 := hS216.pick7; have hS218 := hS217.pick10; have hS219 := hS218.pick10; have hS220 := hS219.pick10; exact ⟨_, rfl, rfl, hS220⟩), fun h => absurd h (by decide)⟩
      ·exact Bool.noConfusion (hu 1 (by decide))
     | 6, _, _ =>
      rcases st with ⟨_ | b180, _ | _⟩
      ·replace hC : St w0 Z (xrow Q152 Q153 9 1 (t150.flatMap encS) :: xrow Q154 Q155 4 1 (t151.flatMap encB) :: xblk Q27 53 ([.func (.func 20) #[] #[.pointer (some ⟨Q28, 0, none⟩)]]) :: xblk Q28 25 ([.slice Q29 t24.To.length Q30, .int .u64 t24.Ends, .bool t24.Odd, .int .i64 t24.Holes]) :: xrow x83.1 x83.2.1 9 1 (t79.flatMap encS) :: xrow x83.2.2.1 x83.2.2.2 4 1 (t80.flatMap encB) :: xrow A63 c64 39 3 (((([] : List api_Pick) ++ a1) ++ ([(⟨5, 0, 0⟩ : api_Pick)] : List api_Pick)).flatMap enc_api_Pick) :: xrow (some ⟨b57, 0, none⟩) 1 39 3 (([(⟨5, 0, 0⟩ : api_Pick)] : List api_Pick).flatMap enc_api_Pick) :: xblk b39 31 ([.string t22, cond t23 (.func (.func 21) #[] #[.pointer (some ⟨Q27, 0, none⟩), .pointer (some ⟨Q28, 0, none⟩)]) .nilFunc, cond t25 (.func (.func 22) #[] #[.pointer (some ⟨Q27, 0, none⟩), .pointer (some ⟨Q28, 0, none⟩)]) .nilFunc, cond t26 (.func (.func 23) #[] #[.pointer (some ⟨Q27, 0, none⟩), .pointer (some ⟨Q28, 0, none⟩)]) .nilFunc]) :: xblk b1 25 ([.slice Aa0_0 a0.To.length ca0_0, .int .u64 a0.Ends, .bool a0.Odd, .int .i64 a0.Holes]) :: fs) w := hC
       exact ⟨fun _ => does_pure (v := .tuple #[.agg (enc_api_Final t176).toArray, .bool t177]) (by kernel_rfl) rfl hC, fun h => absurd h (by decide)⟩
      ·exact False.elim hC
      ·replace hC : St w0 Z (xblk b180 46 (enc_api_Final (⟨0, (Vector.replicate 48 0)⟩ : api_Final)) :: xrow Q152 Q153 9 1 (t150.flatMap encS) :: xrow Q154 Q155 4 1 (t151.flatMap encB) :: xblk Q27 53 ([.func (.func 20) #[] #[.pointer (some ⟨Q28, 0, none⟩)]]) :: xblk Q28 25 ([.slice Q29 t24.To.length Q30, .int .u64 t24.Ends, .bool t24.Odd, .int .i64 t24.Holes]) :: xrow x83.1 x83.2.1 9 1 (t79.flatMap encS) :: xrow x83.2.2.1 x83.2.2.2 4 1 (t80.flatMap encB) :: xrow A63 c64 39 3 (((([] : List api_Pick) ++ a1) ++ ([(⟨5, 0, 0⟩ : api_Pick)] : List api_Pick)).flatMap enc_api_Pick) :: xrow (some ⟨b57, 0, none⟩) 1 39 3 (([(⟨5, 0, 0⟩ : api_Pick)] : List api_Pick).flatMap enc_api_Pick) :: xblk b39 31 ([.string t22, cond t23 (.func (.func 21) #[] #[.pointer (some ⟨Q27, 0, none⟩), .pointer (some ⟨Q28, 0, none⟩)]) .nilFunc, cond t25 (.func (.func 22) #[] #[.pointer (some ⟨Q27, 0, none⟩), .pointer (some ⟨Q28, 0, none⟩)]) .nilFunc, cond t26 (.func (.func 23) #[] #[.pointer (some ⟨Q27, 0, none⟩), .pointer (some ⟨Q28, 0, none⟩)]) .nilFunc]) :: xblk b1 25 ([.slice Aa0_0 a0.To.length ca0_0, .int .u64 a0.Ends, .bool a0.Odd, .int .i64 a0.Holes]) :: fs) w := hC
       exact ⟨fun _ => does_pure (v := .tuple #[.agg (enc_api_Final t176).toArray, .bool t177]) (by kernel_rfl) rfl hC, fun h => absurd h (by decide)⟩
      ·exact Bool.noConfusion (hu 1 (by decide))
     | 7, _, _ =>
      rcases st with ⟨_ | b180, _ | _⟩
      ·replace hC : St w0 Z (xrow Q152 Q153 9 1 (t150.flatMap encS) :: xrow Q154 Q155 4 1 (t151.flatMap encB) :: xblk Q27 53 ([.func (.func 20) #[] #[.pointer (some ⟨Q28, 0, none⟩)]]) :: xblk Q28 25 ([.slice Q29 t24.To.length Q30, .int .u64 t24.Ends, .bool t24.Odd, .int .i64 t24.Holes]) :: xrow x83.1 x83.2.1 9 1 (t79.flatMap encS) :: xrow x83.2.2.1 x83.2.2.2 4 1 (t80.flatMap encB) :: xrow A63 c64 39 3 (((([] : List api_Pick) ++ a1) ++ ([(⟨5, 0, 0⟩ : api_Pick)] : List api_Pick)).flatMap enc_api_Pick) :: xrow (some ⟨b57, 0, none⟩) 1 39 3 (([(⟨5, 0, 0⟩ : api_Pick)] : List api_Pick).flatMap enc_api_Pick) :: xblk b39 31 ([.string t22, cond t23 (.func (.func 21) #[] #[.pointer (some ⟨Q27, 0, none⟩), .pointer (some ⟨Q28, 0, none⟩)]) .nilFunc, cond t25 (.func (.func 22) #[] #[.pointer (some ⟨Q27, 0, none⟩), .pointer (some ⟨Q28, 0, none⟩)]) .nilFunc, cond t26 (.func (.func 23) #[] #[.pointer (some ⟨Q27, 0, none⟩), .pointer (some ⟨Q28, 0, none⟩)]) .nilFunc]) :: xblk b1 25 ([.slice Aa0_0 a0.To.length ca0_0, .int .u64 a0.Ends, .bool a0.Odd, .int .i64 a0.Holes]) :: fs) w := hC
       exact ⟨fun _ => does_pure (v := .agg (enc_api_Final t176).toArray) (by kernel_rfl) rfl hC, fun h => absurd h (by decide)⟩
      ·exact False.elim hC
      ·replace hC : St w0 Z (xblk b180 46 (enc_api_Final (⟨0, (Vector.replicate 48 0)⟩ : api_Final)) :: xrow Q152 Q153 9 1 (t150.flatMap encS) :: xrow Q154 Q155 4 1 (t151.flatMap encB) :: xblk Q27 53 ([.func (.func 20) #[] #[.pointer (some ⟨Q28, 0, none⟩)]]) :: xblk Q28 25 ([.slice Q29 t24.To.length Q30, .int .u64 t24.Ends, .bool t24.Odd, .int .i64 t24.Holes]) :: xrow x83.1 x83.2.1 9 1 (t79.flatMap encS) :: xrow x83.2.2.1 x83.2.2.2 4 1 (t80.flatMap encB) :: xrow A63 c64 39 3 (((([] : List api_Pick) ++ a1) ++ ([(⟨5, 0, 0⟩ : api_Pick)] : List api_Pick)).flatMap enc_api_Pick) :: xrow (some ⟨b57, 0, none⟩) 1 39 3 (([(⟨5, 0, 0⟩ : api_Pick)] : List api_Pick).flatMap enc_api_Pick) :: xblk b39 31 ([.string t22, cond t23 (.func (.func 21) #[] #[.pointer (some ⟨Q27, 0, none⟩), .pointer (some ⟨Q28, 0, none⟩)]) .nilFunc, cond t25 (.func (.func 22) #[] #[.pointer (some ⟨Q27, 0, none⟩), .pointer (some ⟨Q28, 0, none⟩)]) .nilFunc, cond t26 (.func (.func 23) #[] #[.pointer (some ⟨Q27, 0, none⟩), .pointer (some ⟨Q28, 0, none⟩)]) .nilFunc]) :: xblk b1 25 ([.slice Aa0_0 a0.To.length ca0_0, .int .u64 a0.Ends, .bool a0.Odd, .int .i64 a0.Holes]) :: fs) w := hC
       exact ⟨fun _ => does_pure (v := .agg (enc_api_Final t176).toArray) (by kernel_rfl) rfl hC, fun h => absurd h (by decide)⟩
      ·exact Bool.noConfusion (hu 1 (by decide))
     | 8, _, _ =>
      rcases st with ⟨_ | b180, _ | _⟩
      ·replace hC : St w0 Z (xrow Q152 Q153 9 1 (t150.flatMap encS) :: xrow Q154 Q155 4 1 (t151.flatMap encB) :: xblk Q27 53 ([.func (.func 20) #[] #[.pointer (some ⟨Q28, 0, none⟩)]]) :: xblk Q28 25 ([.slice Q29 t24.To.length Q30, .int .u64 t24.Ends, .bool t24.Odd, .int .i64 t24.Holes]) :: xrow x83.1 x83.2.1 9 1 (t79.flatMap encS) :: xrow x83.2.2.1 x83.2.2.2 4 1 (t80.flatMap encB) :: xrow A63 c64 39 3 (((([] : List api_Pick) ++ a1) ++ ([(⟨5, 0, 0⟩ : api_Pick)] : List api_Pick)).flatMap enc_api_Pick) :: xrow (some ⟨b57, 0, none⟩) 1 39 3 (([(⟨5, 0, 0⟩ : api_Pick)] : List api_Pick).flatMap enc_api_Pick) :: xblk b39 31 ([.string t22, cond t23 (.func (.func 21) #[] #[.pointer (some ⟨Q27, 0, none⟩), .pointer (some ⟨Q28, 0, none⟩)]) .nilFunc, cond t25 (.func (.func 22) #[] #[.pointer (some ⟨Q27, 0, none⟩), .pointer (some ⟨Q28, 0, none⟩)]) .nilFunc, cond t26 (.func (.func 23) #[] #[.pointer (some ⟨Q27, 0, none⟩), .pointer (some ⟨Q28, 0, none⟩)]) .nilFunc]) :: xblk b1 25 ([.slice Aa0_0 a0.To.length ca0_0, .int .u64 a0.Ends, .bool a0.Odd, .int .i64 a0.Holes]) :: fs) w := hC
       exact ⟨fun _ => does_pure (v := .bool t177) (by kernel_rfl) rfl hC, fun h => absurd h (by decide)⟩
      ·exact False.elim hC
      ·replace hC : St w0 Z (xblk b180 46 (enc_api_Final (⟨0, (Vector.replicate 48 0)⟩ : api_Final)) :: xrow Q152 Q153 9 1 (t150.flatMap encS) :: xrow Q154 Q155 4 1 (t151.flatMap encB) :: xblk Q27 53 ([.func (.func 20) #[] #[.pointer (some ⟨Q28, 0, none⟩)]]) :: xblk Q28 25 ([.slice Q29 t24.To.length Q30, .int .u64 t24.Ends, .bool t24.Odd, .int .i64 t24.Holes]) :: xrow x83.1 x83.2.1 9 1 (t79.flatMap encS) :: xrow x83.2.2.1 x83.2.2.2 4 1 (t80.flatMap encB) :: xrow A63 c64 39 3 (((([] : List api_Pick) ++ a1) ++ ([(⟨5, 0, 0⟩ : api_Pick)] : List api_Pick)).flatMap enc_api_Pick) :: xrow (some ⟨b57, 0, none⟩) 1 39 3 (([(⟨5, 0, 0⟩ : api_Pick)] : List api_Pick).flatMap enc_api_Pick) :: xblk b39 31 ([.string t22, cond t23 (.func (.func 21) #[] #[.pointer (some ⟨Q27, 0, none⟩), .pointer (some ⟨Q28, 0, none⟩)]) .nilFunc, cond t25 (.func (.func 22) #[] #[.pointer (some ⟨Q27, 0, none⟩), .pointer (some ⟨Q28, 0, none⟩)]) .nilFunc, cond t26 (.func (.func 23) #[] #[.pointer (some ⟨Q27, 0, none⟩), .pointer (some ⟨Q28, 0, none⟩)]) .nilFunc]) :: xblk b1 25 ([.slice Aa0_0 a0.To.length ca0_0, .int .u64 a0.Ends, .bool a0.Odd, .int .i64 a0.Holes]) :: fs) w := hC
       exact ⟨fun _ => does_pure (v := .bool t177) (by kernel_rfl) rfl hC, fun h => absurd h (by decide)⟩
      ·replace hC : St w0 Z (xblk b180 46 (enc_api_Final t176) :: xrow Q152 Q153 9 1 (t150.flatMap encS) :: xrow Q154 Q155 4 1 (t151.flatMap encB) :: xblk Q27 53 ([.func (.func 20) #[] #[.pointer (some ⟨Q28, 0, none⟩)]]) :: xblk Q28 25 ([.slice Q29 t24.To.length Q30, .int .u64 t24.Ends, .bool t24.Odd, .int .i64 t24.Holes]) :: xrow x83.1 x83.2.1 9 1 (t79.flatMap encS) :: xrow x83.2.2.1 x83.2.2.2 4 1 (t80.flatMap encB) :: xrow A63 c64 39 3 (((([] : List api_Pick) ++ a1) ++ ([(⟨5, 0, 0⟩ : api_Pick)] : List api_Pick)).flatMap enc_api_Pick) :: xrow (some ⟨b57, 0, none⟩) 1 39 3 (([(⟨5, 0, 0⟩ : api_Pick)] : List api_Pick).flatMap enc_api_Pick) :: xblk b39 31 ([.string t22, cond t23 (.func (.func 21) #[] #[.pointer (some ⟨Q27, 0, none⟩), .pointer (some ⟨Q28, 0, none⟩)]) .nilFunc, cond t25 (.func (.func 22) #[] #[.pointer (some ⟨Q27, 0, none⟩), .pointer (some ⟨Q28, 0, none⟩)]) .nilFunc, cond t26 (.func (.func 23) #[] #[.pointer (some ⟨Q27, 0, none⟩), .pointer (some ⟨Q28, 0, none⟩)]) .nilFunc]) :: xblk b1 25 ([.slice Aa0_0 a0.To.length ca0_0, .int .u64 a0.Ends, .bool a0.Odd, .int .i64 a0.Holes]) :: fs) w := hC
       exact ⟨fun _ => does_pure (v := .bool t177) (by kernel_rfl) rfl hC, fun h => absurd h (by decide)⟩
     | 9, _, he => exact absurd he (by decide)
     | 10, _, he => exact absurd he (by decide)
     | 11, _, _ =>
      rcases st with ⟨_ | b180, _ | _⟩
      ·exact Bool.noConfusion (hd 0 (by decide))
      ·exact False.elim hC
      ·exact Bool.noConfusion (hd 1 (by decide))
      ·replace hC : St w0 Z (xblk b180 46 (enc_api_Final t176) :: xrow Q152 Q153 9 1 (t150.flatMap encS) :: xrow Q154 Q155 4 1 (t151.flatMap encB) :: xblk Q27 53 ([.func (.func 20) #[] #[.pointer (some ⟨Q28, 0, none⟩)]]) :: xblk Q28 25 ([.slice Q29 t24.To.length Q30, .int .u64 t24.Ends, .bool t24.Odd, .int .i64 t24.Holes]) :: xrow x83.1 x83.2.1 9 1 (t79.flatMap encS) :: xrow x83.2.2.1 x83.2.2.2 4 1 (t80.flatMap encB) :: xrow A63 c64 39 3 (((([] : List api_Pick) ++ a1) ++ ([(⟨5, 0, 0⟩ : api_Pick)] : List api_Pick)).flatMap enc_api_Pick) :: xrow (some ⟨b57, 0, none⟩) 1 39 3 (([(⟨5, 0, 0⟩ : api_Pick)] : List api_Pick).flatMap enc_api_Pick) :: xblk b39 31 ([.string t22, cond t23 (.func (.func 21) #[] #[.pointer (some ⟨Q27, 0, none⟩), .pointer (some ⟨Q28, 0, none⟩)]) .nilFunc, cond t25 (.func (.func 22) #[] #[.pointer (some ⟨Q27, 0, none⟩), .pointer (some ⟨Q28, 0, none⟩)]) .nilFunc, cond t26 (.func (.func 23) #[] #[.pointer (some ⟨Q27, 0, none⟩), .pointer (some ⟨Q28, 0, none⟩)]) .nilFunc]) :: xblk b1 25 ([.slice Aa0_0 a0.To.length ca0_0, .int .u64 a0.Ends, .bool a0.Odd, .int .i64 a0.Holes]) :: fs) w := hC
       exact ⟨fun _ => does_pure (v := .bool t177) (by kernel_rfl) rfl hC, fun h => absurd h (by decide)⟩
     | i + 12, hi, _ => exact absurd hi (by omega)
    ·intro k hk st w hC hr hm
     match k, hk with
     | 0, _ =>
      rcases st with ⟨_ | b180, _ | _⟩
      ·replace hC : St w0 Z (xrow Q152 Q153 9 1 (t150.flatMap encS) :: xrow Q154 Q155 4 1 (t151.flatMap encB) :: xblk Q27 53 ([.func (.func 20) #[] #[.pointer (some ⟨Q28, 0, none⟩)]]) :: xblk Q28 25 ([.slice Q29 t24.To.length Q30, .int .u64 t24.Ends, .bool t24.Odd, .int .i64 t24.Holes]) :: xrow x83.1 x83.2.1 9 1 (t79.flatMap encS) :: xrow x83.2.2.1 x83.2.2.2 4 1 (t80.flatMap encB) :: xrow A63 c64 39 3 (((([] : List api_Pick) ++ a1) ++ ([(⟨5, 0, 0⟩ : api_Pick)] : List api_Pick)).flatMap enc_api_Pick) :: xrow (some ⟨b57, 0, none⟩) 1 39 3 (([(⟨5, 0, 0⟩ : api_Pick)] : List api_Pick).flatMap enc_api_Pick) :: xblk b39 31 ([.string t22, cond t23 (.func (.func 21) #[] #[.pointer (some ⟨Q27, 0, none⟩), .pointer (some ⟨Q28, 0, none⟩)]) .nilFunc, cond t25 (.func (.func 22) #[] #[.pointer (some ⟨Q27, 0, none⟩), .pointer (some ⟨Q28, 0, none⟩)]) .nilFunc, cond t26 (.func (.func 23) #[] #[.pointer (some ⟨Q27, 0, none⟩), .pointer (some ⟨Q28, 0, none⟩)]) .nilFunc]) :: xblk b1 25 ([.slice Aa0_0 a0.To.length ca0_0, .int .u64 a0.Ends, .bool a0.Odd, .int .i64 a0.Holes]) :: fs) w := hC
       refine does_alloc (t := 46) (z := .agg (enc_api_Final (⟨0, (Vector.replicate 48 0)⟩ : api_Final)).toArray) (cs := enc_api_Final (⟨0, (Vector.replicate 48 0)⟩ : api_Final)) hC (by kernel_rfl) (by kernel_rfl) (by kernel_rfl) ?_
       intro b180 w2 h2
       have h2 := h2.pick10
       have h2 := h2.pick10
       have h2 := h2.pick10
       have h2 := h2.pick10
       have h2 := h2.pick10
       have h2 := h2.pick10
       have h2 := h2.pick10
       have h2 := h2.pick10
       have h2 := h2.pick10
       have h2 := h2.pick10
       have h2 := h2.pick10
       refine ⟨(some b180, none), rfl, ?_, ?_, .inr rfl, h2⟩
       ·intro m hne; match m, hne with
        | 0, hne => exact absurd rfl hne
        | 1, hne => exact rfl
        | m + 2, _ => exact rfl
       ·intro j hj; match j, hj with
        | 0, hj => exact rfl
        | 1, hj => exact rfl
        | 2, hj => exact rfl
        | 3, hj => exact rfl
        | 4, hj => exact rfl
        | 5, hj => exact rfl
        | 6, hj => exact rfl
        | 7, hj => exact rfl
        | 8, hj => exact rfl
        | 9, hj => exact absurd (by decide) hj
        | 10, hj => exact absurd (by decide) hj
        | 11, hj => exact absurd (by decide) hj
        | j + 12, _ => exact rfl
      ·exact False.elim hC
      ·exact Bool.noConfusion hr
      ·exact Bool.noConfusion hr
     | 1, _ =>
      rcases st with ⟨_ | b180, _ | _⟩
      ·exact Bool.noConfusion (hm 0 (by decide))
      ·exact False.elim hC
      ·replace hC : St w0 Z (xblk b180 46 (enc_api_Final (⟨0, (Vector.replicate 48 0)⟩ : api_Final)) :: xrow Q152 Q153 9 1 (t150.flatMap encS) :: xrow Q154 Q155 4 1 (t151.flatMap encB) :: xblk Q27 53 ([.func (.func 20) #[] #[.pointer (some ⟨Q28, 0, none⟩)]]) :: xblk Q28 25 ([.slice Q29 t24.To.length Q30, .int .u64 t24.Ends, .bool t24.Odd, .int .i64 t24.Holes]) :: xrow x83.1 x83.2.1 9 1 (t79.flatMap encS) :: xrow x83.2.2.1 x83.2.2.2 4 1 (t80.flatMap encB) :: xrow A63 c64 39 3 (((([] : List api_Pick) ++ a1) ++ ([(⟨5, 0, 0⟩ : api_Pick)] : List api_Pick)).flatMap enc_api_Pick) :: xrow (some ⟨b57, 0, none⟩) 1 39 3 (([(⟨5, 0, 0⟩ : api_Pick)] : List api_Pick).flatMap enc_api_Pick) :: xblk b39 31 ([.string t22, cond t23 (.func (.func 21) #[] #[.pointer (some ⟨Q27, 0, none⟩), .pointer (some ⟨Q28, 0, none⟩)]) .nilFunc, cond t25 (.func (.func 22) #[] #[.pointer (some ⟨Q27, 0, none⟩), .pointer (some ⟨Q28, 0, none⟩)]) .nilFunc, cond t26 (.func (.func 23) #[] #[.pointer (some ⟨Q27, 0, none⟩), .pointer (some ⟨Q28, 0, none⟩)]) .nilFunc]) :: xblk b1 25 ([.slice Aa0_0 a0.To.length ca0_0, .int .u64 a0.Ends, .bool a0.Odd, .int .i64 a0.Holes]) :: fs) w := hC
       refine does_storeG (t := 46) (x := (.tmp 11)) (y := (.tmp 57)) (b := b180) (o := 0) (e := 46) (cs := enc_api_Final (⟨0, (Vector.replicate 48 0)⟩ : api_Final)) (v := .agg (enc_api_Final t176).toArray) (vs := enc_api_Final t176) (cs' := enc_api_Final t176) hC (by kernel_rfl) (by kernel_rfl) (by kernel_rfl) (by kernel_rfl) (by kernel_rfl) (lenK (len_api_Final _) (by kernel_rfl)) (one_api_Final _) (by simp only [len_api_Final, List.length_cons, List.length_nil, List.length_append]; omega) (over_all ((len_api_Final _).trans (len_api_Final _).symm)) ?_
       intro w2 h2
       have h2 := h2.pick10
       have h2 := h2.pick10
       have h2 := h2.pick10
       have h2 := h2.pick10
       have h2 := h2.pick10
       have h2 := h2.pick10
       have h2 := h2.pick10
       have h2 := h2.pick10
       have h2 := h2.pick10
       have h2 := h2.pick10
       have h2 := h2.pick10
       refine ⟨(some b180, some ()), rfl, ?_, ?_, .inl rfl, h2⟩
       ·intro m hne; match m, hne with
        | 0, hne => exact rfl
        | 1, hne => exact absurd rfl hne
        | m + 2, _ => exact rfl
       ·intro j hj; match j, hj with
        | 0, hj => exact rfl
        | 1, hj => exact rfl
        | 2, hj => exact rfl
        | 3, hj => exact rfl
        | 4, hj => exact rfl
        | 5, hj => exact rfl
        | 6, hj => exact rfl
        | 7, hj => exact rfl
        | 8, hj => exact rfl
        | 9, hj => exact rfl
        | 10, hj => exact absurd (by decide) hj
        | 11, hj => exact absurd (by decide) hj
        | j + 12, _ => exact rfl
      ·exact Bool.noConfusion hr
     | k + 2, hk => exact absurd hk (by simp)
    intro st224 w221 hS222 hr223
    rcases st224 with ⟨_ | b180, _ | _⟩
    ·exact Bool.noConfusion (hr223 0 (Nat.lt_of_sub_eq_succ rfl))
    ·exact Bool.noConfusion (hr223 0 (Nat.lt_of_sub_eq_succ rfl))
    ·exact Bool.noConfusion (hr223 1 (Nat.lt_of_sub_eq_succ rfl))
    replace hS222 : St w0 Z (xblk b180 46 (enc_api_Final t176) :: xrow Q152 Q153 9 1 (t150.flatMap encS) :: xrow Q154 Q155 4 1 (t151.flatMap encB) :: xblk Q27 53 ([.func (.func 20) #[] #[.pointer (some ⟨Q28, 0, none⟩)]]) :: xblk Q28 25 ([.slice Q29 t24.To.length Q30, .int .u64 t24.Ends, .bool t24.Odd, .int .i64 t24.Holes]) :: xrow x83.1 x83.2.1 9 1 (t79.flatMap encS) :: xrow x83.2.2.1 x83.2.2.2 4 1 (t80.flatMap encB) :: xrow A63 c64 39 3 (((([] : List api_Pick) ++ a1) ++ ([(⟨5, 0, 0⟩ : api_Pick)] : List api_Pick)).flatMap enc_api_Pick) :: xrow (some ⟨b57, 0, none⟩) 1 39 3 (([(⟨5, 0, 0⟩ : api_Pick)] : List api_Pick).flatMap enc_api_Pick) :: xblk b39 31 ([.string t22, cond t23 (.func (.func 21) #[] #[.pointer (some ⟨Q27, 0, none⟩), .pointer (some ⟨Q28, 0, none⟩)]) .nilFunc, cond t25 (.func (.func 22) #[] #[.pointer (some ⟨Q27, 0, none⟩), .pointer (some ⟨Q28, 0, none⟩)]) .nilFunc, cond t26 (.func (.func 23) #[] #[.pointer (some ⟨Q27, 0, none⟩), .pointer (some ⟨Q28, 0, none⟩)]) .nilFunc]) :: xblk b1 25 ([.slice Aa0_0 a0.To.length ca0_0, .int .u64 a0.Ends, .bool a0.Odd, .int .i64 a0.Holes]) :: fs) w221 := hS222
    refine sx_run 2 (todo' := [.inRegion (opsOf (cd4 [1, 1, 1, 1, 1, 1, 1, 0])) [0, 1, 2, 3, 4, 5, 6, 7, 8], .code (cd4 [1, 1, 1, 1, 1, 1, 1, 1])]) (us := []) (by kernel_rfl) ?_
    refine r_load (c := (cd4 [1, 1, 1, 1, 1, 1, 1, 0])) (i := 0) (d := (some 60)) (ty := 31) (t := 31) (x := (.tmp 5)) (p := ⟨b39, 0, none⟩) (v := .agg #[.string t22, cond t23 (.func (.func 21) #[] #[.pointer (some ⟨Q27, 0, none⟩), .pointer (some ⟨Q28, 0, none⟩)]) .nilFunc, cond t25 (.func (.func 22) #[] #[.pointer (some ⟨Q27, 0, none⟩), .pointer (some ⟨Q28, 0, none⟩)]) .nilFunc, cond t26 (.func (.func 23) #[] #[.pointer (some ⟨Q27, 0, none⟩), .pointer (some ⟨Q28, 0, none⟩)]) .nilFunc]) (by kernel_rfl) (by kernel_rfl) (by kernel_rfl) (loads_agg (hS222.blk 9 rfl) (by kernel_rfl) (by kernel_rfl)) ?_
    refine sx_run 1 (todo' := [.inRegion (opsOf (cd4 [1, 1, 1, 1, 1, 1, 1, 0])) [2, 3, 4, 5, 6, 7, 8], .code (cd4 [1, 1, 1, 1, 1, 1, 1, 1])]) (us := [(61, .slice Aa1 a1.length ca1)]) (by kernel_rfl) ?_
    obtain ⟨⟨t225, t226⟩, hr227, hp228⟩ := bind_some' hp179
    try dsimp only at hp228
    have hS230 := hS222.pick4
    have hS231 := hS230.pick4
    refine r_call1 (c := (cd4 [1, 1, 1, 1, 1, 1, 1, 0])) (i := 2) (d := (some 62)) (g := 13) (args := #[.agg #[.string t22, cond t23 (.func (.func 21) #[] #[.pointer (some ⟨Q27, 0, none⟩), .pointer (some ⟨Q28, 0, none⟩)]) .nilFunc, cond t25 (.func (.func 22) #[] #[.pointer (some ⟨Q27, 0, none⟩), .pointer (some ⟨Q28, 0, none⟩)]) .nilFunc, cond t26 (.func (.func 23) #[] #[.pointer (some ⟨Q27, 0, none⟩), .pointer (some ⟨Q28, 0, none⟩)]) .nilFunc], .slice Aa1 a1.length ca1]) (by kernel_rfl) (by kernel_rfl) (by kernel_rfl) (by kernel_rfl) (weirref15_Outcome.ok t22 t23 (⟨t24.To, t24.Ends, t24.Odd, t24.Holes⟩ : weirlaw15_Graph) t25 t26 a1 Q27 Q28 Q29 Q30 Aa1 ca1 hS231 hs38 ha1 hr227) ?_
    rintro _ w232 ⟨rfl, hS233⟩
    refine ⟨.tuple #[.agg (enc_api_Final t225).toArray, .bool t226], rfl, ?_⟩
    refine sx_run 3 (todo' := [.inRegion (opsOf (cd4 [1, 1, 1, 1, 1, 1, 1, 0])) [6, 7, 8], .code (cd4 [1, 1, 1, 1, 1, 1, 1, 1])]) (us := [(59, .tuple #[.agg (enc_api_Final t225).toArray, .bool t226]), (63, .agg (enc_api_Final t225).toArray), (64, .bool t226)]) (by kernel_rfl) ?_
    refine r_alloc (c := (cd4 [1, 1, 1, 1, 1, 1, 1, 0])) (i := 6) (d := (some 13)) (ty := 0) (z := .agg (enc_api_Final (⟨0, (Vector.replicate 48 0)⟩ : api_Final)).toArray) (t := 46) (cs := enc_api_Final (⟨0, (Vector.replicate 48 0)⟩ : api_Final)) hS233 (by kernel_rfl) (by kernel_rfl) (by kernel_rfl) (by kernel_rfl) ?_
    intro b234 w235 hS236
    refine r_store (c := (cd4 [1, 1, 1, 1, 1, 1, 1, 0])) (i := 7) (d := none) (ty := 0) (t := 46) (x := (.tmp 13)) (y := (.tmp 63)) (b := b234) (o := 0) (e := 46) (cs := enc_api_Final (⟨0, (Vector.replicate 48 0)⟩ : api_Final)) (v := .agg (enc_api_Final t225).toArray) (vs := enc_api_Final t225) (cs' := enc_api_Final t225) hS236 (by kernel_rfl) (by kernel_rfl) (by kernel_rfl) (by kernel_rfl) (by kernel_rfl) (lenK (len_api_Final _) (by kernel_rfl)) (one_api_Final _) (by simp only [len_api_Final, List.length_cons, List.length_nil, List.length_append]; omega) (over_all ((len_api_Final _).trans (len_api_Final _).symm)) ?_
    intro w238 hS239
    refine sx_run 3 (todo' := [.code (cd4 [1, 1, 1, 1, 1, 1, 1, 1, 0]), .code (cd4 [1, 1, 1, 1, 1, 1, 1, 1, 1])]) (us := [(14, .bool t226)]) (by kernel_rfl) ?_
    obtain ⟨g240, hp241⟩ := ite_some hp228
    have hc247 := (hS239.row 8 rfl).cap len_api_Pick (by omega)
    have g248 : 0 ≤ (a1.length : Int) ∧ (a1.length : Int) ≤ (c64 : Int) := by omega
    obtain ⟨g249, hp250⟩ := ite_some hp241
    obtain ⟨t251, hr252, hp253⟩ := bind_some' hp250
    refine r_drawnP (S := Option (Option Addr × Nat)) (dn := (fun (st : Option (Option Addr × Nat)) k => [st.isSome].getD k true)) (C := (fun st w' => match st with | none => St w0 Z (xblk b234 46 (enc_api_Final t225) :: xblk Q27 53 ([.func (.func 20) #[] #[.pointer (some ⟨Q28, 0, none⟩)]]) :: xblk Q28 25 ([.slice Q29 t24.To.length Q30, .int .u64 t24.Ends, .bool t24.Odd, .int .i64 t24.Holes]) :: xblk b180 46 (enc_api_Final t176) :: xrow Q152 Q153 9 1 (t150.flatMap encS) :: xrow Q154 Q155 4 1 (t151.flatMap encB) :: xrow x83.1 x83.2.1 9 1 (t79.flatMap encS) :: xrow x83.2.2.1 x83.2.2.2 4 1 (t80.flatMap encB) :: xrow A63 c64 39 3 (((([] : List api_Pick) ++ a1) ++ ([(⟨5, 0, 0⟩ : api_Pick)] : List api_Pick)).flatMap enc_api_Pick) :: xrow (some ⟨b57, 0, none⟩) 1 39 3 (([(⟨5, 0, 0⟩ : api_Pick)] : List api_Pick).flatMap enc_api_Pick) :: xblk b39 31 ([.string t22, cond t23 (.func (.func 21) #[] #[.pointer (some ⟨Q27, 0, none⟩), .pointer (some ⟨Q28, 0, none⟩)]) .nilFunc, cond t25 (.func (.func 22) #[] #[.pointer (some ⟨Q27, 0, none⟩), .pointer (some ⟨Q28, 0, none⟩)]) .nilFunc, cond t26 (.func (.func 23) #[] #[.pointer (some ⟨Q27, 0, none⟩), .pointer (some ⟨Q28, 0, none⟩)]) .nilFunc]) :: xblk b1 25 ([.slice Aa0_0 a0.To.length ca0_0, .int .u64 a0.Ends, .bool a0.Odd, .int .i64 a0.Holes]) :: fs) w' | some x254 => St w0 Z (xrow x254.1 x254.2 39 3 (t251.flatMap enc_api_Pick) :: xblk b234 46 (enc_api_Final t225) :: xblk Q27 53 ([.func (.func 20) #[] #[.pointer (some ⟨Q28, 0, none⟩)]]) :: xblk Q28 25 ([.slice Q29 t24.To.length Q30, .int .u64 t24.Ends, .bool t24.Odd, .int .i64 t24.Holes]) :: xblk b180 46 (enc_api_Final t176) :: xrow Q152 Q153 9 1 (t150.flatMap encS) :: xrow Q154 Q155 4 1 (t151.flatMap encB) :: xrow x83.1 x83.2.1 9 1 (t79.flatMap encS) :: xrow x83.2.2.1 x83.2.2.2 4 1 (t80.flatMap encB) :: xrow A63 c64 39 3 (((([] : List api_Pick) ++ a1) ++ ([(⟨5, 0, 0⟩ : api_Pick)] : List api_Pick)).flatMap enc_api_Pick) :: xrow (some ⟨b57, 0, none⟩) 1 39 3 (([(⟨5, 0, 0⟩ : api_Pick)] : List api_Pick).flatMap enc_api_Pick) :: xblk b39 31 ([.string t22, cond t23 (.func (.func 21) #[] #[.pointer (some ⟨Q27, 0, none⟩), .pointer (some ⟨Q28, 0, none⟩)]) .nilFunc, cond t25 (.func (.func 22) #[] #[.pointer (some ⟨Q27, 0, none⟩), .pointer (some ⟨Q28, 0, none⟩)]) .nilFunc, cond t26 (.func (.func 23) #[] #[.pointer (some ⟨Q27, 0, none⟩), .pointer (some ⟨Q28, 0, none⟩)]) .nilFunc]) :: xblk b1 25 ([.slice Aa0_0 a0.To.length ca0_0, .int .u64 a0.Ends, .bool a0.Odd, .int .i64 a0.Holes]) :: fs) w')) (v := (fun st => match st with | none => [.agg #[.string t22, cond t23 (.func (.func 21) #[] #[.pointer (some ⟨Q27, 0, none⟩), .pointer (some ⟨Q28, 0, none⟩)]) .nilFunc, cond t25 (.func (.func 22) #[] #[.pointer (some ⟨Q27, 0, none⟩), .pointer (some ⟨Q28, 0, none⟩)]) .nilFunc, cond t26 (.func (.func 23) #[] #[.pointer (some ⟨Q27, 0, none⟩), .pointer (some ⟨Q28, 0, none⟩)]) .nilFunc], .slice A63 ((([] : List api_Pick) ++ a1) ++ ([(⟨5, 0, 0⟩ : api_Pick)] : List api_Pick)).length c64, .slice Aa1 a1.length ca1, .int .i64 (a1.length : Int), .slice A63 ((a1.length : Int).toNat) c64, undef, undef] | some x254 => [.agg #[.string t22, cond t23 (.func (.func 21) #[] #[.pointer (some ⟨Q27, 0, none⟩), .pointer (some ⟨Q28, 0, none⟩)]) .nilFunc, cond t25 (.func (.func 22) #[] #[.pointer (some ⟨Q27, 0, none⟩), .pointer (some ⟨Q28, 0, none⟩)]) .nilFunc, cond t26 (.func (.func 23) #[] #[.pointer (some ⟨Q27, 0, none⟩), .pointer (some ⟨Q28, 0, none⟩)]) .nilFunc], .slice A63 ((([] : List api_Pick) ++ a1) ++ ([(⟨5, 0, 0⟩ : api_Pick)] : List api_Pick)).length c64, .slice Aa1 a1.length ca1, .int .i64 (a1.length : Int), .slice A63 ((a1.length : Int).toNat) c64, .slice x254.1 t251.length x254.2, .slice x254.1 t251.length x254.2])) (c := (cd4 [1, 1, 1, 1, 1, 1, 1, 1, 0])) (id := 9) none 0 7 [5] [[], [], [], [], [], [], [0]] [[0], [], [], [], [0], [], []] [] [true, true, true, true, true, true, true] (by kernel_rfl) (by kernel_rfl) (by kernel_rfl) (by kernel_rfl) (by kernel_rfl) (by kernel_rfl) (by kernel_rfl) (by kernel_rfl) (by kernel_rfl) (fun k hk => match k, hk with | 0, _ => rfl | k + 1, hk => absurd hk (by simp)) hS239.drew ?_ (fun k hk => match k, hk with | 0, _ => rfl | k + 1, hk => absurd hk (by simp)) ?_ ?_ ?_
    ·intro i hi st w hC hd
     match i, hi with
     | 0, _ => (show _ = _; kernel_rfl)
     | 1, _ => (show _ = _; kernel_rfl)
     | 2, _ => (show _ = _; kernel_rfl)
     | 3, _ => (show _ = _; kernel_rfl)
     | 4, _ => (show _ = _; kernel_rfl)
     | 5, _ => (show _ = _; kernel_rfl)
     | 6, _ => (show _ = _; kernel_rfl)
     | i + 7, hi => exact absurd hi (by omega)
    ·intro i hi he st w hC hd hu
     match i, hi, he with
     | 0, _, _ =>
      rcases st with _ | x254
      ·replace hC : St w0 Z (xblk b234 46 (enc_api_Final t225) :: xblk Q27 53 ([.func (.func 20) #[] #[.pointer (some ⟨Q28, 0, none⟩)]]) :: xblk Q28 25 ([.slice Q29 t24.To.length Q30, .int .u64 t24.Ends, .bool t24.Odd, .int .i64 t24.Holes]) :: xblk b180 46 (enc_api_Final t176) :: xrow Q152 Q153 9 1 (t150.flatMap encS) :: xrow Q154 Q155 4 1 (t151.flatMap encB) :: xrow x83.1 x83.2.1 9 1 (t79.flatMap encS) :: xrow x83.2.2.1 x83.2.2.2 4 1 (t80.flatMap encB) :: xrow A63 c64 39 3 (((([] : List api_Pick) ++ a1) ++ ([(⟨5, 0, 0⟩ : api_Pick)] : List api_Pick)).flatMap enc_api_Pick) :: xrow (some ⟨b57, 0, none⟩) 1 39 3 (([(⟨5, 0, 0⟩ : api_Pick)] : List api_Pick).flatMap enc_api_Pick) :: xblk b39 31 ([.string t22, cond t23 (.func (.func 21) #[] #[.pointer (some ⟨Q27, 0, none⟩), .pointer (some ⟨Q28, 0, none⟩)]) .nilFunc, cond t25 (.func (.func 22) #[] #[.pointer (some ⟨Q27, 0, none⟩), .pointer (some ⟨Q28, 0, none⟩)]) .nilFunc, cond t26 (.func (.func 23) #[] #[.pointer (some ⟨Q27, 0, none⟩), .pointer (some ⟨Q28, 0, none⟩)]) .nilFunc]) :: xblk b1 25 ([.slice Aa0_0 a0.To.length ca0_0, .int .u64 a0.Ends, .bool a0.Odd, .int .i64 a0.Holes]) :: fs) w := hC
       exact ⟨fun _ => does_run (x_load (t := 31) (x := (.tmp 5)) (p := ⟨b39, 0, none⟩) (v := .agg #[.string t22, cond t23 (.func (.func 21) #[] #[.pointer (some ⟨Q27, 0, none⟩), .pointer (some ⟨Q28, 0, none⟩)]) .nilFunc, cond t25 (.func (.func 22) #[] #[.pointer (some ⟨Q27, 0, none⟩), .pointer (some ⟨Q28, 0, none⟩)]) .nilFunc, cond t26 (.func (.func 23) #[] #[.pointer (some ⟨Q27, 0, none⟩), .pointer (some ⟨Q28, 0, none⟩)]) .nilFunc]) (by kernel_rfl) (loads_agg (hC.blk 10 rfl) (by kernel_rfl) (by kernel_rfl)) (by kernel_rfl)) rfl hC, fun h => absurd h (by decide)⟩
      ·exact Bool.noConfusion (hu 0 (by decide))
     | 1, _, _ =>
      rcases st with _ | x254
      ·replace hC : St w0 Z (xblk b234 46 (enc_api_Final t225) :: xblk Q27 53 ([.func (.func 20) #[] #[.pointer (some ⟨Q28, 0, none⟩)]]) :: xblk Q28 25 ([.slice Q29 t24.To.length Q30, .int .u64 t24.Ends, .bool t24.Odd, .int .i64 t24.Holes]) :: xblk b180 46 (enc_api_Final t176) :: xrow Q152 Q153 9 1 (t150.flatMap encS) :: xrow Q154 Q155 4 1 (t151.flatMap encB) :: xrow x83.1 x83.2.1 9 1 (t79.flatMap encS) :: xrow x83.2.2.1 x83.2.2.2 4 1 (t80.flatMap encB) :: xrow A63 c64 39 3 (((([] : List api_Pick) ++ a1) ++ ([(⟨5, 0, 0⟩ : api_Pick)] : List api_Pick)).flatMap enc_api_Pick) :: xrow (some ⟨b57, 0, none⟩) 1 39 3 (([(⟨5, 0, 0⟩ : api_Pick)] : List api_Pick).flatMap enc_api_Pick) :: xblk b39 31 ([.string t22, cond t23 (.func (.func 21) #[] #[.pointer (some ⟨Q27, 0, none⟩), .pointer (some ⟨Q28, 0, none⟩)]) .nilFunc, cond t25 (.func (.func 22) #[] #[.pointer (some ⟨Q27, 0, none⟩), .pointer (some ⟨Q28, 0, none⟩)]) .nilFunc, cond t26 (.func (.func 23) #[] #[.pointer (some ⟨Q27, 0, none⟩), .pointer (some ⟨Q28, 0, none⟩)]) .nilFunc]) :: xblk b1 25 ([.slice Aa0_0 a0.To.length ca0_0, .int .u64 a0.Ends, .bool a0.Odd, .int .i64 a0.Holes]) :: fs) w := hC
       exact ⟨fun _ => does_pure (v := .slice A63 ((([] : List api_Pick) ++ a1) ++ ([(⟨5, 0, 0⟩ : api_Pick)] : List api_Pick)).length c64) (by kernel_rfl) rfl hC, fun h => absurd h (by decide)⟩
      ·replace hC : St w0 Z (xrow x254.1 x254.2 39 3 (t251.flatMap enc_api_Pick) :: xblk b234 46 (enc_api_Final t225) :: xblk Q27 53 ([.func (.func 20) #[] #[.pointer (some ⟨Q28, 0, none⟩)]]) :: xblk Q28 25 ([.slice Q29 t24.To.length Q30, .int .u64 t24.Ends, .bool t24.Odd, .int .i64 t24.Holes]) :: xblk b180 46 (enc_api_Final t176) :: xrow Q152 Q153 9 1 (t150.flatMap encS) :: xrow Q154 Q155 4 1 (t151.flatMap encB) :: xrow x83.1 x83.2.1 9 1 (t79.flatMap encS) :: xrow x83.2.2.1 x83.2.2.2 4 1 (t80.flatMap encB) :: xrow A63 c64 39 3 (((([] : List api_Pick) ++ a1) ++ ([(⟨5, 0, 0⟩ : api_Pick)] : List api_Pick)).flatMap enc_api_Pick) :: xrow (some ⟨b57, 0, none⟩) 1 39 3 (([(⟨5, 0, 0⟩ : api_Pick)] : List api_Pick).flatMap enc_api_Pick) :: xblk b39 31 ([.string t22, cond t23 (.func (.func 21) #[] #[.pointer (some ⟨Q27, 0, none⟩), .pointer (some ⟨Q28, 0, none⟩)]) .nilFunc, cond t25 (.func (.func 22) #[] #[.pointer (some ⟨Q27, 0, none⟩), .pointer (some ⟨Q28, 0, none⟩)]) .nilFunc, cond t26 (.func (.func 23) #[] #[.pointer (some ⟨Q27, 0, none⟩), .pointer (some ⟨Q28, 0, none⟩)]) .nilFunc]) :: xblk b1 25 ([.slice Aa0_0 a0.To.length ca0_0, .int .u64 a0.Ends, .bool a0.Odd, .int .i64 a0.Holes]) :: fs) w := hC
       exact ⟨fun _ => does_pure (v := .slice A63 ((([] : List api_Pick) ++ a1) ++ ([(⟨5, 0, 0⟩ : api_Pick)] : List api_Pick)).length c64) (by kernel_rfl) rfl hC, fun h => absurd h (by decide)⟩
     | 2, _, _ =>
      rcases st with _ | x254
      ·replace hC : St w0 Z (xblk b234 46 (enc_api_Final t225) :: xblk Q27 53 ([.func (.func 20) #[] #[.pointer (some ⟨Q28, 0, none⟩)]]) :: xblk Q28 25 ([.slice Q29 t24.To.length Q30, .int .u64 t24.Ends, .bool t24.Odd, .int .i64 t24.Holes]) :: xblk b180 46 (enc_api_Final t176) :: xrow Q152 Q153 9 1 (t150.flatMap encS) :: xrow Q154 Q155 4 1 (t151.flatMap encB) :: xrow x83.1 x83.2.1 9 1 (t79.flatMap encS) :: xrow x83.2.2.1 x83.2.2.2 4 1 (t80.flatMap encB) :: xrow A63 c64 39 3 (((([] : List api_Pick) ++ a1) ++ ([(⟨5, 0, 0⟩ : api_Pick)] : List api_Pick)).flatMap enc_api_Pick) :: xrow (some ⟨b57, 0, none⟩) 1 39 3 (([(⟨5, 0, 0⟩ : api_Pick)] : List api_Pick).flatMap enc_api_Pick) :: xblk b39 31 ([.string t22, cond t23 (.func (.func 21) #[] #[.pointer (some ⟨Q27, 0, none⟩), .pointer (some ⟨Q28, 0, none⟩)]) .nilFunc, cond t25 (.func (.func 22) #[] #[.pointer (some ⟨Q27, 0, none⟩), .pointer (some ⟨Q28, 0, none⟩)]) .nilFunc, cond t26 (.func (.func 23) #[] #[.pointer (some ⟨Q27, 0, none⟩), .pointer (some ⟨Q28, 0, none⟩)]) .nilFunc]) :: xblk b1 25 ([.slice Aa0_0 a0.To.length ca0_0, .int .u64 a0.Ends, .bool a0.Odd, .int .i64 a0.Holes]) :: fs) w := hC
       exact ⟨fun _ => does_pure (v := .slice Aa1 a1.length ca1) (by kernel_rfl) rfl hC, fun h => absurd h (by decide)⟩
      ·replace hC : St w0 Z (xrow x254.1 x254.2 39 3 (t251.flatMap enc_api_Pick) :: xblk b234 46 (enc_api_Final t225) :: xblk Q27 53 ([.func (.func 20) #[] #[.pointer (some ⟨Q28, 0, none⟩)]]) :: xblk Q28 25 ([.slice Q29 t24.To.length Q30, .int .u64 t24.Ends, .bool t24.Odd, .int .i64 t24.Holes]) :: xblk b180 46 (enc_api_Final t176) :: xrow Q152 Q153 9 1 (t150.flatMap encS) :: xrow Q154 Q155 4 1 (t151.flatMap encB) :: xrow x83.1 x83.2.1 9 1 (t79.flatMap encS) :: xrow x83.2.2.1 x83.2.2.2 4 1 (t80.flatMap encB) :: xrow A63 c64 39 3 (((([] : List api_Pick) ++ a1) ++ ([(⟨5, 0, 0⟩ : api_Pick)] : List api_Pick)).flatMap enc_api_Pick) :: xrow (some ⟨b57, 0, none⟩) 1 39 3 (([(⟨5, 0, 0⟩ : api_Pick)] : List api_Pick).flatMap enc_api_Pick) :: xblk b39 31 ([.string t22, cond t23 (.func (.func 21) #[] #[.pointer (some ⟨Q27, 0, none⟩), .pointer (some ⟨Q28, 0, none⟩)]) .nilFunc, cond t25 (.func (.func 22) #[] #[.pointer (some ⟨Q27, 0, none⟩), .pointer (some ⟨Q28, 0, none⟩)]) .nilFunc, cond t26 (.func (.func 23) #[] #[.pointer (some ⟨Q27, 0, none⟩), .pointer (some ⟨Q28, 0, none⟩)]) .nilFunc]) :: xblk b1 25 ([.slice Aa0_0 a0.To.length ca0_0, .int .u64 a0.Ends, .bool a0.Odd, .int .i64 a0.Holes]) :: fs) w := hC
       exact ⟨fun _ => does_pure (v := .slice Aa1 a1.length ca1) (by kernel_rfl) rfl hC, fun h => absurd h (by decide)⟩
     | 3, _, _ =>
      rcases st with _ | x254
      ·replace hC : St w0 Z (xblk b234 46 (enc_api_Final t225) :: xblk Q27 53 ([.func (.func 20) #[] #[.pointer (some ⟨Q28, 0, none⟩)]]) :: xblk Q28 25 ([.slice Q29 t24.To.length Q30, .int .u64 t24.Ends, .bool t24.Odd, .int .i64 t24.Holes]) :: xblk b180 46 (enc_api_Final t176) :: xrow Q152 Q153 9 1 (t150.flatMap encS) :: xrow Q154 Q155 4 1 (t151.flatMap encB) :: xrow x83.1 x83.2.1 9 1 (t79.flatMap encS) :: xrow x83.2.2.1 x83.2.2.2 4 1 (t80.flatMap encB) :: xrow A63 c64 39 3 (((([] : List api_Pick) ++ a1) ++ ([(⟨5, 0, 0⟩ : api_Pick)] : List api_Pick)).flatMap enc_api_Pick) :: xrow (some ⟨b57, 0, none⟩) 1 39 3 (([(⟨5, 0, 0⟩ : api_Pick)] : List api_Pick).flatMap enc_api_Pick) :: xblk b39 31 ([.string t22, cond t23 (.func (.func 21) #[] #[.pointer (some ⟨Q27, 0, none⟩), .pointer (some ⟨Q28, 0, none⟩)]) .nilFunc, cond t25 (.func (.func 22) #[] #[.pointer (some ⟨Q27, 0, none⟩), .pointer (some ⟨Q28, 0, none⟩)]) .nilFunc, cond t26 (.func (.func 23) #[] #[.pointer (some ⟨Q27, 0, none⟩), .pointer (some ⟨Q28, 0, none⟩)]) .nilFunc]) :: xblk b1 25 ([.slice Aa0_0 a0.To.length ca0_0, .int .u64 a0.Ends, .bool a0.Odd, .int .i64 a0.Holes]) :: fs) w := hC
       exact ⟨fun _ => does_pure (v := .int .i64 (a1.length : Int)) (by kernel_rfl) rfl hC, fun h => absurd h (by decide)⟩
      ·replace hC : St w0 Z (xrow x254.1 x254.2 39 3 (t251.flatMap enc_api_Pick) :: xblk b234 46 (enc_api_Final t225) :: xblk Q27 53 ([.func (.func 20) #[] #[.pointer (some ⟨Q28, 0, none⟩)]]) :: xblk Q28 25 ([.slice Q29 t24.To.length Q30, .int .u64 t24.Ends, .bool t24.Odd, .int .i64 t24.Holes]) :: xblk b180 46 (enc_api_Final t176) :: xrow Q152 Q153 9 1 (t150.flatMap encS) :: xrow Q154 Q155 4 1 (t151.flatMap encB) :: xrow x83.1 x83.2.1 9 1 (t79.flatMap encS) :: xrow x83.2.2.1 x83.2.2.2 4 1 (t80.flatMap encB) :: xrow A63 c64 39 3 (((([] : List api_Pick) ++ a1) ++ ([(⟨5, 0, 0⟩ : api_Pick)] : List api_Pick)).flatMap enc_api_Pick) :: xrow (some ⟨b57, 0, none⟩) 1 39 3 (([(⟨5, 0, 0⟩ : api_Pick)] : List api_Pick).flatMap enc_api_Pick) :: xblk b39 31 ([.string t22, cond t23 (.func (.func 21) #[] #[.pointer (some ⟨Q27, 0, none⟩), .pointer (some ⟨Q28, 0, none⟩)]) .nilFunc, cond t25 (.func (.func 22) #[] #[.pointer (some ⟨Q27, 0, none⟩), .pointer (some ⟨Q28, 0, none⟩)]) .nilFunc, cond t26 (.func (.func 23) #[] #[.pointer (some ⟨Q27, 0, none⟩), .pointer (some ⟨Q28, 0, none⟩)]) .nilFunc]) :: xblk b1 25 ([.slice Aa0_0 a0.To.length ca0_0, .int .u64 a0.Ends, .bool a0.Odd, .int .i64 a0.Holes]) :: fs) w := hC
       exact ⟨fun _ => does_pure (v := .int .i64 (a1.length : Int)) (by kernel_rfl) rfl hC, fun h => absurd h (by decide)⟩
     | 4, _, _ =>
      rcases st with _ | x254
      ·replace hC : St w0 Z (xblk b234 46 (enc_api_Final t225) :: xblk Q27 53 ([.func (.func 20) #[] #[.pointer (some ⟨Q28, 0, none⟩)]]) :: xblk Q28 25 ([.slice Q29 t24.To.length Q30, .int .u64 t24.Ends, .bool t24.Odd, .int .i64 t24.Holes]) :: xblk b180 46 (enc_api_Final t176) :: xrow Q152 Q153 9 1 (t150.flatMap encS) :: xrow Q154 Q155 4 1 (t151.flatMap encB) :: xrow x83.1 x83.2.1 9 1 (t79.flatMap encS) :: xrow x83.2.2.1 x83.2.2.2 4 1 (t80.flatMap encB) :: xrow A63 c64 39 3 (((([] : List api_Pick) ++ a1) ++ ([(⟨5, 0, 0⟩ : api_Pick)] : List api_Pick)).flatMap enc_api_Pick) :: xrow (some ⟨b57, 0, none⟩) 1 39 3 (([(⟨5, 0, 0⟩ : api_Pick)] : List api_Pick).flatMap enc_api_Pick) :: xblk b39 31 ([.string t22, cond t23 (.func (.func 21) #[] #[.pointer (some ⟨Q27, 0, none⟩), .pointer (some ⟨Q28, 0, none⟩)]) .nilFunc, cond t25 (.func (.func 22) #[] #[.pointer (some ⟨Q27, 0, none⟩), .pointer (some ⟨Q28, 0, none⟩)]) .nilFunc, cond t26 (.func (.func 23) #[] #[.pointer (some ⟨Q27, 0, none⟩), .pointer (some ⟨Q28, 0, none⟩)]) .nilFunc]) :: xblk b1 25 ([.slice Aa0_0 a0.To.length ca0_0, .int .u64 a0.Ends, .bool a0.Odd, .int .i64 a0.Holes]) :: fs) w := hC
       exact ⟨fun _ => does_run (x_cutSl_nsC (t := 33) (x := (.tmp 66)) (hi := (.tmp 68)) (e := 39) (sz := 3) (A := A63) (n := ((([] : List api_Pick) ++ a1) ++ ([(⟨5, 0, 0⟩ : api_Pick)] : List api_Pick)).length) (c := c64) (k := .i64) (by kernel_rfl) (by kernel_rfl) (by kernel_rfl) (by kernel_rfl) g248 cut0 (by kernel_rfl)) rfl hC, fun h => absurd h (by decide)⟩
      ·exact Bool.noConfusion (hu 0 (by decide))
     | 5, _, he => exact absurd he (by decide)
     | 6, _, _ =>
      rcases st with _ | x254
      ·exact Bool.noConfusion (hd 0 (by decide))
      ·replace hC : St w0 Z (xrow x254.1 x254.2 39 3 (t251.flatMap enc_api_Pick) :: xblk b234 46 (enc_api_Final t225) :: xblk Q27 53 ([.func (.func 20) #[] #[.pointer (some ⟨Q28, 0, none⟩)]]) :: xblk Q28 25 ([.slice Q29 t24.To.length Q30, .int .u64 t24.Ends, .bool t24.Odd, .int .i64 t24.Holes]) :: xblk b180 46 (enc_api_Final t176) :: xrow Q152 Q153 9 1 (t150.flatMap encS) :: xrow Q154 Q155 4 1 (t151.flatMap encB) :: xrow x83.1 x83.2.1 9 1 (t79.flatMap encS) :: xrow x83.2.2.1 x83.2.2.2 4 1 (t80.flatMap encB) :: xrow A63 c64 39 3 (((([] : List api_Pick) ++ a1) ++ ([(⟨5, 0, 0⟩ : api_Pick)] : List api_Pick)).flatMap enc_api_Pick) :: xrow (some ⟨b57, 0, none⟩) 1 39 3 (([(⟨5, 0, 0⟩ : api_Pick)] : List api_Pick).flatMap enc_api_Pick) :: xblk b39 31 ([.string t22, cond t23 (.func (.func 21) #[] #[.pointer (some ⟨Q27, 0, none⟩), .pointer (some ⟨Q28, 0, none⟩)]) .nilFunc, cond t25 (.func (.func 22) #[] #[.pointer (some ⟨Q27, 0, none⟩), .pointer (some ⟨Q28, 0, none⟩)]) .nilFunc, cond t26 (.func (.func 23) #[] #[.pointer (some ⟨Q27, 0, none⟩), .pointer (some ⟨Q28, 0, none⟩)]) .nilFunc]) :: xblk b1 25 ([.slice Aa0_0 a0.To.length ca0_0, .int .u64 a0.Ends, .bool a0.Odd, .int .i64 a0.Holes]) :: fs) w := hC
       exact ⟨fun _ => does_pure (v := .slice x254.1 t251.length x254.2) (by kernel_rfl) rfl hC, fun h => absurd h (by decide)⟩
     | i + 7, hi, _ => exact absurd hi (by omega)
    ·intro k hk st w hC hr hm
     match k, hk with
     | 0, _ =>
      rcases st with _ | x254
      ·replace hC : St w0 Z (xblk b234 46 (enc_api_Final t225) :: xblk Q27 53 ([.func (.func 20) #[] #[.pointer (some ⟨Q28, 0, none⟩)]]) :: xblk Q28 25 ([.slice Q29 t24.To.length Q30, .int .u64 t24.Ends, .bool t24.Odd, .int .i64 t24.Holes]) :: xblk b180 46 (enc_api_Final t176) :: xrow Q152 Q153 9 1 (t150.flatMap encS) :: xrow Q154 Q155 4 1 (t151.flatMap encB) :: xrow x83.1 x83.2.1 9 1 (t79.flatMap encS) :: xrow x83.2.2.1 x83.2.2.2 4 1 (t80.flatMap encB) :: xrow A63 c64 39 3 (((([] : List api_Pick) ++ a1) ++ ([(⟨5, 0, 0⟩ : api_Pick)] : List api_Pick)).flatMap enc_api_Pick) :: xrow (some ⟨b57, 0, none⟩) 1 39 3 (([(⟨5, 0, 0⟩ : api_Pick)] : List api_Pick).flatMap enc_api_Pick) :: xblk b39 31 ([.string t22, cond t23 (.func (.func 21) #[] #[.pointer (some ⟨Q27, 0, none⟩), .pointer (some ⟨Q28, 0, none⟩)]) .nilFunc, cond t25 (.func (.func 22) #[] #[.pointer (some ⟨Q27, 0, none⟩), .pointer (some ⟨Q28, 0, none⟩)]) .nilFunc, cond t26 (.func (.func 23) #[] #[.pointer (some ⟨Q27, 0, none⟩), .pointer (some ⟨Q28, 0, none⟩)]) .nilFunc]) :: xblk b1 25 ([.slice Aa0_0 a0.To.length ca0_0, .int .u64 a0.Ends, .bool a0.Odd, .int .i64 a0.Holes]) :: fs) w := hC
       have hS304 := hC.pick8
       obtain ⟨Z305, hz306, hS307, hs308, hb309⟩ := hS304.lendrow len_api_Pick (by omega)
       have hS310 := hS307.pick2
       have hS311 := hS310.pick2
       refine does_call (g := 14) (args := #[.agg #[.string t22, cond t23 (.func (.func 21) #[] #[.pointer (some ⟨Q27, 0, none⟩), .pointer (some ⟨Q28, 0, none⟩)]) .nilFunc, cond t25 (.func (.func 22) #[] #[.pointer (some ⟨Q27, 0, none⟩), .pointer (some ⟨Q28, 0, none⟩)]) .nilFunc, cond t26 (.func (.func 23) #[] #[.pointer (some ⟨Q27, 0, none⟩), .pointer (some ⟨Q28, 0, none⟩)]) .nilFunc], .slice A63 ((a1.length : Int).toNat) c64]) (by kernel_rfl) (args_eq (by rw [lenTake g249]) (script_Taken.ok t22 t23 (⟨t24.To, t24.Ends, t24.Odd, t24.Holes⟩ : weirlaw15_Graph) t25 t26 (((([] : List api_Pick) ++ a1) ++ ([(⟨5, 0, 0⟩ : api_Pick)] : List api_Pick)).take ((a1.length : Int).toNat)) Q27 Q28 Q29 Q30 A63 c64 hS311 (SlZ.mono (mono_repL (mono_flat _)) hs38 hz306) (hs308.take0 ((a1.length : Int).toNat)) hr252)) ?_
       rintro e w2 ⟨m312, m313, rfl, h2⟩
       refine ⟨_, rfl, ?_⟩
       have hS314 := hb309 _ _ h2
       have hS315 := hS314.pick12
       have hS316 := hS315.pick12
       have hS317 := hS316.pick12
       have hS318 := hS317.pick3
       have hS319 := hS318.pick12
       have hS320 := hS319.pick12
       have hS321 := hS320.pick12
       have hS322 := hS321.pick12
       have hS323 := hS322.pick12
       have hS324 := hS323.pick11
       have hS325 := hS324.pick11
       have hS326 := hS325.pick12
       have hS327 := hS326.pick12
       have h2 := hS327
       have h2 := h2.pick12
       have h2 := h2.pick12
       have h2 := h2.pick12
       have h2 := h2.pick12
       have h2 := h2.pick12
       have h2 := h2.pick12
       have h2 := h2.pick12
       have h2 := h2.pick12
       have h2 := h2.pick12
       have h2 := h2.pick12
       have h2 := h2.pick12
       have h2 := h2.pick12
       have h2 := h2.pick12
       refine ⟨some (m312, m313), rfl, ?_, ?_, .inr rfl, h2⟩
       ·intro m hne; match m, hne with
        | 0, hne => exact absurd rfl hne
        | m + 1, _ => exact rfl
       ·intro j hj; match j, hj with
        | 0, hj => exact rfl
        | 1, hj => exact rfl
        | 2, hj => exact rfl
        | 3, hj => exact rfl
        | 4, hj => exact rfl
        | 5, hj => exact absurd (by decide) hj
        | 6, hj => exact absurd (by decide) hj
        | j + 7, _ => exact rfl
      ·exact Bool.noConfusion hr
     | k + 1, hk => exact absurd hk (by simp)
    intro st331 w328 hS329 hr330
    rcases st331 with _ | x254
    ·exact Bool.noConfusion (hr330 0 (Nat.lt_of_sub_eq_succ rfl))
    replace hS329 : St w0 Z (xrow x254.1 x254.2 39 3 (t251.flatMap enc_api_Pick) :: xblk b234 46 (enc_api_Final t225) :: xblk Q27 53 ([.func (.func 20) #[] #[.pointer (some ⟨Q28, 0, none⟩)]]) :: xblk Q28 25 ([.slice Q29 t24.To.length Q30, .int .u64 t24.Ends, .bool t24.Odd, .int .i64 t24.Holes]) :: xblk b180 46 (enc_api_Final t176) :: xrow Q152 Q153 9 1 (t150.flatMap encS) :: xrow Q154 Q155 4 1 (t151.flatMap encB) :: xrow x83.1 x83.2.1 9 1 (t79.flatMap encS) :: xrow x83.2.2.1 x83.2.2.2 4 1 (t80.flatMap encB) :: xrow A63 c64 39 3 (((([] : List api_Pick) ++ a1) ++ ([(⟨5, 0, 0⟩ : api_Pick)] : List api_Pick)).flatMap enc_api_Pick) :: xrow (some ⟨b57, 0, none⟩) 1 39 3 (([(⟨5, 0, 0⟩ : api_Pick)] : List api_Pick).flatMap enc_api_Pick) :: xblk b39 31 ([.string t22, cond t23 (.func (.func 21) #[] #[.pointer (some ⟨Q27, 0, none⟩), .pointer (some ⟨Q28, 0, none⟩)]) .nilFunc, cond t25 (.func (.func 22) #[] #[.pointer (some ⟨Q27, 0, none⟩), .pointer (some ⟨Q28, 0, none⟩)]) .nilFunc, cond t26 (.func (.func 23) #[] #[.pointer (some ⟨Q27, 0, none⟩), .pointer (some ⟨Q28, 0, none⟩)]) .nilFunc]) :: xblk b1 25 ([.slice Aa0_0 a0.To.length ca0_0, .int .u64 a0.Ends, .bool a0.Odd, .int .i64 a0.Holes]) :: fs) w328 := hS329
    refine sx_run 1 (todo' := [.code (cd4 [1, 1, 1, 1, 1, 1, 1, 1, 1, 0]), .code (cd4 [1, 1, 1, 1, 1, 1, 1, 1, 1, 1])]) (us := []) (by kernel_rfl) ?_
    obtain ⟨g332, hp333⟩ := ite_some hp253
    have hc339 := (hS329.row 9 rfl).cap len_api_Pick (by omega)
    have g340 : 0 ≤ (a1.length : Int) ∧ (a1.length : Int) ≤ (c64 : Int) := by omega
    obtain ⟨g341, hp342⟩ := ite_some hp333
    obtain ⟨t343, hr344, hp345⟩ := bind_some' hp342
    refine r_drawnP (S := Option (Option Addr × Nat)) (dn := (fun (st : Option (Option Addr × Nat)) k => [st.isSome].getD k true)) (C := (fun st w' => match st with | none => St w0 Z (xrow x254.1 x254.2 39 3 (t251.flatMap enc_api_Pick) :: xblk b234 46 (enc_api_Final t225) :: xblk Q27 53 ([.func (.func 20) #[] #[.pointer (some ⟨Q28, 0, none⟩)]]) :: xblk Q28 25 ([.slice Q29 t24.To.length Q30, .int .u64 t24.Ends, .bool t24.Odd, .int .i64 t24.Holes]) :: xblk b180 46 (enc_api_Final t176) :: xrow Q152 Q153 9 1 (t150.flatMap encS) :: xrow Q154 Q155 4 1 (t151.flatMap encB) :: xrow x83.1 x83.2.1 9 1 (t79.flatMap encS) :: xrow x83.2.2.1 x83.2.2.2 4 1 (t80.flatMap encB) :: xrow A63 c64 39 3 (((([] : List api_Pick) ++ a1) ++ ([(⟨5, 0, 0⟩ : api_Pick)] : List api_Pick)).flatMap enc_api_Pick) :: xrow (some ⟨b57, 0, none⟩) 1 39 3 (([(⟨5, 0, 0⟩ : api_Pick)] : List api_Pick).flatMap enc_api_Pick) :: xblk b39 31 ([.string t22, cond t23 (.func (.func 21) #[] #[.pointer (some ⟨Q27, 0, none⟩), .pointer (some ⟨Q28, 0, none⟩)]) .nilFunc, cond t25 (.func (.func 22) #[] #[.pointer (some ⟨Q27, 0, none⟩), .pointer (some ⟨Q28, 0, none⟩)]) .nilFunc, cond t26 (.func (.func 23) #[] #[.pointer (some ⟨Q27, 0, none⟩), .pointer (some ⟨Q28, 0, none⟩)]) .nilFunc]) :: xblk b1 25 ([.slice Aa0_0 a0.To.length ca0_0, .int .u64 a0.Ends, .bool a0.Odd, .int .i64 a0.Holes]) :: fs) w' | some x346 => St w0 Z (xrow x346.1 x346.2 39 3 (t343.flatMap enc_api_Pick) :: xrow x254.1 x254.2 39 3 (t251.flatMap enc_api_Pick) :: xblk b234 46 (enc_api_Final t225) :: xblk Q27 53 ([.func (.func 20) #[] #[.pointer (some ⟨Q28, 0, none⟩)]]) :: xblk Q28 25 ([.slice Q29 t24.To.length Q30, .int .u64 t24.Ends, .bool t24.Odd, .int .i64 t24.Holes]) :: xblk b180 46 (enc_api_Final t176) :: xrow Q152 Q153 9 1 (t150.flatMap encS) :: xrow Q154 Q155 4 1 (t151.flatMap encB) :: xrow x83.1 x83.2.1 9 1 (t79.flatMap encS) :: xrow x83.2.2.1 x83.2.2.2 4 1 (t80.flatMap encB) :: xrow A63 c64 39 3 (((([] : List api_Pick) ++ a1) ++ ([(⟨5, 0, 0⟩ : api_Pick)] : List api_Pick)).flatMap enc_api_Pick) :: xrow (some ⟨b57, 0, none⟩) 1 39 3 (([(⟨5, 0, 0⟩ : api_Pick)] : List api_Pick).flatMap enc_api_Pick) :: xblk b39 31 ([.string t22, cond t23 (.func (.func 21) #[] #[.pointer (some ⟨Q27, 0, none⟩), .pointer (some ⟨Q28, 0, none⟩)]) .nilFunc, cond t25 (.func (.func 22) #[] #[.pointer (some ⟨Q27, 0, none⟩), .pointer (some ⟨Q28, 0, none⟩)]) .nilFunc, cond t26 (.func (.func 23) #[] #[.pointer (some ⟨Q27, 0, none⟩), .pointer (some ⟨Q28, 0, none⟩)]) .nilFunc]) :: xblk b1 25 ([.slice Aa0_0 a0.To.length ca0_0, .int .u64 a0.Ends, .bool a0.Odd, .int .i64 a0.Holes]) :: fs) w')) (v := (fun st => match st with | none => [.agg #[.string t22, cond t23 (.func (.func 21) #[] #[.pointer (some ⟨Q27, 0, none⟩), .pointer (some ⟨Q28, 0, none⟩)]) .nilFunc, cond t25 (.func (.func 22) #[] #[.pointer (some ⟨Q27, 0, none⟩), .pointer (some ⟨Q28, 0, none⟩)]) .nilFunc, cond t26 (.func (.func 23) #[] #[.pointer (some ⟨Q27, 0, none⟩), .pointer (some ⟨Q28, 0, none⟩)]) .nilFunc], .slice A63 ((([] : List api_Pick) ++ a1) ++ ([(⟨5, 0, 0⟩ : api_Pick)] : List api_Pick)).length c64, .slice Aa1 a1.length ca1, .int .i64 (a1.length : Int), .slice A63 ((a1.length : Int).toNat) c64, undef, undef] | some x346 => [.agg #[.string t22, cond t23 (.func (.func 21) #[] #[.pointer (some ⟨Q27, 0, none⟩), .pointer (some ⟨Q28, 0, none⟩)]) .nilFunc, cond t25 (.func (.func 22) #[] #[.pointer (some ⟨Q27, 0, none⟩), .pointer (some ⟨Q28, 0, none⟩)]) .nilFunc, cond t26 (.func (.func 23) #[] #[.pointer (some ⟨Q27, 0, none⟩), .pointer (some ⟨Q28, 0, none⟩)]) .nilFunc], .slice A63 ((([] : List api_Pick) ++ a1) ++ ([(⟨5, 0, 0⟩ : api_Pick)] : List api_Pick)).length c64, .slice Aa1 a1.length ca1, .int .i64 (a1.length : Int), .slice A63 ((a1.length : Int).toNat) c64, .slice x346.1 t343.length x346.2, .slice x346.1 t343.length x346.2])) (c := (cd4 [1, 1, 1, 1, 1, 1, 1, 1, 1, 0])) (id := 10) none 0 7 [5] [[], [], [], [], [], [], [0]] [[0], [], [], [], [0], [], []] [] [true, true, true, true, true, true, true] (by kernel_rfl) (by kernel_rfl) (by kernel_rfl) (by kernel_rfl) (by kernel_rfl) (by kernel_rfl) (by kernel_rfl) (by kernel_rfl) (by kernel_rfl) (fun k hk => match k, hk with | 0, _ => rfl | k + 1, hk => absurd hk (by simp)) hS329.drew ?_ (fun k hk => match k, hk with | 0, _ => rfl | k + 1, hk => absurd hk (by simp)) ?_ ?_ ?_
    ·intro i hi st w hC hd
     match i, hi with
     | 0, _ => (show _ = _; kernel_rfl)
     | 1, _ => (show _ = _; kernel_rfl)
     | 2, _ => (show _ = _; kernel_rfl)
     | 3, _ => (show _ = _; kernel_rfl)
     | 4, _ => (show _ = _; kernel_rfl)
     | 5, _ => (show _ = _; kernel_rfl)
     | 6, _ => (show _ = _; kernel_rfl)
     | i + 7, hi => exact absurd hi (by omega)
    ·intro i hi he st w hC hd hu
     match i, hi, he with
     | 0, _, _ =>
      rcases st with _ | x346
      ·replace hC : St w0 Z (xrow x254.1 x254.2 39 3 (t251.flatMap enc_api_Pick) :: xblk b234 46 (enc_api_Final t225) :: xblk Q27 53 ([.func (.func 20) #[] #[.pointer (some ⟨Q28, 0, none⟩)]]) :: xblk Q28 25 ([.slice Q29 t24.To.length Q30, .int .u64 t24.Ends, .bool t24.Odd, .int .i64 t24.Holes]) :: xblk b180 46 (enc_api_Final t176) :: xrow Q152 Q153 9 1 (t150.flatMap encS) :: xrow Q154 Q155 4 1 (t151.flatMap encB) :: xrow x83.1 x83.2.1 9 1 (t79.flatMap encS) :: xrow x83.2.2.1 x83.2.2.2 4 1 (t80.flatMap encB) :: xrow A63 c64 39 3 (((([] : List api_Pick) ++ a1) ++ ([(⟨5, 0, 0⟩ : api_Pick)] : List api_Pick)).flatMap enc_api_Pick) :: xrow (some ⟨b57, 0, none⟩) 1 39 3 (([(⟨5, 0, 0⟩ : api_Pick)] : List api_Pick).flatMap enc_api_Pick) :: xblk b39 31 ([.string t22, cond t23 (.func (.func 21) #[] #[.pointer (some ⟨Q27, 0, none⟩), .pointer (some ⟨Q28, 0, none⟩)]) .nilFunc, cond t25 (.func (.func 22) #[] #[.pointer (some ⟨Q27, 0, none⟩), .pointer (some ⟨Q28, 0, none⟩)]) .nilFunc, cond t26 (.func (.func 23) #[] #[.pointer (some ⟨Q27, 0, none⟩), .pointer (some ⟨Q28, 0, none⟩)]) .nilFunc]) :: xblk b1 25 ([.slice Aa0_0 a0.To.length ca0_0, .int .u64 a0.Ends, .bool a0.Odd, .int .i64 a0.Holes]) :: fs) w := hC
       exact ⟨fun _ => does_run (x_load (t := 31) (x := (.tmp 5)) (p := ⟨b39, 0, none⟩) (v := .agg #[.string t22, cond t23 (.func (.func 21) #[] #[.pointer (some ⟨Q27, 0, none⟩), .pointer (some ⟨Q28, 0, none⟩)]) .nilFunc, cond t25 (.func (.func 22) #[] #[.pointer (some ⟨Q27, 0, none⟩), .pointer (some ⟨Q28, 0, none⟩)]) .nilFunc, cond t26 (.func (.func 23) #[] #[.pointer (some ⟨Q27, 0, none⟩), .pointer (some ⟨Q28, 0, none⟩)]) .nilFunc]) (by kernel_rfl) (loads_agg (hC.blk 11 rfl) (by kernel_rfl) (by kernel_rfl)) (by kernel_rfl)) rfl hC, fun h => absurd h (by decide)⟩
      ·exact Bool.noConfusion (hu 0 (by decide))
     | 1, _, _ =>
      rcases st with _ | x346
      ·replace hC : St w0 Z (xrow x254.1 x254.2 39 3 (t251.flatMap enc_api_Pick) :: xblk b234 46 (enc_api_Final t225) :: xblk Q27 53 ([.func (.func 20) #[] #[.pointer (some ⟨Q28, 0, none⟩)]]) :: xblk Q28 25 ([.slice Q29 t24.To.length Q30, .int .u64 t24.Ends, .bool t24.Odd, .int .i64 t24.Holes]) :: xblk b180 46 (enc_api_Final t176) :: xrow Q152 Q153 9 1 (t150.flatMap encS) :: xrow Q154 Q155 4 1 (t151.flatMap encB) :: xrow x83.1 x83.2.1 9 1 (t79.flatMap encS) :: xrow x83.2.2.1 x83.2.2.2 4 1 (t80.flatMap encB) :: xrow A63 c64 39 3 (((([] : List api_Pick) ++ a1) ++ ([(⟨5, 0, 0⟩ : api_Pick)] : List api_Pick)).flatMap enc_api_Pick) :: xrow (some ⟨b57, 0, none⟩) 1 39 3 (([(⟨5, 0, 0⟩ : api_Pick)] : List api_Pick).flatMap enc_api_Pick) :: xblk b39 31 ([.string t22, cond t23 (.func (.func 21) #[] #[.pointer (some ⟨Q27, 0, none⟩), .pointer (some ⟨Q28, 0, none⟩)]) .nilFunc, cond t25 (.func (.func 22) #[] #[.pointer (some ⟨Q27, 0, none⟩), .pointer (some ⟨Q28, 0, none⟩)]) .nilFunc, cond t26 (.func (.func 23) #[] #[.pointer (some ⟨Q27, 0, none⟩), .pointer (some ⟨Q28, 0, none⟩)]) .nilFunc]) :: xblk b1 25 ([.slice Aa0_0 a0.To.length ca0_0, .int .u64 a0.Ends, .bool a0.Odd, .int .i64 a0.Holes]) :: fs) w := hC
       exact ⟨fun _ => does_pure (v := .slice A63 ((([] : List api_Pick) ++ a1) ++ ([(⟨5, 0, 0⟩ : api_Pick)] : List api_Pick)).length c64) (by kernel_rfl) rfl hC, fun h => absurd h (by decide)⟩
      ·replace hC : St w0 Z (xrow x346.1 x346.2 39 3 (t343.flatMap enc_api_Pick) :: xrow x254.1 x254.2 39 3 (t251.flatMap enc_api_Pick) :: xblk b234 46 (enc_api_Final t225) :: xblk Q27 53 ([.func (.func 20) #[] #[.pointer (some ⟨Q28, 0, none⟩)]]) :: xblk Q28 25 ([.slice Q29 t24.To.length Q30, .int .u64 t24.Ends, .bool t24.Odd, .int .i64 t24.Holes]) :: xblk b180 46 (enc_api_Final t176) :: xrow Q152 Q153 9 1 (t150.flatMap encS) :: xrow Q154 Q155 4 1 (t151.flatMap encB) :: xrow x83.1 x83.2.1 9 1 (t79.flatMap encS) :: xrow x83.2.2.1 x83.2.2.2 4 1 (t80.flatMap encB) :: xrow A63 c64 39 3 (((([] : List api_Pick) ++ a1) ++ ([(⟨5, 0, 0⟩ : api_Pick)] : List api_Pick)).flatMap enc_api_Pick) :: xrow (some ⟨b57, 0, none⟩) 1 39 3 (([(⟨5, 0, 0⟩ : api_Pick)] : List api_Pick).flatMap enc_api_Pick) :: xblk b39 31 ([.string t22, cond t23 (.func (.func 21) #[] #[.pointer (some ⟨Q27, 0, none⟩), .pointer (some ⟨Q28, 0, none⟩)]) .nilFunc, cond t25 (.func (.func 22) #[] #[.pointer (some ⟨Q27, 0, none⟩), .pointer (some ⟨Q28, 0, none⟩)]) .nilFunc, cond t26 (.func (.func 23) #[] #[.pointer (some ⟨Q27, 0, none⟩), .pointer (some ⟨Q28, 0, none⟩)]) .nilFunc]) :: xblk b1 25 ([.slice Aa0_0 a0.To.length ca0_0, .int .u64 a0.Ends, .bool a0.Odd, .int .i64 a0.Holes]) :: fs) w := hC
       exact ⟨fun _ => does_pure (v := .slice A63 ((([] : List api_Pick) ++ a1) ++ ([(⟨5, 0, 0⟩ : api_Pick)] : List api_Pick)).length c64) (by kernel_rfl) rfl hC, fun h => absurd h (by decide)⟩
     | 2, _, _ =>
      rcases st with _ | x346
      ·replace hC : St w0 Z (xrow x254.1 x254.2 39 3 (t251.flatMap enc_api_Pick) :: xblk b234 46 (enc_api_Final t225) :: xblk Q27 53 ([.func (.func 20) #[] #[.pointer (some ⟨Q28, 0, none⟩)]]) :: xblk Q28 25 ([.slice Q29 t24.To.length Q30, .int .u64 t24.Ends, .bool t24.Odd, .int .i64 t24.Holes]) :: xblk b180 46 (enc_api_Final t176) :: xrow Q152 Q153 9 1 (t150.flatMap encS) :: xrow Q154 Q155 4 1 (t151.flatMap encB) :: xrow x83.1 x83.2.1 9 1 (t79.flatMap encS) :: xrow x83.2.2.1 x83.2.2.2 4 1 (t80.flatMap encB) :: xrow A63 c64 39 3 (((([] : List api_Pick) ++ a1) ++ ([(⟨5, 0, 0⟩ : api_Pick)] : List api_Pick)).flatMap enc_api_Pick) :: xrow (some ⟨b57, 0, none⟩) 1 39 3 (([(⟨5, 0, 0⟩ : api_Pick)] : List api_Pick).flatMap enc_api_Pick) :: xblk b39 31 ([.string t22, cond t23 (.func (.func 21) #[] #[.pointer (some ⟨Q27, 0, none⟩), .pointer (some ⟨Q28, 0, none⟩)]) .nilFunc, cond t25 (.func (.func 22) #[] #[.pointer (some ⟨Q27, 0, none⟩), .pointer (some ⟨Q28, 0, none⟩)]) .nilFunc, cond t26 (.func (.func 23) #[] #[.pointer (some ⟨Q27, 0, none⟩), .pointer (some ⟨Q28, 0, none⟩)]) .nilFunc]) :: xblk b1 25 ([.slice Aa0_0 a0.To.length ca0_0, .int .u64 a0.Ends, .bool a0.Odd, .int .i64 a0.Holes]) :: fs) w := hC
       exact ⟨fun _ => does_pure (v := .slice Aa1 a1.length ca1) (by kernel_rfl) rfl hC, fun h => absurd h (by decide)⟩
      ·replace hC : St w0 Z (xrow x346.1 x346.2 39 3 (t343.flatMap enc_api_Pick) :: xrow x254.1 x254.2 39 3 (t251.flatMap enc_api_Pick) :: xblk b234 46 (enc_api_Final t225) :: xblk Q27 53 ([.func (.func 20) #[] #[.pointer (some ⟨Q28, 0, none⟩)]]) :: xblk Q28 25 ([.slice Q29 t24.To.length Q30, .int .u64 t24.Ends, .bool t24.Odd, .int .i64 t24.Holes]) :: xblk b180 46 (enc_api_Final t176) :: xrow Q152 Q153 9 1 (t150.flatMap encS) :: xrow Q154 Q155 4 1 (t151.flatMap encB) :: xrow x83.1 x83.2.1 9 1 (t79.flatMap encS) :: xrow x83.2.2.1 x83.2.2.2 4 1 (t80.flatMap encB) :: xrow A63 c64 39 3 (((([] : List api_Pick) ++ a1) ++ ([(⟨5, 0, 0⟩ : api_Pick)] : List api_Pick)).flatMap enc_api_Pick) :: xrow (some ⟨b57, 0, none⟩) 1 39 3 (([(⟨5, 0, 0⟩ : api_Pick)] : List api_Pick).flatMap enc_api_Pick) :: xblk b39 31 ([.string t22, cond t23 (.func (.func 21) #[] #[.pointer (some ⟨Q27, 0, none⟩), .pointer (some ⟨Q28, 0, none⟩)]) .nilFunc, cond t25 (.func (.func 22) #[] #[.pointer (some ⟨Q27, 0, none⟩), .pointer (some ⟨Q28, 0, none⟩)]) .nilFunc, cond t26 (.func (.func 23) #[] #[.pointer (some ⟨Q27, 0, none⟩), .pointer (some ⟨Q28, 0, none⟩)]) .nilFunc]) :: xblk b1 25 ([.slice Aa0_0 a0.To.length ca0_0, .int .u64 a0.Ends, .bool a0.Odd, .int .i64 a0.Holes]) :: fs) w := hC
       exact ⟨fun _ => does_pure (v := .slice Aa1 a1.length ca1) (by kernel_rfl) rfl hC, fun h => absurd h (by decide)⟩
     | 3, _, _ =>
      rcases st with _ | x346
      ·replace hC : St w0 Z (xrow x254.1 x254.2 39 3 (t251.flatMap enc_api_Pick) :: xblk b234 46 (enc_api_Final t225) :: xblk Q27 53 ([.func (.func 20) #[] #[.pointer (some ⟨Q28, 0, none⟩)]]) :: xblk Q28 25 ([.slice Q29 t24.To.length Q30, .int .u64 t24.Ends, .bool t24.Odd, .int .i64 t24.Holes]) :: xblk b180 46 (enc_api_Final t176) :: xrow Q152 Q153 9 1 (t150.flatMap encS) :: xrow Q154 Q155 4 1 (t151.flatMap encB) :: xrow x83.1 x83.2.1 9 1 (t79.flatMap encS) :: xrow x83.2.2.1 x83.2.2.2 4 1 (t80.flatMap encB) :: xrow A63 c64 39 3 (((([] : List api_Pick) ++ a1) ++ ([(⟨5, 0, 0⟩ : api_Pick)] : List api_Pick)).flatMap enc_api_Pick) :: xrow (some ⟨b57, 0, none⟩) 1 39 3 (([(⟨5, 0, 0⟩ : api_Pick)] : List api_Pick).flatMap enc_api_Pick) :: xblk b39 31 ([.string t22, cond t23 (.func (.func 21) #[] #[.pointer (some ⟨Q27, 0, none⟩), .pointer (some ⟨Q28, 0, none⟩)]) .nilFunc, cond t25 (.func (.func 22) #[] #[.pointer (some ⟨Q27, 0, none⟩), .pointer (some ⟨Q28, 0, none⟩)]) .nilFunc, cond t26 (.func (.func 23) #[] #[.pointer (some ⟨Q27, 0, none⟩), .pointer (some ⟨Q28, 0, none⟩)]) .nilFunc]) :: xblk b1 25 ([.slice Aa0_0 a0.To.length ca0_0, .int .u64 a0.Ends, .bool a0.Odd, .int .i64 a0.Holes]) :: fs) w := hC
       exact ⟨fun _ => does_pure (v := .int .i64 (a1.length : Int)) (by kernel_rfl) rfl hC, fun h => absurd h (by decide)⟩
      ·replace hC : St w0 Z (xrow x346.1 x346.2 39 3 (t343.flatMap enc_api_Pick) :: xrow x254.1 x254.2 39 3 (t251.flatMap enc_api_Pick) :: xblk b234 46 (enc_api_Final t225) :: xblk Q27 53 ([.func (.func 20) #[] #[.pointer (some ⟨Q28, 0, none⟩)]]) :: xblk Q28 25 ([.slice Q29 t24.To.length Q30, .int .u64 t24.Ends, .bool t24.Odd, .int .i64 t24.Holes]) :: xblk b180 46 (enc_api_Final t176) :: xrow Q152 Q153 9 1 (t150.flatMap encS) :: xrow Q154 Q155 4 1 (t151.flatMap encB) :: xrow x83.1 x83.2.1 9 1 (t79.flatMap encS) :: xrow x83.2.2.1 x83.2.2.2 4 1 (t80.flatMap encB) :: xrow A63 c64 39 3 (((([] : List api_Pick) ++ a1) ++ ([(⟨5, 0, 0⟩ : api_Pick)] : List api_Pick)).flatMap enc_api_Pick) :: xrow (some ⟨b57, 0, none⟩) 1 39 3 (([(⟨5, 0, 0⟩ : api_Pick)] : List api_Pick).flatMap enc_api_Pick) :: xblk b39 31 ([.string t22, cond t23 (.func (.func 21) #[] #[.pointer (some ⟨Q27, 0, none⟩), .pointer (some ⟨Q28, 0, none⟩)]) .nilFunc, cond t25 (.func (.func 22) #[] #[.pointer (some ⟨Q27, 0, none⟩), .pointer (some ⟨Q28, 0, none⟩)]) .nilFunc, cond t26 (.func (.func 23) #[] #[.pointer (some ⟨Q27, 0, none⟩), .pointer (some ⟨Q28, 0, none⟩)]) .nilFunc]) :: xblk b1 25 ([.slice Aa0_0 a0.To.length ca0_0, .int .u64 a0.Ends, .bool a0.Odd, .int .i64 a0.Holes]) :: fs) w := hC
       exact ⟨fun _ => does_pure (v := .int .i64 (a1.length : Int)) (by kernel_rfl) rfl hC, fun h => absurd h (by decide)⟩
     | 4, _, _ =>
      rcases st with _ | x346
      ·replace hC : St w0 Z (xrow x254.1 x254.2 39 3 (t251.flatMap enc_api_Pick) :: xblk b234 46 (enc_api_Final t225) :: xblk Q27 53 ([.func (.func 20) #[] #[.pointer (some ⟨Q28, 0, none⟩)]]) :: xblk Q28 25 ([.slice Q29 t24.To.length Q30, .int .u64 t24.Ends, .bool t24.Odd, .int .i64 t24.Holes]) :: xblk b180 46 (enc_api_Final t176) :: xrow Q152 Q153 9 1 (t150.flatMap encS) :: xrow Q154 Q155 4 1 (t151.flatMap encB) :: xrow x83.1 x83.2.1 9 1 (t79.flatMap encS) :: xrow x83.2.2.1 x83.2.2.2 4 1 (t80.flatMap encB) :: xrow A63 c64 39 3 (((([] : List api_Pick) ++ a1) ++ ([(⟨5, 0, 0⟩ : api_Pick)] : List api_Pick)).flatMap enc_api_Pick) :: xrow (some ⟨b57, 0, none⟩) 1 39 3 (([(⟨5, 0, 0⟩ : api_Pick)] : List api_Pick).flatMap enc_api_Pick) :: xblk b39 31 ([.string t22, cond t23 (.func (.func 21) #[] #[.pointer (some ⟨Q27, 0, none⟩), .pointer (some ⟨Q28, 0, none⟩)]) .nilFunc, cond t25 (.func (.func 22) #[] #[.pointer (some ⟨Q27, 0, none⟩), .pointer (some ⟨Q28, 0, none⟩)]) .nilFunc, cond t26 (.func (.func 23) #[] #[.pointer (some ⟨Q27, 0, none⟩), .pointer (some ⟨Q28, 0, none⟩)]) .nilFunc]) :: xblk b1 25 ([.slice Aa0_0 a0.To.length ca0_0, .int .u64 a0.Ends, .bool a0.Odd, .int .i64 a0.Holes]) :: fs) w := hC
       exact ⟨fun _ => does_run (x_cutSl_nsC (t := 33) (x := (.tmp 72)) (hi := (.tmp 74)) (e := 39) (sz := 3) (A := A63) (n := ((([] : List api_Pick) ++ a1) ++ ([(⟨5, 0, 0⟩ : api_Pick)] : List api_Pick)).length) (c := c64) (k := .i64) (by kernel_rfl) (by kernel_rfl) (by kernel_rfl) (by kernel_rfl) g340 cut0 (by kernel_rfl)) rfl hC, fun h => absurd h (by decide)⟩
      ·exact Bool.noConfusion (hu 0 (by decide))
     | 5, _, he => exact absurd he (by decide)
     | 6, _, _ =>
      rcases st with _ | x346
      ·exact Bool.noConfusion (hd 0 (by decide))
      ·replace hC : St w0 Z (xrow x346.1 x346.2 39 3 (t343.flatMap enc_api_Pick) :: xrow x254.1 x254.2 39 3 (t251.flatMap enc_api_Pick) :: xblk b234 46 (enc_api_Final t225) :: xblk Q27 53 ([.func (.func 20) #[] #[.pointer (some ⟨Q28, 0, none⟩)]]) :: xblk Q28 25 ([.slice Q29 t24.To.length Q30, .int .u64 t24.Ends, .bool t24.Odd, .int .i64 t24.Holes]) :: xblk b180 46 (enc_api_Final t176) :: xrow Q152 Q153 9 1 (t150.flatMap encS) :: xrow Q154 Q155 4 1 (t151.flatMap encB) :: xrow x83.1 x83.2.1 9 1 (t79.flatMap encS) :: xrow x83.2.2.1 x83.2.2.2 4 1 (t80.flatMap encB) :: xrow A63 c64 39 3 (((([] : List api_Pick) ++ a1) ++ ([(⟨5, 0, 0⟩ : api_Pick)] : List api_Pick)).flatMap enc_api_Pick) :: xrow (some ⟨b57, 0, none⟩) 1 39 3 (([(⟨5, 0, 0⟩ : api_Pick)] : List api_Pick).flatMap enc_api_Pick) :: xblk b39 31 ([.string t22, cond t23 (.func (.func 21) #[] #[.pointer (some ⟨Q27, 0, none⟩), .pointer (some ⟨Q28, 0, none⟩)]) .nilFunc, cond t25 (.func (.func 22) #[] #[.pointer (some ⟨Q27, 0, none⟩), .pointer (some ⟨Q28, 0, none⟩)]) .nilFunc, cond t26 (.func (.func 23) #[] #[.pointer (some ⟨Q27, 0, none⟩), .pointer (some ⟨Q28, 0, none⟩)]) .nilFunc]) :: xblk b1 25 ([.slice Aa0_0 a0.To.length ca0_0, .int .u64 a0.Ends, .bool a0.Odd, .int .i64 a0.Holes]) :: fs) w := hC
       exact ⟨fun _ => does_pure (v := .slice x346.1 t343.length x346.2) (by kernel_rfl) rfl hC, fun h => absurd h (by decide)⟩
     | i + 7, hi, _ => exact absurd hi (by omega)
    ·intro k hk st w hC hr hm
     match k, hk with
     | 0, _ =>
      rcases st with _ | x346
      ·replace hC : St w0 Z (xrow x254.1 x254.2 39 3 (t251.flatMap enc_api_Pick) :: xblk b234 46 (enc_api_Final t225) :: xblk Q27 53 ([.func (.func 20) #[] #[.pointer (some ⟨Q28, 0, none⟩)]]) :: xblk Q28 25 ([.slice Q29 t24.To.length Q30, .int .u64 t24.Ends, .bool t24.Odd, .int .i64 t24.Holes]) :: xblk b180 46 (enc_api_Final t176) :: xrow Q152 Q153 9 1 (t150.flatMap encS) :: xrow Q154 Q155 4 1 (t151.flatMap encB) :: xrow x83.1 x83.2.1 9 1 (t79.flatMap encS) :: xrow x83.2.2.1 x83.2.2.2 4 1 (t80.flatMap encB) :: xrow A63 c64 39 3 (((([] : List api_Pick) ++ a1) ++ ([(⟨5, 0, 0⟩ : api_Pick)] : List api_Pick)).flatMap enc_api_Pick) :: xrow (some ⟨b57, 0, none⟩) 1 39 3 (([(⟨5, 0, 0⟩ : api_Pick)] : List api_Pick).flatMap enc_api_Pick) :: xblk b39 31 ([.string t22, cond t23 (.func (.func 21) #[] #[.pointer (some ⟨Q27, 0, none⟩), .pointer (some ⟨Q28, 0, none⟩)]) .nilFunc, cond t25 (.func (.func 22) #[] #[.pointer (some ⟨Q27, 0, none⟩), .pointer (some ⟨Q28, 0, none⟩)]) .nilFunc, cond t26 (.func (.func 23) #[] #[.pointer (some ⟨Q27, 0, none⟩), .pointer (some ⟨Q28, 0, none⟩)]) .nilFunc]) :: xblk b1 25 ([.slice Aa0_0 a0.To.length ca0_0, .int .u64 a0.Ends, .bool a0.Odd, .int .i64 a0.Holes]) :: fs) w := hC
       have hS398 := hC.pick9
       obtain ⟨Z399, hz400, hS401, hs402, hb403⟩ := hS398.lendrow len_api_Pick (by omega)
       have hS404 := hS401.pick3
       have hS405 := hS404.pick3
       refine does_call (g := 15) (args := #[.agg #[.string t22, cond t23 (.func (.func 21) #[] #[.pointer (some ⟨Q27, 0, none⟩), .pointer (some ⟨Q28, 0, none⟩)]) .nilFunc, cond t25 (.func (.func 22) #[] #[.pointer (some ⟨Q27, 0, none⟩), .pointer (some ⟨Q28, 0, none⟩)]) .nilFunc, cond t26 (.func (.func 23) #[] #[.pointer (some ⟨Q27, 0, none⟩), .pointer (some ⟨Q28, 0, none⟩)]) .nilFunc], .slice A63 ((a1.length : Int).toNat) c64]) (by kernel_rfl) (args_eq (by rw [lenTake g341]) (script_Straight.ok t22 t23 (⟨t24.To, t24.Ends, t24.Odd, t24.Holes⟩ : weirlaw15_Graph) t25 t26 (((([] : List api_Pick) ++ a1) ++ ([(⟨5, 0, 0⟩ : api_Pick)] : List api_Pick)).take ((a1.length : Int).toNat)) Q27 Q28 Q29 Q30 A63 c64 hS405 (SlZ.mono (mono_repL (mono_flat _)) hs38 hz400) (hs402.take0 ((a1.length : Int).toNat)) hr344)) ?_
       rintro e w2 ⟨m406, m407, rfl, h2⟩
       refine ⟨_, rfl, ?_⟩
       have hS408 := hb403 _ _ h2
       have hS409 := hS408.pick13
       have hS410 := hS409.pick13
       have hS411 := hS410.pick13
       have hS412 := hS411.pick3
       have hS413 := hS412.pick13
       have hS414 := hS413.pick13
       have hS415 := hS414.pick13
       have hS416 := hS415.pick13
       have hS417 := hS416.pick13
       have hS418 := hS417.pick11
       have hS419 := hS418.pick11
       have hS420 := hS419.pick13
       have hS421 := hS420.pick13
       have hS422 := hS421.pick13
       have h2 := hS422
       have h2 := h2.pick13
       have h2 := h2.pick13
       have h2 := h2.pick13
       have h2 := h2.pick13
       have h2 := h2.pick13
       have h2 := h2.pick13
       have h2 := h2.pick13
       have h2 := h2.pick13
       have h2 := h2.pick13
       have h2 := h2.pick13
       have h2 := h2.pick13
       have h2 := h2.pick13
       have h2 := h2.pick13
       have h2 := h2.pick13
       refine ⟨some (m406, m407), rfl, ?_, ?_, .inr rfl, h2⟩
       ·intro m hne; match m, hne with
        | 0, hne => exact absurd rfl hne
        | m + 1, _ => exact rfl
       ·intro j hj; match j, hj with
        | 0, hj => exact rfl
        | 1, hj => exact rfl
        | 2, hj => exact rfl
        | 3, hj => exact rfl
        | 4, hj => exact rfl
        | 5, hj => exact absurd (by decide) hj
        | 6, hj => exact absurd (by decide) hj
        | j + 7, _ => exact rfl
      ·exact Bool.noConfusion hr
     | k + 1, hk => exact absurd hk (by simp)
    intro st426 w423 hS424 hr425
    rcases st426 with _ | x346
    ·exact Bool.noConfusion (hr425 0 (Nat.lt_of_sub_eq_succ rfl))
    replace hS424 : St w0 Z (xrow x346.1 x346.2 39 3 (t343.flatMap enc_api_Pick) :: xrow x254.1 x254.2 39 3 (t251.flatMap enc_api_Pick) :: xblk b234 46 (enc_api_Final t225) :: xblk Q27 53 ([.func (.func 20) #[] #[.pointer (some ⟨Q28, 0, none⟩)]]) :: xblk Q28 25 ([.slice Q29 t24.To.length Q30, .int .u64 t24.Ends, .bool t24.Odd, .int .i64 t24.Holes]) :: xblk b180 46 (enc_api_Final t176) :: xrow Q152 Q153 9 1 (t150.flatMap encS) :: xrow Q154 Q155 4 1 (t151.flatMap encB) :: xrow x83.1 x83.2.1 9 1 (t79.flatMap encS) :: xrow x83.2.2.1 x83.2.2.2 4 1 (t80.flatMap encB) :: xrow A63 c64 39 3 (((([] : List api_Pick) ++ a1) ++ ([(⟨5, 0, 0⟩ : api_Pick)] : List api_Pick)).flatMap enc_api_Pick) :: xrow (some ⟨b57, 0, none⟩) 1 39 3 (([(⟨5, 0, 0⟩ : api_Pick)] : List api_Pick).flatMap enc_api_Pick) :: xblk b39 31 ([.string t22, cond t23 (.func (.func 21) #[] #[.pointer (some ⟨Q27, 0, none⟩), .pointer (some ⟨Q28, 0, none⟩)]) .nilFunc, cond t25 (.func (.func 22) #[] #[.pointer (some ⟨Q27, 0, none⟩), .pointer (some ⟨Q28, 0, none⟩)]) .nilFunc, cond t26 (.func (.func 23) #[] #[.pointer (some ⟨Q27, 0, none⟩), .pointer (some ⟨Q28, 0, none⟩)]) .nilFunc]) :: xblk b1 25 ([.slice Aa0_0 a0.To.length ca0_0, .int .u64 a0.Ends, .bool a0.Odd, .int .i64 a0.Holes]) :: fs) w423 := hS424
    refine sx_run 5 (todo' := [.inRegion (opsOf (cd4 [1, 1, 1, 1, 1, 1, 1, 1, 1, 1, 0, 0])) [2, 3, 4, 5, 6, 7, 8, 9, 10, 11, 12, 13, 14, 15, 16, 17, 18, 19, 20, 21, 22, 23, 24, 25, 26, 27, 28, 29, 30, 31, 32, 33, 34, 35], .code (cd4 [1, 1, 1, 1, 1, 1, 1, 1, 1, 1, 0, 1]), .code (cd4 [1, 1, 1, 1, 1, 1, 1, 1, 1, 1, 1])]) (us := [(77, .slice x83.1 t79.length x83.2.1), (78, .slice Q152 t150.length Q153)]) (by kernel_rfl) ?_
    obtain ⟨t427, hr428, hp429⟩ := bind_some' hp345
    have hS430 := hS424.pick8
    obtain ⟨Z431, hz432, hS433, hs434, hb435⟩ := hS430.lendrow len_encS (by omega)
    have hS436 := hS433.pick6
    obtain ⟨Z437, hz438, hS439, hs440, hb441⟩ := hS436.lendrow len_encS (by omega)
    refine r_call1 (c := (cd4 [1, 1, 1, 1, 1, 1, 1, 1, 1, 1, 0, 0])) (i := 2) (d := (some 79)) (g := 16) (args := #[.slice x83.1 t79.length x83.2.1, .slice Q152 t150.length Q153]) (by kernel_rfl) (by kernel_rfl) (by kernel_rfl) (by kernel_rfl) (weirlaw15_sameTexts.ok t79 t150 x83.1 x83.2.1 Q152 Q153 hS439 (hs434.up hz438) hs440 hr428) ?_
    rintro _ w442 ⟨rfl, hS443⟩
    refine ⟨.bool t427, rfl, ?_⟩
    have hS444 := hb441 _ _ hS443
    have hS445 := hb435 _ _ hS444
    refine sx_split 1 (todo' := [.inRegion (opsOf (cd4 [1, 1, 1, 1, 1, 1, 1, 1, 1, 1, 0, 0])) [4, 5, 6, 7, 8, 9, 10, 11, 12, 13, 14, 15, 16, 17, 18, 19, 20, 21, 22, 23, 24, 25, 26, 27, 28, 29, 30, 31, 32, 33, 34, 35], .code (cd4 [1, 1, 1, 1, 1, 1, 1, 1, 1, 1, 0, 1]), .code (cd4 [1, 1, 1, 1, 1, 1, 1, 1, 1, 1, 1])]) (us := []) (d := 80) (t := (!t427)) (by kernel_rfl) (fun h446 => ?_) (fun h447 => ?_)
    ·skip
     have hp448 := ite_t hp429 h446
     refine sx_run 38 (todo' := [.code (cd4 [1, 1, 1, 1, 1, 1, 1, 1, 1, 1, 0, 1, 0, 1]), .code (cd4 [1, 1, 1, 1, 1, 1, 1, 1, 1, 1, 1])]) (us := [(81, .bool true), (82, undef), (83, undef), (84, undef), (85, undef), (86, .bool true), (87, .bool true), (88, undef), (89, undef), (90, undef), (91, .bool true), (92, .bool true), (93, undef), (94, undef), (95, undef), (96, .bool true), (97, .bool true), (98, undef), (99, undef), (100, undef), (101, undef), (102, undef), (103, undef), (104, .bool true), (105, .bool true), (106, undef), (107, undef), (108, undef), (109, undef), (110, undef), (111, undef), (112, .bool true), (4, .bool false)]) (by kernel_rfl) ?_
     have hS449 := hS445.drop
     have hS450 := hS449.drop
     have hS451 := hS450.drop
     have hS452 := hS451.drop
     have hS453 := hS452.drop
     have hS454 := hS453.drop
     have hS455 := hS454.drop
     have hS456 := hS455.drop
     have hS457 := hS456.drop
     have hS458 := hS457.drop
     have hS459 := hS458.drop
     have hS460 := hS459.drop
     have hS461 := hS460.drop
     have hS462 := hS461.drop
     refine runs_ret (fn := Try.f4) (v := .bool false) Try.func4 (by kernel_rfl) ?_
     have hr463 := (Option.some.inj hp448)
     cases hr463
     exact hR _ _ ⟨rfl, hS462⟩
    ·skip
     have hp464 := ite_f hp429 h447
     refine sx_run 3 (todo' := [.inRegion (opsOf (cd4 [1, 1, 1, 1, 1, 1, 1, 1, 1, 1, 0, 0])) [7, 8, 9, 10, 11, 12, 13, 14, 15, 16, 17, 18, 19, 20, 21, 22, 23, 24, 25, 26, 27, 28, 29, 30, 31, 32, 33, 34, 35], .code (cd4 [1, 1, 1, 1, 1, 1, 1, 1, 1, 1, 0, 1]), .code (cd4 [1, 1, 1, 1, 1, 1, 1, 1, 1, 1, 1])]) (us := [(81, .bool false), (82, .slice x83.2.2.1 t80.length x83.2.2.2), (83, .slice Q154 t151.length Q155)]) (by kernel_rfl) ?_
     obtain ⟨t465, hr466, hp467⟩ := bind_some' hp464
     have hS468 := hS445.pick9
     obtain ⟨Z469, hz470, hS471, hs472, hb473⟩ := hS468.lendrow len_encB (by omega)
     have hS474 := hS471.pick8
     obtain ⟨Z475, hz476, hS477, hs478, hb479⟩ := hS474.lendrow len_encB (by omega)
     refine r_call1 (c := (cd4 [1, 1, 1, 1, 1, 1, 1, 1, 1, 1, 0, 0])) (i := 7) (d := (some 84)) (g := 17) (args := #[.slice x83.2.2.1 t80.length x83.2.2.2, .slice Q154 t151.length Q155]) (by kernel_rfl) (by kernel_rfl) (by kernel_rfl) (by kernel_rfl) (weirlaw15_sameBools.ok t80 t151 x83.2.2.1 x83.2.2.2 Q154 Q155 hS477 (hs472.up hz476) hs478 hr466) ?_
     rintro _ w480 ⟨rfl, hS481⟩
     refine ⟨.bool t465, rfl, ?_⟩
     have hS482 := hb479 _ _ hS481
     have hS483 := hb473 _ _ hS482
     refine sx_split 1 (todo' := [.inRegion (opsOf (cd4 [1, 1, 1, 1, 1, 1, 1, 1, 1, 1, 0, 0])) [9, 10, 11, 12, 13, 14, 15, 16, 17, 18, 19, 20, 21, 22, 23, 24, 25, 26, 27, 28, 29, 30, 31, 32, 33, 34, 35], .code (cd4 [1, 1, 1, 1, 1, 1, 1, 1, 1, 1, 0, 1]), .code (cd4 [1, 1, 1, 1, 1, 1, 1, 1, 1, 1, 1])]) (us := []) (d := 85) (t := (!t465)) (by kernel_rfl) (fun h484 => ?_) (fun h485 => ?_)
     ·skip
      have hp486 := ite_t hp467 h484
      refine sx_run 33 (todo' := [.code (cd4 [1, 1, 1, 1, 1, 1, 1, 1, 1, 1, 0, 1, 0, 1]), .code (cd4 [1, 1, 1, 1, 1, 1, 1, 1, 1, 1, 1])]) (us := [(86, .bool true), (87, .bool true), (88, undef), (89, undef), (90, undef), (91, .bool true), (92, .bool true), (93, undef), (94, undef), (95, undef), (96, .bool true), (97, .bool true), (98, undef), (99, undef), (100, undef), (101, undef), (102, undef), (103, undef), (104, .bool true), (105, .bool true), (106, undef), (107, undef), (108, undef), (109, undef), (110, undef), (111, undef), (112, .bool true), (4, .bool false)]) (by kernel_rfl) ?_
      have hS487 := hS483.drop
      have hS488 := hS487.drop
      have hS489 := hS488.drop
      have hS490 := hS489.drop
      have hS491 := hS490.drop
      have hS492 := hS491.drop
      have hS493 := hS492.drop
      have hS494 := hS493.drop
      have hS495 := hS494.drop
      have hS496 := hS495.drop
      have hS497 := hS496.drop
      have hS498 := hS497.drop
      have hS499 := hS498.drop
      have hS500 := hS499.drop
      refine runs_ret (fn := Try.f4) (v := .bool false) Try.func4 (by kernel_rfl) ?_
      have hr501 := (Option.some.inj hp486)
      cases hr501
      exact hR _ _ ⟨rfl, hS500⟩
     ·skip
      have hp502 := ite_f hp467 h485
      refine sx_run 2 (todo' := [.inRegion (opsOf (cd4 [1, 1, 1, 1, 1, 1, 1, 1, 1, 1, 0, 0])) [11, 12, 13, 14, 15, 16, 17, 18, 19, 20, 21, 22, 23, 24, 25, 26, 27, 28, 29, 30, 31, 32, 33, 34, 35], .code (cd4 [1, 1, 1, 1, 1, 1, 1, 1, 1, 1, 0, 1]), .code (cd4 [1, 1, 1, 1, 1, 1, 1, 1, 1, 1, 1])]) (us := [(86, .bool false), (87, .bool false)]) (by kernel_rfl) ?_
      refine r_load (c := (cd4 [1, 1, 1, 1, 1, 1, 1, 1, 1, 1, 0, 0])) (i := 11) (d := (some 88)) (ty := 46) (t := 46) (x := (.tmp 11)) (p := ⟨b180, 0, none⟩) (v := .agg (enc_api_Final t176).toArray) (by kernel_rfl) (by kernel_rfl) (by kernel_rfl) (loads_agg (hS483.blk 9 rfl) (by kernel_rfl) (lenK (len_api_Final _) (by kernel_rfl))) ?_
      refine r_load (c := (cd4 [1, 1, 1, 1, 1, 1, 1, 1, 1, 1, 0, 0])) (i := 12) (d := (some 89)) (ty := 46) (t := 46) (x := (.tmp 13)) (p := ⟨b234, 0, none⟩) (v := .agg (enc_api_Final t225).toArray) (by kernel_rfl) (by kernel_rfl) (by kernel_rfl) (loads_agg (hS483.blk 6 rfl) (by kernel_rfl) (lenK (len_api_Final _) (by kernel_rfl))) ?_
      refine r_val (c := (cd4 [1, 1, 1, 1, 1, 1, 1, 1, 1, 1, 0, 0])) (i := 13) (d := (some 90)) (ty := 4) (op := .binOp .neq 46 (.tmp 88) (.tmp 89) 46) (v := .bool (!(decide (t176 = t225)))) (by kernel_rfl) (by kernel_rfl) (fun o ho _ => x_neq_api_Final (by kernel_rfl) (by kernel_rfl) ho) ?_
      refine r_split (!(decide (t176 = t225))) (fun h503 => ?_) (fun h504 => ?_)
      ·skip
       have hp505 := ite_t hp502 h503
       refine sx_run 28 (todo' := [.code (cd4 [1, 1, 1, 1, 1, 1, 1, 1, 1, 1, 0, 1, 0, 1]), .code (cd4 [1, 1, 1, 1, 1, 1, 1, 1, 1, 1, 1])]) (us := [(91, .bool true), (92, .bool true), (93, undef), (94, undef), (95, undef), (96, .bool true), (97, .bool true), (98, undef), (99, undef), (100, undef), (101, undef), (102, undef), (103, undef), (104, .bool true), (105, .bool true), (106, undef), (107, undef), (108, undef), (109, undef), (110, undef), (111, undef), (112, .bool true), (4, .bool false)]) (by kernel_rfl) ?_
       have hS506 := hS483.drop
       have hS507 := hS506.drop
       have hS508 := hS507.drop
       have hS509 := hS508.drop
       have hS510 := hS509.drop
       have hS511 := hS510.drop
       have hS512 := hS511.drop
       have hS513 := hS512.drop
       have hS514 := hS513.drop
       have hS515 := hS514.drop
       have hS516 := hS515.drop
       have hS517 := hS516.drop
       have hS518 := hS517.drop
       have hS519 := hS518.drop
       refine runs_ret (fn := Try.f4) (v := .bool false) Try.func4 (by kernel_rfl) ?_
       have hr520 := (Option.some.inj hp505)
       cases hr520
       exact hR _ _ ⟨rfl, hS519⟩
      ·skip
       have hp521 := ite_f hp502 h504
       refine sx_split 5 (todo' := [.inRegion (opsOf (cd4 [1, 1, 1, 1, 1, 1, 1, 1, 1, 1, 0, 0])) [19, 20, 21, 22, 23, 24, 25, 26, 27, 28, 29, 30, 31, 32, 33, 34, 35], .code (cd4 [1, 1, 1, 1, 1, 1, 1, 1, 1, 1, 0, 1]), .code (cd4 [1, 1, 1, 1, 1, 1, 1, 1, 1, 1, 1])]) (us := [(91, .bool false), (92, .bool false), (93, .bool t177), (94, .bool t226)]) (d := 95) (t := (!(t177 == t226))) (by kernel_rfl) (fun h522 => ?_) (fun h523 => ?_)
       ·skip
        have hp524 := ite_t hp521 h522
        refine sx_run 23 (todo' := [.code (cd4 [1, 1, 1, 1, 1, 1, 1, 1, 1, 1, 0, 1, 0, 1]), .code (cd4 [1, 1, 1, 1, 1, 1, 1, 1, 1, 1, 1])]) (us := [(96, .bool true), (97, .bool true), (98, undef), (99, undef), (100, undef), (101, undef), (102, undef), (103, undef), (104, .bool true), (105, .bool true), (106, undef), (107, undef), (108, undef), (109, undef), (110, undef), (111, undef), (112, .bool true), (4, .bool false)]) (by kernel_rfl) ?_
        have hS525 := hS483.drop
        have hS526 := hS525.drop
        have hS527 := hS526.drop
        have hS528 := hS527.drop
        have hS529 := hS528.drop
        have hS530 := hS529.drop
        have hS531 := hS530.drop
        have hS532 := hS531.drop
        have hS533 := hS532.drop
        have hS534 := hS533.drop
        have hS535 := hS534.drop
        have hS536 := hS535.drop
        have hS537 := hS536.drop
        have hS538 := hS537.drop
        refine runs_ret (fn := Try.f4) (v := .bool false) Try.func4 (by kernel_rfl) ?_
        have hr539 := (Option.some.inj hp524)
        cases hr539
        exact hR _ _ ⟨rfl, hS538⟩
       ·skip
        have hp540 := ite_f hp521 h523
        refine sx_run 3 (todo' := [.inRegion (opsOf (cd4 [1, 1, 1, 1, 1, 1, 1, 1, 1, 1, 0, 0])) [22, 23, 24, 25, 26, 27, 28, 29, 30, 31, 32, 33, 34, 35], .code (cd4 [1, 1, 1, 1, 1, 1, 1, 1, 1, 1, 0, 1]), .code (cd4 [1, 1, 1, 1, 1, 1, 1, 1, 1, 1, 1])]) (us := [(96, .bool false), (97, .bool false), (98, .slice x254.1 t251.length x254.2)]) (by kernel_rfl) ?_
        refine r_load (c := (cd4 [1, 1, 1, 1, 1, 1, 1, 1, 1, 1, 0, 0])) (i := 22) (d := (some 99)) (ty := 31) (t := 31) (x := (.tmp 5)) (p := ⟨b39, 0, none⟩) (v := .agg #[.string t22, cond t23 (.func (.func 21) #[] #[.pointer (some ⟨Q27, 0, none⟩), .pointer (some ⟨Q28, 0, none⟩)]) .nilFunc, cond t25 (.func (.func 22) #[] #[.pointer (some ⟨Q27, 0, none⟩), .pointer (some ⟨Q28, 0, none⟩)]) .nilFunc, cond t26 (.func (.func 23) #[] #[.pointer (some ⟨Q27, 0, none⟩), .pointer (some ⟨Q28, 0, none⟩)]) .nilFunc]) (by kernel_rfl) (by kernel_rfl) (by kernel_rfl) (loads_agg (hS483.blk 12 rfl) (by kernel_rfl) (by kernel_rfl)) ?_
        refine sx_run 1 (todo' := [.inRegion (opsOf (cd4 [1, 1, 1, 1, 1, 1, 1, 1, 1, 1, 0, 0])) [24, 25, 26, 27, 28, 29, 30, 31, 32, 33, 34, 35], .code (cd4 [1, 1, 1, 1, 1, 1, 1, 1, 1, 1, 0, 1]), .code (cd4 [1, 1, 1, 1, 1, 1, 1, 1, 1, 1, 1])]) (us := [(100, .slice Aa1 a1.length ca1)]) (by kernel_rfl) ?_
        obtain ⟨t541, hr544, hp545⟩ := bind_some' hp540
        have hS548 := hS483.pick8
        have hS549 := hS548.pick8
        refine r_call1 (c := (cd4 [1, 1, 1, 1, 1, 1, 1, 1, 1, 1, 0, 0])) (i := 24) (d := (some 101)) (g := 18) (args := #[.agg #[.string t22, cond t23 (.func (.func 21) #[] #[.pointer (some ⟨Q27, 0, none⟩), .pointer (some ⟨Q28, 0, none⟩)]) .nilFunc, cond t25 (.func (.func 22) #[] #[.pointer (some ⟨Q27, 0, none⟩), .pointer (some ⟨Q28, 0, none⟩)]) .nilFunc, cond t26 (.func (.func 23) #[] #[.pointer (some ⟨Q27, 0, none⟩), .pointer (some ⟨Q28, 0, none⟩)]) .nilFunc], .slice Aa1 a1.length ca1]) (by kernel_rfl) (by kernel_rfl) (by kernel_rfl) (by kernel_rfl) (weirref15_Taken.ok t22 t23 (⟨t24.To, t24.Ends, t24.Odd, t24.Holes⟩ : weirlaw15_Graph) t25 t26 a1 Q27 Q28 Q29 Q30 Aa1 ca1 hS549 hs38 ha1 hr544) ?_
        rintro _ w550 ⟨Q542, Q543, rfl, hS551⟩
        refine ⟨.slice Q542 t541.length Q543, rfl, ?_⟩
        obtain ⟨t552, hr553, hp554⟩ := bind_some' hp545
        have hS555 := hS551.pick8
        obtain ⟨Z556, hz557, hS558, hs559, hb560⟩ := hS555.lendrow len_api_Pick (by omega)
        obtain ⟨Z561, hz562, hS563, hs564, hb565⟩ := hS558.lendrow len_api_Pick (by omega)
        refine r_call1 (c := (cd4 [1, 1, 1, 1, 1, 1, 1, 1, 1, 1, 0, 0])) (i := 25) (d := (some 102)) (g := 9) (args := #[.slice x254.1 t251.length x254.2, .slice Q542 t541.length Q543]) (by kernel_rfl) (by kernel_rfl) (by kernel_rfl) (by kernel_rfl) (weirlaw11_SamePicks.ok t251 t541 x254.1 x254.2 Q542 Q543 hS563 (hs559.up hz562) hs564 hr553) ?_
        rintro _ w566 ⟨rfl, hS567⟩
        refine ⟨.bool t552, rfl, ?_⟩
        have hS568 := hb565 _ _ hS567
        have hS569 := hb560 _ _ hS568
        refine sx_split 1 (todo' := [.inRegion (opsOf (cd4 [1, 1, 1, 1, 1, 1, 1, 1, 1, 1, 0, 0])) [27, 28, 29, 30, 31, 32, 33, 34, 35], .code (cd4 [1, 1, 1, 1, 1, 1, 1, 1, 1, 1, 0, 1]), .code (cd4 [1, 1, 1, 1, 1, 1, 1, 1, 1, 1, 1])]) (us := []) (d := 103) (t := (!t552)) (by kernel_rfl) (fun h570 => ?_) (fun h571 => ?_)
        ·skip
         have hp572 := ite_t hp554 h570
         refine sx_run 15 (todo' := [.code (cd4 [1, 1, 1, 1, 1, 1, 1, 1, 1, 1, 0, 1, 0, 1]), .code (cd4 [1, 1, 1, 1, 1, 1, 1, 1, 1, 1, 1])]) (us := [(104, .bool true), (105, .bool true), (106, undef), (107, undef), (108, undef), (109, undef), (110, undef), (111, undef), (112, .bool true), (4, .bool false)]) (by kernel_rfl) ?_
         have hS573 := hS569.drop
         have hS574 := hS573.drop
         have hS575 := hS574.drop
         have hS576 := hS575.drop
         have hS577 := hS576.drop
         have hS578 := hS577.drop
         have hS579 := hS578.drop
         have hS580 := hS579.drop
         have hS581 := hS580.drop
         have hS582 := hS581.drop
         have hS583 := hS582.drop
         have hS584 := hS583.drop
         have hS585 := hS584.drop
         have hS586 := hS585.drop
         have hS587 := hS586.drop
         refine runs_ret (fn := Try.f4) (v := .bool false) Try.func4 (by kernel_rfl) ?_
         have hr588 := (Option.some.inj hp572)
         cases hr588
         exact hR _ _ ⟨rfl, hS587⟩
        ·skip
         have hp589 := ite_f hp554 h571
         refine sx_run 3 (todo' := [.inRegion (opsOf (cd4 [1, 1, 1, 1, 1, 1, 1, 1, 1, 1, 0, 0])) [30, 31, 32, 33, 34, 35], .code (cd4 [1, 1, 1, 1, 1, 1, 1, 1, 1, 1, 0, 1]), .code (cd4 [1, 1, 1, 1, 1, 1, 1, 1, 1, 1, 1])]) (us := [(104, .bool false), (105, .bool false), (106, .slice x346.1 t343.length x346.2)]) (by kernel_rfl) ?_
         refine r_load (c := (cd4 [1, 1, 1, 1, 1, 1, 1, 1, 1, 1, 0, 0])) (i := 30) (d := (some 107)) (ty := 31) (t := 31) (x := (.tmp 5)) (p := ⟨b39, 0, none⟩) (v := .agg #[.string t22, cond t23 (.func (.func 21) #[] #[.pointer (some ⟨Q27, 0, none⟩), .pointer (some ⟨Q28, 0, none⟩)]) .nilFunc, cond t25 (.func (.func 22) #[] #[.pointer (some ⟨Q27, 0, none⟩), .pointer (some ⟨Q28, 0, none⟩)]) .nilFunc, cond t26 (.func (.func 23) #[] #[.pointer (some ⟨Q27, 0, none⟩), .pointer (some ⟨Q28, 0, none⟩)]) .nilFunc]) (by kernel_rfl) (by kernel_rfl) (by kernel_rfl) (loads_agg (hS569.blk 13 rfl) (by kernel_rfl) (by kernel_rfl)) ?_
         refine sx_run 1 (todo' := [.inRegion (opsOf (cd4 [1, 1, 1, 1, 1, 1, 1, 1, 1, 1, 0, 0])) [32, 33, 34, 35], .code (cd4 [1, 1, 1, 1, 1, 1, 1, 1, 1, 1, 0, 1]), .code (cd4 [1, 1, 1, 1, 1, 1, 1, 1, 1, 1, 1])]) (us := [(108, .slice Aa1 a1.length ca1)]) (by kernel_rfl) ?_
         obtain ⟨t590, hr593, hp594⟩ := bind_some' hp589
         have hS597 := hS569.pick3
         have hS598 := hS597.pick3
         refine r_call1 (c := (cd4 [1, 1, 1, 1, 1, 1, 1, 1, 1, 1, 0, 0])) (i := 32) (d := (some 109)) (g := 19) (args := #[.agg #[.string t22, cond t23 (.func (.func 21) #[] #[.pointer (some ⟨Q27, 0, none⟩), .pointer (some ⟨Q28, 0, none⟩)]) .nilFunc, cond t25 (.func (.func 22) #[] #[.pointer (some ⟨Q27, 0, none⟩), .pointer (some ⟨Q28, 0, none⟩)]) .nilFunc, cond t26 (.func (.func 23) #[] #[.pointer (some ⟨Q27, 0, none⟩), .pointer (some ⟨Q28, 0, none⟩)]) .nilFunc], .slice Aa1 a1.length ca1]) (by kernel_rfl) (by kernel_rfl) (by kernel_rfl) (by kernel_rfl) (weirref15_Straight.ok t22 t23 (⟨t24.To, t24.Ends, t24.Odd, t24.Holes⟩ : weirlaw15_Graph) t25 t26 a1 Q27 Q28 Q29 Q30 Aa1 ca1 hS598 hs38 ha1 hr593) ?_
         rintro _ w599 ⟨Q591, Q592, rfl, hS600⟩
         refine ⟨.slice Q591 t590.length Q592, rfl, ?_⟩
         obtain ⟨t601, hr602, hp603⟩ := bind_some' hp594
         have hS604 := hS600.pick9
         obtain ⟨Z605, hz606, hS607, hs608, hb609⟩ := hS604.lendrow len_api_Pick (by omega)
         obtain ⟨Z610, hz611, hS612, hs613, hb614⟩ := hS607.lendrow len_api_Pick (by omega)
         refine r_call1 (c := (cd4 [1, 1, 1, 1, 1, 1, 1, 1, 1, 1, 0, 0])) (i := 33) (d := (some 110)) (g := 9) (args := #[.slice x346.1 t343.length x346.2, .slice Q591 t590.length Q592]) (by kernel_rfl) (by kernel_rfl) (by kernel_rfl) (by kernel_rfl) (weirlaw11_SamePicks.ok t343 t590 x346.1 x346.2 Q591 Q592 hS612 (hs608.up hz611) hs613 hr602) ?_
         rintro _ w615 ⟨rfl, hS616⟩
         refine ⟨.bool t601, rfl, ?_⟩
         have hS617 := hb614 _ _ hS616
         have hS618 := hb609 _ _ hS617
         refine sx_split 1 (todo' := [.inRegion (opsOf (cd4 [1, 1, 1, 1, 1, 1, 1, 1, 1, 1, 0, 0])) [35], .code (cd4 [1, 1, 1, 1, 1, 1, 1, 1, 1, 1, 0, 1]), .code (cd4 [1, 1, 1, 1, 1, 1, 1, 1, 1, 1, 1])]) (us := []) (d := 111) (t := (!t601)) (by kernel_rfl) (fun h619 => ?_) (fun h620 => ?_)
         ·skip
          have hp621 := ite_t hp603 h619
          refine sx_run 7 (todo' := [.code (cd4 [1, 1, 1, 1, 1, 1, 1, 1, 1, 1, 0, 1, 0, 1]), .code (cd4 [1, 1, 1, 1, 1, 1, 1, 1, 1, 1, 1])]) (us := [(112, .bool true), (4, .bool false)]) (by kernel_rfl) ?_
          have hS622 := hS618.drop
          have hS623 := hS622.drop
          have hS624 := hS623.drop
          have hS625 := hS624.drop
          have hS626 := hS625.drop
          have hS627 := hS626.drop
          have hS628 := hS627.drop
          have hS629 := hS628.drop
          have hS630 := hS629.drop
          have hS631 := hS630.drop
          have hS632 := hS631.drop
          have hS633 := hS632.drop
          have hS634 := hS633.drop
          have hS635 := hS634.drop
          have hS636 := hS635.drop
          have hS637 := hS636.drop
          refine runs_ret (fn := Try.f4) (v := .bool false) Try.func4 (by kernel_rfl) ?_
          have hr638 := (Option.some.inj hp621)
          cases hr638
          exact hR _ _ ⟨rfl, hS637⟩
         ·skip
          have hp639 := ite_f hp603 h620
          refine sx_run 11 (todo' := [.code (cd4 [1, 1, 1, 1, 1, 1, 1, 1, 1, 1, 1, 0, 1, 0, 0]), .inLoop (cd4 [1, 1, 1, 1, 1, 1, 1, 1, 1, 1, 1, 0, 1, 0, 0]), .inBlock 0, .code (cd4 [1, 1, 1, 1, 1, 1, 1, 1, 1, 1, 1, 1])]) (us := [(112, .bool false), (17, .int .i64 0)]) (by kernel_rfl) ?_
          have hS640 := hS618.pick1
          have hS641 := hS640.drop
          have hS642 := hS641.pick1
          have hS643 := hS642.drop
          have hS644 := hS643.pick1
          have hS645 := hS644.drop
          have hS646 := hS645.pick2
          have hS647 := hS646.drop
          have hS648 := hS647.pick2
          have hS649 := hS648.drop
          have hS650 := hS649.pick2
          have hS651 := hS650.drop
          have hS652 := hS651.pick2
          have hS653 := hS652.drop
          have hS654 := hS653.pick2
          have hS655 := hS654.drop
          have hS656 := hS655.pick2
          have hS657 := hS656.drop
          have hS658 := hS657.pick2
          have hS659 := hS658.drop
          have hS660 := hS659.pick3
          have hS661 := hS660.drop
          have hS662 := hS661.pick3
          have hS663 := hS662.drop
          have hS664 := hS663.pick3
          have hS665 := hS664.drop
          obtain ⟨v666, hv667, hp668⟩ := bind_some' hp639
          have J671 : ∀ (he673 : () = v666) (l672 : List Value) (w669 : World) (hS670 : St w0 Z (xrow A63 c64 39 3 (((([] : List api_Pick) ++ a1) ++ ([(⟨5, 0, 0⟩ : api_Pick)] : List api_Pick)).flatMap enc_api_Pick) :: xrow x346.1 x346.2 39 3 (t343.flatMap enc_api_Pick) :: fs) w669), Runs Try.prog 4 [.code (cd4 [1, 1, 1, 1, 1, 1, 1, 1, 1, 1, 1, 1])] (fill [none, some (.slice Aa1 a1.length ca1), none, none, none, none, some (.slice A63 ((([] : List api_Pick) ++ a1) ++ ([(⟨5, 0, 0⟩ : api_Pick)] : List api_Pick)).length c64), none, none, none, none, none, none, none, none, none, some (.slice x346.1 t343.length x346.2), none, none, none, none, none, none, none, none, none, none, none, none, none, none, none, none, none, none, none, none, none, none, none, none, none, none, none, none, none, none, none, none, none, none, none, none, none, none, none, none, none, none, none, none, none, none, none, none, none, none, none, none, none, none, none, none, none, none, none, none, none, none, none, none, none, none, none, none, none, none, none, none, none, none, none, none, none, none, none, none, none, none, none, none, none, none, none, none, none, none, none, none, none, none, none, none, none, none, none, none, none, none, none, none, none, none, none, none, none, none, none, none, none, none, none, none, none, none, none, none, none, none, none, none, none, none, none, none, none, none, none] l672) w669 R := by
           intro he673 l672 w669 hS670
           subst he673
           try dsimp only at hp668
           refine sx_run 7 (todo' := [.code (cd4 [1, 1, 1, 1, 1, 1, 1, 1, 1, 1, 1, 1, 0, 1, 0, 0]), .inLoop (cd4 [1, 1, 1, 1, 1, 1, 1, 1, 1, 1, 1, 1, 0, 1, 0, 0]), .inBlock 2, .code (cd4 [1, 1, 1, 1, 1, 1, 1, 1, 1, 1, 1, 1, 1])]) (us := [(18, .int .i64 0)]) (by kernel_rfl) ?_
           obtain ⟨v674, hv675, hp676⟩ := bind_some' hp668
           have J679 : ∀ (he681 : () = v674) (l680 : List Value) (w677 : World) (hS678 : St w0 Z (xrow A63 c64 39 3 (((([] : List api_Pick) ++ a1) ++ ([(⟨5, 0, 0⟩ : api_Pick)] : List api_Pick)).flatMap enc_api_Pick) :: fs) w677), Runs Try.prog 4 [.code (cd4 [1, 1, 1, 1, 1, 1, 1, 1, 1, 1, 1, 1, 1])] (fill [none, some (.slice Aa1 a1.length ca1), none, none, none, none, some (.slice A63 ((([] : List api_Pick) ++ a1) ++ ([(⟨5, 0, 0⟩ : api_Pick)] : List api_Pick)).length c64), none, none, none, none, none, none, none, none, none, none, none, none, none, none, none, none, none, none, none, none, none, none, none, none, none, none, none, none, none, none, none, none, none, none, none, none, none, none, none, none, none, none, none, none, none, none, none, none, none, none, none, none, none, none, none, none, none, none, none, none, none, none, none, none, none, none, none, none, none, none, none, none, none, none, none, none, none, none, none, none, none, none, none, none, none, none, none, none, none, none, none, none, none, none, none, none, none, none, none, none, none, none, none, none, none, none, none, none, none, none, none, none, none, none, none, none, none, none, none, none, none, none, none, none, none, none, none, none, none, none, none, none, none, none, none, none, none, none, none, none, none] l680) w677 R := by
            intro he681 l680 w677 hS678
            subst he681
            try dsimp only at hp676
            refine sx_run 5 (todo' := [.inRegion (opsOf (cd4 [1, 1, 1, 1, 1, 1, 1, 1, 1, 1, 1, 1, 1, 0])) [3, 4, 5, 6, 7, 8, 9, 10, 11, 12, 13, 14, 15], .code (cd4 [1, 1, 1, 1, 1, 1, 1, 1, 1, 1, 1, 1, 1, 1])]) (us := [(133, .slice A63 ((([] : List api_Pick) ++ a1) ++ ([(⟨5, 0, 0⟩ : api_Pick)] : List api_Pick)).length c64), (134, .slice Aa1 a1.length ca1), (135, .int .i64 (a1.length : Int))]) (by kernel_rfl) ?_
            obtain ⟨g682, hp683⟩ := ite_some hp676
            have hc684 := (hS678.row 0 rfl).cap len_api_Pick (by omega)
            have g685 : 0 ≤ (a1.length : Int) ∧ (a1.length : Int) ≤ (c64 : Int) := by omega
            refine r_val (c := (cd4 [1, 1, 1, 1, 1, 1, 1, 1, 1, 1, 1, 1, 1, 0])) (i := 3) (d := (some 136)) (ty := 33) (op := .slice 33 (.tmp 133) none (some (.tmp 135)) none) (v := .slice A63 ((a1.length : Int).toNat) c64) (by kernel_rfl) (by kernel_rfl) (fun o ho _ => x_cutSl_nsC (e := 39) (sz := 3) (A := A63) (n := ((([] : List api_Pick) ++ a1) ++ ([(⟨5, 0, 0⟩ : api_Pick)] : List api_Pick)).length) (c := c64) (k := .i64) (by kernel_rfl) (by kernel_rfl) (by kernel_rfl) (by kernel_rfl) g685 cut0 ho) ?_
            refine sx_run 1 (todo' := [.inRegion (opsOf (cd4 [1, 1, 1, 1, 1, 1, 1, 1, 1, 1, 1, 1, 1, 0])) [5, 6, 7, 8, 9, 10, 11, 12, 13, 14, 15], .code (cd4 [1, 1, 1, 1, 1, 1, 1, 1, 1, 1, 1, 1, 1, 1])]) (us := [(137, .slice Aa1 a1.length ca1)]) (by kernel_rfl) ?_
            obtain ⟨g686, hp687⟩ := ite_some hp683
            obtain ⟨t688, hr689, hp690⟩ := bind_some' hp687
            obtain ⟨Z691, hz692, hS693, hs694, hb695⟩ := hS678.lendrow len_api_Pick (by omega)
            refine r_call1 (c := (cd4 [1, 1, 1, 1, 1, 1, 1, 1, 1, 1, 1, 1, 1, 0])) (i := 5) (d := (some 138)) (g := 9) (args := #[.slice A63 ((a1.length : Int).toNat) c64, .slice Aa1 a1.length ca1]) (by kernel_rfl) (by kernel_rfl) (by kernel_rfl) (by kernel_rfl) (args_eq (by rw [lenTake g686]) (weirlaw11_SamePicks.ok (((([] : List api_Pick) ++ a1) ++ ([(⟨5, 0, 0⟩ : api_Pick)] : List api_Pick)).take ((a1.length : Int).toNat)) a1 A63 c64 Aa1 ca1 hS693 (hs694.take0 ((a1.length : Int).toNat)) (ha1.up hz692) hr689)) ?_
            rintro _ w696 ⟨rfl, hS697⟩
            refine ⟨.bool t688, rfl, ?_⟩
            have hS698 := hb695 _ _ hS697
            refine sx_run 1 (todo' := [.inRegion (opsOf (cd4 [1, 1, 1, 1, 1, 1, 1, 1, 1, 1, 1, 1, 1, 0])) [7, 8, 9, 10, 11, 12, 13, 14, 15], .code (cd4 [1, 1, 1, 1, 1, 1, 1, 1, 1, 1, 1, 1, 1, 1])]) (us := [(139, .bool t688)]) (by kernel_rfl) ?_
            cases t688
            ·skip
             have hp699 := ite_f hp690 rfl
             refine sx_run 10 (todo' := [.code (cd4 [1, 1, 1, 1, 1, 1, 1, 1, 1, 1, 1, 1, 1, 1])]) (us := [(140, undef), (141, undef), (142, undef), (143, undef), (144, undef), (145, undef), (146, undef), (147, .bool false), (4, .bool false)]) (by kernel_rfl) ?_
             have hS700 := hS698.drop
             refine runs_ret (fn := Try.f4) (v := .bool false) Try.func4 (by kernel_rfl) ?_
             have hr701 := (Option.some.inj hp699)
             cases hr701
             exact hR _ _ ⟨rfl, hS700⟩
            ·skip
             have hp702 := ite_t hp690 rfl
             refine sx_run 3 (todo' := [.inRegion (opsOf (cd4 [1, 1, 1, 1, 1, 1, 1, 1, 1, 1, 1, 1, 1, 0])) [10, 11, 12, 13, 14, 15], .code (cd4 [1, 1, 1, 1, 1, 1, 1, 1, 1, 1, 1, 1, 1, 1])]) (us := [(140, .slice A63 ((([] : List api_Pick) ++ a1) ++ ([(⟨5, 0, 0⟩ : api_Pick)] : List api_Pick)).length c64), (141, .slice Aa1 a1.length ca1), (142, .int .i64 (a1.length : Int))]) (by kernel_rfl) ?_
             obtain ⟨g703, hp704⟩ := ite_some hp702
             obtain ⟨b705, p706, hA707, -⟩ := (hS698.row 0 rfl).at_ len_api_Pick (by omega) g703.1 g703.2
             refine r_indexAddr (c := (cd4 [1, 1, 1, 1, 1, 1, 1, 1, 1, 1, 1, 1, 1, 0])) (i := 10) (d := (some 143)) (ty := 0) (t := 33) (e := 39) (n := ((([] : List api_Pick) ++ a1) ++ ([(⟨5, 0, 0⟩ : api_Pick)] : List api_Pick)).length) (cp := c64) (sz := 3) (kk := .i64) (x := (.tmp 140)) (y := (.tmp 142)) (b := b705) (o' := p706) (j := (a1.length : Int)) (by kernel_rfl) (by kernel_rfl) (slv (by kernel_rfl) hA707) (by kernel_rfl) (by kernel_rfl) (by kernel_rfl) g703.1 g703.2 ?_
             refine sx_run 1 (todo' := [.inRegion (opsOf (cd4 [1, 1, 1, 1, 1, 1, 1, 1, 1, 1, 1, 1, 1, 0])) [12, 13, 14, 15], .code (cd4 [1, 1, 1, 1, 1, 1, 1, 1, 1, 1, 1, 1, 1, 1])]) (us := [(144, .pointer (some ⟨b705, p706 + (a1.length : Int).toNat * 3, none⟩))]) (by kernel_rfl) ?_
             refine r_load (c := (cd4 [1, 1, 1, 1, 1, 1, 1, 1, 1, 1, 1, 1, 1, 0])) (i := 12) (d := (some 145)) (ty := 3) (t := 3) (x := (.tmp 144)) (p := ⟨b705, p706 + (a1.length : Int).toNat * 3, none⟩) (v := .int .i64 ((gt ((([] : List api_Pick) ++ a1) ++ ([(⟨5, 0, 0⟩ : api_Pick)] : List api_Pick)) (a1.length : Int)).Thread)) (by kernel_rfl) (by kernel_rfl) (by kernel_rfl) (loads_at 0 ((hS698.row 0 rfl).at2 hA707 len_api_Pick (by omega) g703.1 g703.2) (by kernel_rfl) (by kernel_rfl)) ?_
             refine sx_split 1 (todo' := [.inRegion (opsOf (cd4 [1, 1, 1, 1, 1, 1, 1, 1, 1, 1, 1, 1, 1, 0])) [14, 15], .code (cd4 [1, 1, 1, 1, 1, 1, 1, 1, 1, 1, 1, 1, 1, 1])]) (us := []) (d := 146) (t := (((gt ((([] : List api_Pick) ++ a1) ++ ([(⟨5, 0, 0⟩ : api_Pick)] : List api_Pick)) (a1.length : Int)).Thread) == 5)) (by kernel_rfl) (fun h709 => ?_) (fun h710 => ?_)
             ·skip
              have hp711 := ite_t hp704 h709
              refine sx_run 3 (todo' := [.code (cd4 [1, 1, 1, 1, 1, 1, 1, 1, 1, 1, 1, 1, 1, 1])]) (us := [(147, .bool true), (4, .bool true)]) (by kernel_rfl) ?_
              have hS712 := hS698.drop
              refine runs_ret (fn := Try.f4) (v := .bool true) Try.func4 (by kernel_rfl) ?_
              have hr713 := (Option.some.inj hp711)
              cases hr713
              exact hR _ _ ⟨rfl, hS712⟩
             ·skip
              have hp714 := ite_f hp704 h710
              refine sx_run 3 (todo' := [.code (cd4 [1, 1, 1, 1, 1, 1, 1, 1, 1, 1, 1, 1, 1, 1])]) (us := [(147, .bool false), (4, .bool false)]) (by kernel_rfl) ?_
              have hS715 := hS698.drop
              refine runs_ret (fn := Try.f4) (v := .bool false) Try.func4 (by kernel_rfl) ?_
              have hr716 := (Option.some.inj hp714)
              cases hr716
              exact hR _ _ ⟨rfl, hS715⟩
           have L727 : ∀ (t717 : Int) (t718 : List api_Pick) (e722 : Unit), weirlaw15_ScriptReplays.l1 t717 t718 = some e722 → e722 = v674 → ∀ (l721 : List Value) (w719 : World) (hS720 : St w0 Z (xrow A63 c64 39 3 (((([] : List api_Pick) ++ a1) ++ ([(⟨5, 0, 0⟩ : api_Pick)] : List api_Pick)).flatMap enc_api_Pick) :: xrow x346.1 x346.2 39 3 (t718.flatMap enc_api_Pick) :: fs) w719), Runs Try.prog 4 [.code (cd4 [1, 1, 1, 1, 1, 1, 1, 1, 1, 1, 1, 1, 0, 1, 0, 0]), .inLoop (cd4 [1, 1, 1, 1, 1, 1, 1, 1, 1, 1, 1, 1, 0, 1, 0, 0]), .inBlock 2, .code (cd4 [1, 1, 1, 1, 1, 1, 1, 1, 1, 1, 1, 1, 1])] (fill [none, some (.slice Aa1 a1.length ca1), none, none, none, none, some (.slice A63 ((([] : List api_Pick) ++ a1) ++ ([(⟨5, 0, 0⟩ : api_Pick)] : List api_Pick)).length c64), none, none, none, none, none, none, none, none, none, some (.slice x346.1 t718.length x346.2), none, some (.int .i64 t717), none, none, none, none, none, none, none, none, none, none, none, none, none, none, none, none, none, none, none, none, none, none, none, none, none, none, none, none, none, none, none, none, none, none, none, none, none, none, none, none, none, none, none, none, none, none, none, none, none, none, none, none, none, none, none, none, none, none, none, none, none, none, none, none, none, none, none, none, none, none, none, none, none, none, none, none, none, none, none, none, none, none, none, none, none, none, none, none, none, none, none, none, none, none, none, none, none, none, none, none, none, none, none, none, none, none, none, none, none, none, none, none, none, none, none, none, none, none, none, none, none, none, none, none, none, none, none, none, none] l721) w719 R := by
            refine weirlaw15_ScriptReplays.l1.partial_correctness (fun t717 t718 e722 => e722 = v674 → ∀ (l721 : List Value) (w719 : World) (hS720 : St w0 Z (xrow A63 c64 39 3 (((([] : List api_Pick) ++ a1) ++ ([(⟨5, 0, 0⟩ : api_Pick)] : List api_Pick)).flatMap enc_api_Pick) :: xrow x346.1 x346.2 39 3 (t718.flatMap enc_api_Pick) :: fs) w719), Runs Try.prog 4 [.code (cd4 [1, 1, 1, 1, 1, 1, 1, 1, 1, 1, 1, 1, 0, 1, 0, 0]), .inLoop (cd4 [1, 1, 1, 1, 1, 1, 1, 1, 1, 1, 1, 1, 0, 1, 0, 0]), .inBlock 2, .code (cd4 [1, 1, 1, 1, 1, 1, 1, 1, 1, 1, 1, 1, 1])] (fill [none, some (.slice Aa1 a1.length ca1), none, none, none, none, some (.slice A63 ((([] : List api_Pick) ++ a1) ++ ([(⟨5, 0, 0⟩ : api_Pick)] : List api_Pick)).length c64), none, none, none, none, none, none, none, none, none, some (.slice x346.1 t718.length x346.2), none, some (.int .i64 t717), none, none, none, none, none, none, none, none, none, none, none, none, none, none, none, none, none, none, none, none, none, none, none, none, none, none, none, none, none, none, none, none, none, none, none, none, none, none, none, none, none, none, none, none, none, none, none, none, none, none, none, none, none, none, none, none, none, none, none, none, none, none, none, none, none, none, none, none, none, none, none, none, none, none, none, none, none, none, none, none, none, none, none, none, none, none, none, none, none, none, none, none, none, none, none, none, none, none, none, none, none, none, none, none, none, none, none, none, none, none, none, none, none, none, none, none, none, none, none, none, none, none, none, none, none, none, none, none, none] l721) w719 R) ?_
            intro rec726 ih725 t717 t718 e722 hb724 he723 l721 w719 hS720
            refine sx_split 7 (todo' := [.inRegion (opsOf (cd4 [1, 1, 1, 1, 1, 1, 1, 1, 1, 1, 1, 1, 0, 1, 0, 0, 0, 0])) [], .code (cd4 [1, 1, 1, 1, 1, 1, 1, 1, 1, 1, 1, 1, 0, 1, 0, 0, 0, 1]), .code (cd4 [1, 1, 1, 1, 1, 1, 1, 1, 1, 1, 1, 1, 0, 1, 0, 0, 1]), .inLoop (cd4 [1, 1, 1, 1, 1, 1, 1, 1, 1, 1, 1, 1, 0, 1, 0, 0]), .inBlock 2, .code (cd4 [1, 1, 1, 1, 1, 1, 1, 1, 1, 1, 1, 1, 1])]) (us := [(123, .int .i64 t717), (124, .slice x346.1 t718.length x346.2), (125, .int .i64 (t718.length : Int))]) (d := 126) (t := (decide (t717 < (t718.length : Int)))) (by kernel_rfl) (fun h728 => ?_) (fun h729 => ?_)
            ·skip
             have hp730 := ite_t hb724 h728
             refine sx_run 9 (todo' := [.inRegion (opsOf (cd4 [1, 1, 1, 1, 1, 1, 1, 1, 1, 1, 1, 1, 0, 1, 0, 0, 1, 0, 0])) [3, 4], .inBlock 3, .code (cd4 [1, 1, 1, 1, 1, 1, 1, 1, 1, 1, 1, 1, 0, 1, 0, 0, 1, 1]), .inLoop (cd4 [1, 1, 1, 1, 1, 1, 1, 1, 1, 1, 1, 1, 0, 1, 0, 0]), .inBlock 2, .code (cd4 [1, 1, 1, 1, 1, 1, 1, 1, 1, 1, 1, 1, 1])]) (us := [(129, .slice x346.1 t718.length x346.2), (130, .int .i64 t717), (131, .agg (enc_api_Pick (⟨(-2), 0, 0⟩ : api_Pick)).toArray)]) (by kernel_rfl) ?_
             obtain ⟨g731, hp732⟩ := ite_some hp730
             obtain ⟨b733, p734, hA735, -⟩ := (hS720.row 1 rfl).at_ len_api_Pick (by omega) g731.1 g731.2
             refine r_indexAddr (c := (cd4 [1, 1, 1, 1, 1, 1, 1, 1, 1, 1, 1, 1, 0, 1, 0, 0, 1, 0, 0])) (i := 3) (d := (some 132)) (ty := 0) (t := 33) (e := 39) (n := t718.length) (cp := x346.2) (sz := 3) (kk := .i64) (x := (.tmp 129)) (y := (.tmp 130)) (b := b733) (o' := p734) (j := t717) (by kernel_rfl) (by kernel_rfl) (slv (by kernel_rfl) hA735) (by kernel_rfl) (by kernel_rfl) (by kernel_rfl) g731.1 g731.2 ?_
             have hS737 := hS720.pick1
             refine r_storeEl (c := (cd4 [1, 1, 1, 1, 1, 1, 1, 1, 1, 1, 1, 1, 0, 1, 0, 0, 1, 0, 0])) (i := 4) (d := none) (ty := 0) (enc := enc_api_Pick) (e := 39) (t := 39) (sz := 3) (cp := x346.2) (A := x346.1) (xs := t718) (x := (.tmp 132)) (y := (.tmp 131)) (el := gt t718 t717) (el' := (⟨(-2), 0, 0⟩ : api_Pick)) (j := t717) (off := 0) (b := b733) (p := p734) (v := .agg (enc_api_Pick (⟨(-2), 0, 0⟩ : api_Pick)).toArray) (vs := enc_api_Pick (⟨(-2), 0, 0⟩ : api_Pick)) (ad := ⟨b733, p734 + t717.toNat * 3, none⟩) hS737 (by kernel_rfl) (by kernel_rfl) (by kernel_rfl) (by simp) (by kernel_rfl) hA735 g731 rfl len_api_Pick (by kernel_rfl) (by kernel_rfl) (one_api_Pick _) (by rw [len_api_Pick]; omega) (by rw [len_api_Pick]; omega) (by kernel_rfl) ?_
             intro w738 hS739
             refine Runs.fill (m := [none, none, none, none, none, none, none, none, none, none, none, none, none, none, none, none, some (.slice x346.1 t718.length x346.2), none, none, none, none, none, none, none, none, none, none, none, none, none, none, none, none, none, none, none, none, none, none, none, none, none, none, none, none, none, none, none, none, none, none, none, none, none, none, none, none, none, none, none, none, none, none, none, none, none, none, none, none, none, none, none, none, none, none, none, none, none, none, none, none, none, none, none, none, none, none, none, none, none, none, none, none, none, none, none, none, none, none, none, none, none, none, none, none, none, none, none, none, none, none, none, none, none, none, none, none, none, none, none, none, none, none, none, some (.slice x346.1 t718.length x346.2), none, none, none, none, some (.slice x346.1 t718.length x346.2), none, none, none, none, none, none, none, none, none, none, none, none, none, none, none, none, none, none]) (by kernel_rfl) ?_
             refine Runs.refill (m' := [none, none, none, none, none, none, none, none, none, none, none, none, none, none, none, none, some (.slice x346.1 (setl t718 t717 (⟨(-2), 0, 0⟩ : api_Pick)).length x346.2), none, none, none, none, none, none, none, none, none, none, none, none, none, none, none, none, none, none, none, none, none, none, none, none, none, none, none, none, none, none, none, none, none, none, none, none, none, none, none, none, none, none, none, none, none, none, none, none, none, none, none, none, none, none, none, none, none, none, none, none, none, none, none, none, none, none, none, none, none, none, none, none, none, none, none, none, none, none, none, none, none, none, none, none, none, none, none, none, none, none, none, none, none, none, none, none, none, none, none, none, none, none, none, none, none, none, none, some (.slice x346.1 (setl t718 t717 (⟨(-2), 0, 0⟩ : api_Pick)).length x346.2), none, none, none, none, some (.slice x346.1 (setl t718 t717 (⟨(-2), 0, 0⟩ : api_Pick)).length x346.2), none, none, none, none, none, none, none, none, none, none, none, none, none, none, none, none, none, none]) (by simp only [setl_len]) ?_
             refine sx_run 7 (todo' := [.inLoop (cd4 [1, 1, 1, 1, 1, 1, 1, 1, 1, 1, 1, 1, 0, 1, 0, 0]), .inBlock 2, .code (cd4 [1, 1, 1, 1, 1, 1, 1, 1, 1, 1, 1, 1, 1])]) (us := [(127, .int .i64 t717), (128, .int .i64 (IntKind.i64.wrap (t717 + 1))), (18, .int .i64 (IntKind.i64.wrap (t717 + 1)))]) (by kernel_rfl) ?_
             have hS740 := hS739.pick1
             refine sx_run 1 (todo' := [.code (cd4 [1, 1, 1, 1, 1, 1, 1, 1, 1, 1, 1, 1, 0, 1, 0, 0]), .inLoop (cd4 [1, 1, 1, 1, 1, 1, 1, 1, 1, 1, 1, 1, 0, 1, 0, 0]), .inBlock 2, .code (cd4 [1, 1, 1, 1, 1, 1, 1, 1, 1, 1, 1, 1, 1])]) (us := []) (by kernel_rfl) ?_
             refine Runs.fill (m := [none, some (.slice Aa1 a1.length ca1), none, none, none, none, some (.slice A63 ((([] : List api_Pick) ++ a1) ++ ([(⟨5, 0, 0⟩ : api_Pick)] : List api_Pick)).length c64), none, none, none, none, none, none, none, none, none, some (.slice x346.1 (setl t718 t717 (⟨(-2), 0, 0⟩ : api_Pick)).length x346.2), none, some (.int .i64 (IntKind.i64.wrap (t717 + 1))), none, none, none, none, none, none, none, none, none, none, none, none, none, none, none, none, none, none, none, none, none, none, none, none, none, none, none, none, none, none, none, none, none, none, none, none, none, none, none, none, none, none, none, none, none, none, none, none, none, none, none, none, none, none, none, none, none, none, none, none, none, none, none, none, none, none, none, none, none, none, none, none, none, none, none, none, none, none, none, none, none, none, none, none, none, none, none, none, none, none, none, none, none, none, none, none, none, none, none, none, none, none, none, none, none, none, none, none, none, none, none, none, none, none, none, none, none, none, none, none, none, none, none, none, none, none, none, none, none]) (by kernel_rfl) ?_
             exact ih725 (IntKind.i64.wrap (t717 + 1)) (setl t718 t717 (⟨(-2), 0, 0⟩ : api_Pick)) _ hp732 he723 _ _ hS740
            ·skip
             have hp741 := ite_f hb724 h729
             refine sx_run 3 (todo' := [.code (cd4 [1, 1, 1, 1, 1, 1, 1, 1, 1, 1, 1, 1, 1])]) (us := []) (by kernel_rfl) ?_
             have hS742 := hS720.pick1
             have hS743 := hS742.drop
             refine Runs.fill (m := [none, some (.slice Aa1 a1.length ca1), none, none, none, none, some (.slice A63 ((([] : List api_Pick) ++ a1) ++ ([(⟨5, 0, 0⟩ : api_Pick)] : List api_Pick)).length c64), none, none, none, none, none, none, none, none, none, none, none, none, none, none, none, none, none, none, none, none, none, none, none, none, none, none, none, none, none, none, none, none, none, none, none, none, none, none, none, none, none, none, none, none, none, none, none, none, none, none, none, none, none, none, none, none, none, none, none, none, none, none, none, none, none, none, none, none, none, none, none, none, none, none, none, none, none, none, none, none, none, none, none, none, none, none, none, none, none, none, none, none, none, none, none, none, none, none, none, none, none, none, none, none, none, none, none, none, none, none, none, none, none, none, none, none, none, none, none, none, none, none, none, none, none, none, none, none, none, none, none, none, none, none, none, none, none, none, none, none, none]) (by kernel_rfl) ?_
             exact J679 ((Option.some.inj hp741).trans he723) _ _ hS743
           refine Runs.fill (m := [none, some (.slice Aa1 a1.length ca1), none, none, none, none, some (.slice A63 ((([] : List api_Pick) ++ a1) ++ ([(⟨5, 0, 0⟩ : api_Pick)] : List api_Pick)).length c64), none, none, none, none, none, none, none, none, none, some (.slice x346.1 t343.length x346.2), none, some (.int .i64 0), none, none, none, none, none, none, none, none, none, none, none, none, none, none, none, none, none, none, none, none, none, none, none, none, none, none, none, none, none, none, none, none, none, none, none, none, none, none, none, none, none, none, none, none, none, none, none, none, none, none, none, none, none, none, none, none, none, none, none, none, none, none, none, none, none, none, none, none, none, none, none, none, none, none, none, none, none, none, none, none, none, none, none, none, none, none, none, none, none, none, none, none, none, none, none, none, none, none, none, none, none, none, none, none, none, none, none, none, none, none, none, none, none, none, none, none, none, none, none, none, none, none, none, none, none, none, none, none, none]) (by kernel_rfl) ?_
           exact L727 0 t343 _ hv675 rfl _ _ hS670
          have L754 : ∀ (t744 : Int) (t745 : List api_Pick) (e749 : Unit), weirlaw15_ScriptReplays.l0 t744 t745 = some e749 → e749 = v666 → ∀ (l748 : List Value) (w746 : World) (hS747 : St w0 Z (xrow A63 c64 39 3 (((([] : List api_Pick) ++ a1) ++ ([(⟨5, 0, 0⟩ : api_Pick)] : List api_Pick)).flatMap enc_api_Pick) :: xrow x254.1 x254.2 39 3 (t745.flatMap enc_api_Pick) :: xrow x346.1 x346.2 39 3 (t343.flatMap enc_api_Pick) :: fs) w746), Runs Try.prog 4 [.code (cd4 [1, 1, 1, 1, 1, 1, 1, 1, 1, 1, 1, 0, 1, 0, 0]), .inLoop (cd4 [1, 1, 1, 1, 1, 1, 1, 1, 1, 1, 1, 0, 1, 0, 0]), .inBlock 0, .code (cd4 [1, 1, 1, 1, 1, 1, 1, 1, 1, 1, 1, 1])] (fill [none, some (.slice Aa1 a1.length ca1), none, none, none, none, some (.slice A63 ((([] : List api_Pick) ++ a1) ++ ([(⟨5, 0, 0⟩ : api_Pick)] : List api_Pick)).length c64), none, none, none, none, none, none, none, none, some (.slice x254.1 t745.length x254.2), some (.slice x346.1 t343.length x346.2), some (.int .i64 t744), none, none, none, none, none, none, none, none, none, none, none, none, none, none, none, none, none, none, none, none, none, none, none, none, none, none, none, none, none, none, none, none, none, none, none, none, none, none, none, none, none, none, none, none, none, none, none, none, none, none, none, none, none, none, none, none, none, none, none, none, none, none, none, none, none, none, none, none, none, none, none, none, none, none, none, none, none, none, none, none, none, none, none, none, none, none, none, none, none, none, none, none, none, none, none, none, none, none, none, none, none, none, none, none, none, none, none, none, none, none, none, none, none, none, none, none, none, none, none, none, none, none, none, none, none, none, none, none, none, none] l748) w746 R := by
           refine weirlaw15_ScriptReplays.l0.partial_correctness (fun t744 t745 e749 => e749 = v666 → ∀ (l748 : List Value) (w746 : World) (hS747 : St w0 Z (xrow A63 c64 39 3 (((([] : List api_Pick) ++ a1) ++ ([(⟨5, 0, 0⟩ : api_Pick)] : List api_Pick)).flatMap enc_api_Pick) :: xrow x254.1 x254.2 39 3 (t745.flatMap enc_api_Pick) :: xrow x346.1 x346.2 39 3 (t343.flatMap enc_api_Pick) :: fs) w746), Runs Try.prog 4 [.code (cd4 [1, 1, 1, 1, 1, 1, 1, 1, 1, 1, 1, 0, 1, 0, 0]), .inLoop (cd4 [1, 1, 1, 1, 1, 1, 1, 1, 1, 1, 1, 0, 1, 0, 0]), .inBlock 0, .code (cd4 [1, 1, 1, 1, 1, 1, 1, 1, 1, 1, 1, 1])] (fill [none, some (.slice Aa1 a1.length ca1), none, none, none, none, some (.slice A63 ((([] : List api_Pick) ++ a1) ++ ([(⟨5, 0, 0⟩ : api_Pick)] : List api_Pick)).length c64), none, none, none, none, none, none, none, none, some (.slice x254.1 t745.length x254.2), some (.slice x346.1 t343.length x346.2), some (.int .i64 t744), none, none, none, none, none, none, none, none, none, none, none, none, none, none, none, none, none, none, none, none, none, none, none, none, none, none, none, none, none, none, none, none, none, none, none, none, none, none, none, none, none, none, none, none, none, none, none, none, none, none, none, none, none, none, none, none, none, none, none, none, none, none, none, none, none, none, none, none, none, none, none, none, none, none, none, none, none, none, none, none, none, none, none, none, none, none, none, none, none, none, none, none, none, none, none, none, none, none, none, none, none, none, none, none, none, none, none, none, none, none, none, none, none, none, none, none, none, none, none, none, none, none, none, none, none, none, none, none, none, none] l748) w746 R) ?_
           intro rec753 ih752 t744 t745 e749 hb751 he750 l748 w746 hS747
           refine sx_split 7 (todo' := [.inRegion (opsOf (cd4 [1, 1, 1, 1, 1, 1, 1, 1, 1, 1, 1, 0, 1, 0, 0, 0, 0])) [], .code (cd4 [1, 1, 1, 1, 1, 1, 1, 1, 1, 1, 1, 0, 1, 0, 0, 0, 1]), .code (cd4 [1, 1, 1, 1, 1, 1, 1, 1, 1, 1, 1, 0, 1, 0, 0, 1]), .inLoop (cd4 [1, 1, 1, 1, 1, 1, 1, 1, 1, 1, 1, 0, 1, 0, 0]), .inBlock 0, .code (cd4 [1, 1, 1, 1, 1, 1, 1, 1, 1, 1, 1, 1])]) (us := [(113, .int .i64 t744), (114, .slice x254.1 t745.length x254.2), (115, .int .i64 (t745.length : Int))]) (d := 116) (t := (decide (t744 < (t745.length : Int)))) (by kernel_rfl) (fun h755 => ?_) (fun h756 => ?_)
           ·skip
            have hp757 := ite_t hb751 h755
            refine sx_run 9 (todo' := [.inRegion (opsOf (cd4 [1, 1, 1, 1, 1, 1, 1, 1, 1, 1, 1, 0, 1, 0, 0, 1, 0, 0])) [3, 4], .inBlock 1, .code (cd4 [1, 1, 1, 1, 1, 1, 1, 1, 1, 1, 1, 0, 1, 0, 0, 1, 1]), .inLoop (cd4 [1, 1, 1, 1, 1, 1, 1, 1, 1, 1, 1, 0, 1, 0, 0]), .inBlock 0, .code (cd4 [1, 1, 1, 1, 1, 1, 1, 1, 1, 1, 1, 1])]) (us := [(119, .slice x254.1 t745.length x254.2), (120, .int .i64 t744), (121, .agg (enc_api_Pick (⟨(-1), 0, 0⟩ : api_Pick)).toArray)]) (by kernel_rfl) ?_
            obtain ⟨g758, hp759⟩ := ite_some hp757
            obtain ⟨b760, p761, hA762, -⟩ := (hS747.row 1 rfl).at_ len_api_Pick (by omega) g758.1 g758.2
            refine r_indexAddr (c := (cd4 [1, 1, 1, 1, 1, 1, 1, 1, 1, 1, 1, 0, 1, 0, 0, 1, 0, 0])) (i := 3) (d := (some 122)) (ty := 0) (t := 33) (e := 39) (n := t745.length) (cp := x254.2) (sz := 3) (kk := .i64) (x := (.tmp 119)) (y := (.tmp 120)) (b := b760) (o' := p761) (j := t744) (by kernel_rfl) (by kernel_rfl) (slv (by kernel_rfl) hA762) (by kernel_rfl) (by kernel_rfl) (by kernel_rfl) g758.1 g758.2 ?_
            have hS764 := hS747.pick1
            refine r_storeEl (c := (cd4 [1, 1, 1, 1, 1, 1, 1, 1, 1, 1, 1, 0, 1, 0, 0, 1, 0, 0])) (i := 4) (d := none) (ty := 0) (enc := enc_api_Pick) (e := 39) (t := 39) (sz := 3) (cp := x254.2) (A := x254.1) (xs := t745) (x := (.tmp 122)) (y := (.tmp 121)) (el := gt t745 t744) (el' := (⟨(-1), 0, 0⟩ : api_Pick)) (j := t744) (off := 0) (b := b760) (p := p761) (v := .agg (enc_api_Pick (⟨(-1), 0, 0⟩ : api_Pick)).toArray) (vs := enc_api_Pick (⟨(-1), 0, 0⟩ : api_Pick)) (ad := ⟨b760, p761 + t744.toNat * 3, none⟩) hS764 (by kernel_rfl) (by kernel_rfl) (by kernel_rfl) (by simp) (by kernel_rfl) hA762 g758 rfl len_api_Pick (by kernel_rfl) (by kernel_rfl) (one_api_Pick _) (by rw [len_api_Pick]; omega) (by rw [len_api_Pick]; omega) (by kernel_rfl) ?_
            intro w765 hS766
            refine Runs.fill (m := [none, none, none, none, none, none, none, none, none, none, none, none, none, none, none, some (.slice x254.1 t745.length x254.2), none, none, none, none, none, none, none, none, none, none, none, none, none, none, none, none, none, none, none, none, none, none, none, none, none, none, none, none, none, none, none, none, none, none, none, none, none, none, none, none, none, none, none, none, none, none, none, none, none, none, none, none, none, none, none, none, none, none, none, none, none, none, none, none, none, none, none, none, none, none, none, none, none, none, none, none, none, none, none, none, none, none, none, none, none, none, none, none, none, none, none, none, none, none, none, none, none, none, some (.slice x254.1 t745.length x254.2), none, none, none, none, some (.slice x254.1 t745.length x254.2), none, none, none, none, none, none, none, none, none, none, none, none, none, none, none, none, none, none, none, none, none, none, none, none, none, none, none, none]) (by kernel_rfl) ?_
            refine Runs.refill (m' := [none, none, none, none, none, none, none, none, none, none, none, none, none, none, none, some (.slice x254.1 (setl t745 t744 (⟨(-1), 0, 0⟩ : api_Pick)).length x254.2), none, none, none, none, none, none, none, none, none, none, none, none, none, none, none, none, none, none, none, none, none, none, none, none, none, none, none, none, none, none, none, none, none, none, none, none, none, none, none, none, none, none, none, none, none, none, none, none, none, none, none, none, none, none, none, none, none, none, none, none, none, none, none, none, none, none, none, none, none, none, none, none, none, none, none, none, none, none, none, none, none, none, none, none, none, none, none, none, none, none, none, none, none, none, none, none, none, none, some (.slice x254.1 (setl t745 t744 (⟨(-1), 0, 0⟩ : api_Pick)).length x254.2), none, none, none, none, some (.slice x254.1 (setl t745 t744 (⟨(-1), 0, 0⟩ : api_Pick)).length x254.2), none, none, none, none, none, none, none, none, none, none, none, none, none, none, none, none, none, none, none, none, none, none, none, none, none, none, none, none]) (by simp only [setl_len]) ?_
            refine sx_run 7 (todo' := [.inLoop (cd4 [1, 1, 1, 1, 1, 1, 1, 1, 1, 1, 1, 0, 1, 0, 0]), .inBlock 0, .code (cd4 [1, 1, 1, 1, 1, 1, 1, 1, 1, 1, 1, 1])]) (us := [(117, .int .i64 t744), (118, .int .i64 (IntKind.i64.wrap (t744 + 1))), (17, .int .i64 (IntKind.i64.wrap (t744 + 1)))]) (by kernel_rfl) ?_
            have hS767 := hS766.pick2
            have hS768 := hS767.pick1
            have hS769 := hS768.pick2
            refine sx_run 1 (todo' := [.code (cd4 [1, 1, 1, 1, 1, 1, 1, 1, 1, 1, 1, 0, 1, 0, 0]), .inLoop (cd4 [1, 1, 1, 1, 1, 1, 1, 1, 1, 1, 1, 0, 1, 0, 0]), .inBlock 0, .code (cd4 [1, 1, 1, 1, 1, 1, 1, 1, 1, 1, 1, 1])]) (us := []) (by kernel_rfl) ?_
            refine Runs.fill (m := [none, some (.slice Aa1 a1.length ca1), none, none, none, none, some (.slice A63 ((([] : List api_Pick) ++ a1) ++ ([(⟨5, 0, 0⟩ : api_Pick)] : List api_Pick)).length c64), none, none, none, none, none, none, none, none, some (.slice x254.1 (setl t745 t744 (⟨(-1), 0, 0⟩ : api_Pick)).length x254.2), some (.slice x346.1 t343.length x346.2), some (.int .i64 (IntKind.i64.wrap (t744 + 1))), none, none, none, none, none, none, none, none, none, none, none, none, none, none, none, none, none, none, none, none, none, none, none, none, none, none, none, none, none, none, none, none, none, none, none, none, none, none, none, none, none, none, none, none, none, none, none, none, none, none, none, none, none, none, none, none, none, none, none, none, none, none, none, none, none, none, none, none, none, none, none, none, none, none, none, none, none, none, none, none, none, none, none, none, none, none, none, none, none, none, none, none, none, none, none, none, none, none, none, none, none, none, none, none, none, none, none, none, none, none, none, none, none, none, none, none, none, none, none, none, none, none, none, none, none, none, none, none, none, none]) (by kernel_rfl) ?_
            exact ih752 (IntKind.i64.wrap (t744 + 1)) (setl t745 t744 (⟨(-1), 0, 0⟩ : api_Pick)) _ hp759 he750 _ _ hS769
           ·skip
            have hp770 := ite_f hb751 h756
            refine sx_run 3 (todo' := [.code (cd4 [1, 1, 1, 1, 1, 1, 1, 1, 1, 1, 1, 1])]) (us := []) (by kernel_rfl) ?_
            have hS771 := hS747.pick1
            have hS772 := hS771.drop
            refine Runs.fill (m := [none, some (.slice Aa1 a1.length ca1), none, none, none, none, some (.slice A63 ((([] : List api_Pick) ++ a1) ++ ([(⟨5, 0, 0⟩ : api_Pick)] : List api_Pick)).length c64), none, none, none, none, none, none, none, none, none, some (.slice x346.1 t343.length x346.2), none, none, none, none, none, none, none, none, none, none, none, none, none, none, none, none, none, none, none, none, none, none, none, none, none, none, none, none, none, none, none, none, none, none, none, none, none, none, none, none, none, none, none, none, none, none, none, none, none, none, none, none, none, none, none, none, none, none, none, none, none, none, none, none, none, none, none, none, none, none, none, none, none, none, none, none, none, none, none, none, none, none, none, none, none, none, none, none, none, none, none, none, none, none, none, none, none, none, none, none, none, none, none, none, none, none, none, none, none, none, none, none, none, none, none, none, none, none, none, none, none, none, none, none, none, none, none, none, none, none, none]) (by kernel_rfl) ?_
            exact J671 ((Option.some.inj hp770).trans he750) _ _ hS772
          have hS773 := hS665.pick1
          have hS774 := hS773.pick2
          refine Runs.fill (m := [none, some (.slice Aa1 a1.length ca1), none, none, none, none, some (.slice A63 ((([] : List api_Pick) ++ a1) ++ ([(⟨5, 0, 0⟩ : api_Pick)] : List api_Pick)).length c64), none, none, none, none, none, none, none, none, some (.slice x254.1 t251.length x254.2), some (.slice x346.1 t343.length x346.2), some (.int .i64 0), none, none, none, none, none, none, none, none, none, none, none, none, none, none, none, none, none, none, none, none, none, none, none, none, none, none, none, none, none, none, none, none, none, none, none, none, none, none, none, none, none, none, none, none, none, none, none, none, none, none, none, none, none, none, none, none, none, none, none, none, none, none, none, none, none, none, none, none, none, none, none, none, none, none, none, none, none, none, none, none, none, none, none, none, none, none, none, none, none, none, none, none, none, none, none, none, none, none, none, none, none, none, none, none, none, none, none, none, none, none, none, none, none, none, none, none, none, none, none, none, none, none, none, none, none, none, none, none, none, none]) (by kernel_rfl) ?_
          exact L754 0 t251 _ hv667 rfl _ _ hS774

end
end Go.Proofs.Ytpmemdhgcelkoaa.K
