/- The walk, part 3: each Go function as a plain Lean function, and that its call answers as that function says. No condition. -/
import Derived.Test.YtjbhgahbaeoinaaDoorE
import Derived.Test.YtjbhgahbaeoinaaDoorNS
import Derived.Test.YtjbhgahbaeoinaaDoorLS
import Derived.Test.YtjbhgahbaeoinaaDoorNG
import Derived.Test.YtjbhgahbaeoinaaDoorNV
import Derived.Test.YtjbhgahbaeoinaaDoorNB
import Derived.Test.YtjbhgahbaeoinaaDoorF2
set_option linter.unusedVariables false
set_option linter.unusedSimpArgs false
set_option maxRecDepth 100000
namespace Go.Proofs.YtjbhgahbaeoinaaDoor.K
open Go Go.RowKit
noncomputable section
noncomputable def cd21 (p : List Nat) : Code := sub (bodyOf Tryd.f21) p
def state_Find.f (a0 : List api_Final) (a1 : api_Final) : Option (Int × Bool) :=
  (sort_Search.f (a0.length : Int) a0 a1 >>= (fun t9 => (if (decide (t9 < (a0.length : Int))) = true then (if 0 ≤ t9 ∧ t9 < (a0.length : Int) then (if (decide ((gt a0 t9) = a1)) = true then some ((t9, true)) else some ((t9, false))) else none) else some ((t9, false)))))
set_option maxHeartbeats 16000000 in
theorem state_Find.ok (a0 : List api_Final) (a1 : api_Final) (Aa0 : Option Addr) (ca0 : Nat) {w0 : World} {Z : Zm} {fs : List XObj} {w : World} (hS0 : St w0 Z (fs) w) (ha0 : SlZ (flat enc_api_Final) 49 Z Aa0 ca0 a0) {q0 : Int} {q1 : Bool} (hp0 : state_Find.f a0 a1 = some (q0, q1)) :
    Calls Tryd.prog 21 #[.slice Aa0 a0.length ca0, .agg (enc_api_Final a1).toArray] w (fun e w' => e = .returned (.tuple #[.int .i64 q0, .bool q1]) ∧ St w0 Z (fs) w') := by
  refine calls_abs ?_; intro R hR
  unfold state_Find.f at hp0
  refine calls_of_runs (fn := Tryd.f21) (c := cd21 []) Tryd.func21 (by kernel_rfl) (al := [.slice Aa0 a0.length ca0, .agg (enc_api_Final a1).toArray]) rfl (n := 22) rfl ?_
  refine sx_run 2 (todo' := [.inRegion (opsOf (cd21 [0])) [0, 1, 2, 3], .code (cd21 [1])]) (us := []) (by kernel_rfl) ?_
  refine r_box (c := (cd21 [0])) (i := 0) (d := (some 2)) (ty := 0) (x := (.tmp 0)) (v := .slice Aa0 a0.length ca0) (t := 28) (cs := [.slice Aa0 a0.length ca0]) hS0 (by kernel_rfl) (by kernel_rfl) (by kernel_rfl) (by kernel_rfl) ?_
  intro b1 w2 hS3
  refine r_box (c := (cd21 [0])) (i := 1) (d := (some 3)) (ty := 0) (x := (.tmp 1)) (v := .agg (enc_api_Final a1).toArray) (t := 24) (cs := enc_api_Final a1) hS3 (by kernel_rfl) (by kernel_rfl) (by kernel_rfl) (by kernel_rfl) ?_
  intro b5 w6 hS7
  refine sx_run 5 (todo' := [.inRegion (opsOf (cd21 [1, 0])) [0, 1, 2, 3, 4], .code (cd21 [1, 1])]) (us := [(4, .int .i64 0), (5, .bool false)]) (by kernel_rfl) ?_
  refine r_load (c := (cd21 [1, 0])) (i := 0) (d := (some 7)) (ty := 28) (t := 28) (x := (.tmp 2)) (p := ⟨b1, 0, none⟩) (v := .slice Aa0 a0.length ca0) (by kernel_rfl) (by kernel_rfl) (by kernel_rfl) (loads_at 0 (hS7.blk 1 rfl) (by kernel_rfl) (by kernel_rfl)) ?_
  refine sx_run 2 (todo' := [.inRegion (opsOf (cd21 [1, 0])) [3, 4], .code (cd21 [1, 1])]) (us := [(8, .int .i64 (a0.length : Int)), (9, .func (.func 36) #[] #[.pointer (some ⟨b1, 0, none⟩), .pointer (some ⟨b5, 0, none⟩)])]) (by kernel_rfl) ?_
  obtain ⟨t9, hr10, hp11⟩ := bind_some' hp0
  have hS13 := hS7.pick1
  refine r_call1 (c := (cd21 [1, 0])) (i := 3) (d := (some 10)) (g := 35) (args := #[.int .i64 (a0.length : Int), .func (.func 36) #[] #[.pointer (some ⟨b1, 0, none⟩), .pointer (some ⟨b5, 0, none⟩)]]) (by kernel_rfl) (by kernel_rfl) (by kernel_rfl) (by kernel_rfl) (sort_Search.ok (a0.length : Int) a0 a1 b1 Aa0 ca0 b5 hS13 ha0 hr10) ?_
  rintro _ w14 ⟨rfl, hS15⟩
  refine ⟨.int .i64 t9, rfl, ?_⟩
  refine sx_run 3 (todo' := [.code (cd21 [1, 1, 0]), .code (cd21 [1, 1, 1])]) (us := [(6, .int .i64 t9)]) (by kernel_rfl) ?_
  refine r_quiet hS15 (c := (cd21 [1, 1, 0])) (id := 2) (by kernel_rfl) (by kernel_rfl) (by kernel_rfl) (is := [0, 1, 2, 3, 4, 5, 6, 7, 8, 9, 10, 11, 12, 13, 14]) (by kernel_rfl) ?_
  refine q_run 2 (is' := [2, 3, 4, 5, 6, 7, 8, 9, 10, 11, 12, 13, 14]) (us := [(11, .int .i64 t9), (12, .int .i64 t9)]) (by kernel_rfl) ?_
  refine q_load (c := (cd21 [1, 1, 0])) (i := 2) (d := (some 13)) (ty := 28) (t := 28) (x := (.tmp 2)) (p := ⟨b1, 0, none⟩) (v := .slice Aa0 a0.length ca0) (by kernel_rfl) (by kernel_rfl) (by kernel_rfl) (fun w hC => (loads_at 0 (hC.blk 0 rfl) (by kernel_rfl) (by kernel_rfl))) ?_
  refine q_splitr 2 (is' := [5, 6, 7, 8, 9, 10, 11, 12, 13, 14]) (us := [(14, .int .i64 (a0.length : Int))]) (d := 15) (t := (decide (t9 < (a0.length : Int)))) (by kernel_rfl) (fun h16 => ?_) (fun h17 => ?_)
  ·skip
   have hp18 := ite_t hp11 h16
   refine q_run 1 (is' := [6, 7, 8, 9, 10, 11, 12, 13, 14]) (us := [(16, .bool true)]) (by kernel_rfl) ?_
   refine q_load (c := (cd21 [1, 1, 0])) (i := 6) (d := (some 17)) (ty := 28) (t := 28) (x := (.tmp 2)) (p := ⟨b1, 0, none⟩) (v := .slice Aa0 a0.length ca0) (by kernel_rfl) (by kernel_rfl) (by kernel_rfl) (fun w hC => (loads_at 0 (hC.blk 0 rfl) (by kernel_rfl) (by kernel_rfl))) ?_
   refine q_run 1 (is' := [8, 9, 10, 11, 12, 13, 14]) (us := [(18, .int .i64 t9)]) (by kernel_rfl) ?_
   obtain ⟨g19, hp20⟩ := ite_some hp18
   obtain ⟨b21, p22, hA23, hc24⟩ := ha0.atF g19.1 g19.2
   refine q_indexAddr (c := (cd21 [1, 1, 0])) (i := 8) (d := (some 19)) (ty := 0) (t := 28) (e := 24) (n := a0.length) (cp := ca0) (sz := 49) (kk := .i64) (x := (.tmp 17)) (y := (.tmp 18)) (b := b21) (o' := p22) (j := t9) (by kernel_rfl) (by kernel_rfl) (slv (by kernel_rfl) hA23) (by kernel_rfl) (by kernel_rfl) (by kernel_rfl) g19.1 g19.2 ?_
   refine q_load (c := (cd21 [1, 1, 0])) (i := 9) (d := (some 20)) (ty := 24) (t := 24) (x := (.tmp 19)) (p := ⟨b21, p22 + t9.toNat * 49, none⟩) (v := .agg (enc_api_Final (gt a0 t9)).toArray) (by kernel_rfl) (by kernel_rfl) (by kernel_rfl) (fun w hC => (loads_agg (hc24.cells hC) (by kernel_rfl) (lenK (len_api_Final _) (by kernel_rfl)))) ?_
   refine q_load (c := (cd21 [1, 1, 0])) (i := 10) (d := (some 21)) (ty := 24) (t := 24) (x := (.tmp 3)) (p := ⟨b5, 0, none⟩) (v := .agg (enc_api_Final a1).toArray) (by kernel_rfl) (by kernel_rfl) (by kernel_rfl) (fun w hC => (loads_agg (hC.blk 1 rfl) (by kernel_rfl) (lenK (len_api_Final _) (by kernel_rfl)))) ?_
   refine q_val (c := (cd21 [1, 1, 0])) (i := 11) (d := (some 22)) (ty := 4) (op := .binOp .eql 24 (.tmp 20) (.tmp 21) 24) (v := .bool (decide ((gt a0 t9) = a1))) (by kernel_rfl) (by kernel_rfl) (fun w hC o ho _ => x_eql_api_Final (by kernel_rfl) (by kernel_rfl) ho) ?_
   refine q_split (decide ((gt a0 t9) = a1)) (fun h25 => ?_) (fun h26 => ?_)
   ·skip
    have hp27 := ite_t hp20 h25
    refine q_run 3 (is' := []) (us := [(23, .bool true), (4, .int .i64 t9), (5, .bool true)]) (by kernel_rfl) ?_
    refine Qs.nil ?_
    intro w28 hS29
    have hS30 := hS29.drop
    have hS31 := hS30.drop
    refine runs_ret (fn := Tryd.f21) (v := .tuple #[.int .i64 t9, .bool true]) Tryd.func21 (by kernel_rfl) ?_
    have hr32 := (Option.some.inj hp27)
    cases hr32
    exact hR _ _ ⟨rfl, hS31⟩
   ·skip
    have hp33 := ite_f hp20 h26
    refine q_run 3 (is' := []) (us := [(23, .bool false), (4, .int .i64 t9), (5, .bool false)]) (by kernel_rfl) ?_
    refine Qs.nil ?_
    intro w34 hS35
    have hS36 := hS35.drop
    have hS37 := hS36.drop
    refine runs_ret (fn := Tryd.f21) (v := .tuple #[.int .i64 t9, .bool false]) Tryd.func21 (by kernel_rfl) ?_
    have hr38 := (Option.some.inj hp33)
    cases hr38
    exact hR _ _ ⟨rfl, hS37⟩
  ·skip
   have hp39 := ite_f hp11 h17
   refine q_run 10 (is' := []) (us := [(16, .bool false), (17, undef), (18, undef), (19, undef), (20, undef), (21, undef), (22, undef), (23, .bool false), (4, .int .i64 t9), (5, .bool false)]) (by kernel_rfl) ?_
   refine Qs.nil ?_
   intro w40 hS41
   have hS42 := hS41.drop
   have hS43 := hS42.drop
   refine runs_ret (fn := Tryd.f21) (v := .tuple #[.int .i64 t9, .bool false]) Tryd.func21 (by kernel_rfl) ?_
   have hr44 := (Option.some.inj hp39)
   cases hr44
   exact hR _ _ ⟨rfl, hS43⟩

noncomputable def cd6 (p : List Nat) : Code := sub (bodyOf Tryd.f6) p
def weirlaw10_StateSetLaws.l1 (a0 : List api_Final) (a1 : List api_Final) (t16 : List api_Final) (t24 : List api_Final) (t44 : List api_Final) (t65 : List api_Final) (t86 : List api_Final) (t363 : Int) : Option (Sum Unit Bool) :=
  (if (decide (t363 < (((([] : List api_Final) ++ a0) ++ a1).length : Int))) = true then (if 0 ≤ t363 ∧ t363 < (((([] : List api_Final) ++ a0) ++ a1).length : Int) then (weirlaw10_in.f t16 (gt ((([] : List api_Final) ++ a0) ++ a1) t363) >>= (fun t383 => (if 0 ≤ t363 ∧ t363 < (((([] : List api_Final) ++ a0) ++ a1).length : Int) then (weirlaw10_in.f t24 (gt ((([] : List api_Final) ++ a0) ++ a1) t363) >>= (fun t400 => (if 0 ≤ t363 ∧ t363 < (((([] : List api_Final) ++ a0) ++ a1).length : Int) then (state_Check.f (gt ((([] : List api_Final) ++ a0) ++ a1) t363) >>= (fun t418 => (weirlaw10_num.f t418 >>= (fun t423 => (((if (t423 == 0) = true then (if (!t383) = true then (if (!t400) = true then some (.inr (.inr (false))) else (if 0 ≤ t363 ∧ t363 < (((([] : List api_Final) ++ a0) ++ a1).length : Int) then (state_Check.f (gt ((([] : List api_Final) ++ a0) ++ a1) t363) >>= (fun t725 => (weirlaw10_num.f t725 >>= (fun t730 => (if (t730 != 0) = true then (if t383 = true then some (.inr (.inr (false))) else (if t400 = true then some (.inr (.inr (false))) else some (.inl (false, false)))) else some (.inl (t383, t400))))))) else none)) else (if 0 ≤ t363 ∧ t363 < (((([] : List api_Final) ++ a0) ++ a1).length : Int) then (state_Check.f (gt ((([] : List api_Final) ++ a0) ++ a1) t363) >>= (fun t776 => (weirlaw10_num.f t776 >>= (fun t781 => (if (t781 != 0) = true then (if t383 = true then some (.inr (.inr (false))) else (if t400 = true then some (.inr (.inr (false))) else some (.inl (false, false)))) else some (.inl (t383, t400))))))) else none)) else (if 0 ≤ t363 ∧ t363 < (((([] : List api_Final) ++ a0) ++ a1).length : Int) then (state_Check.f (gt ((([] : List api_Final) ++ a0) ++ a1) t363) >>= (fun t827 => (weirlaw10_num.f t827 >>= (fun t832 => (if (t832 != 0) = true then (if t383 = true then some (.inr (.inr (false))) else (if t400 = true then some (.inr (.inr (false))) else some (.inl (false, false)))) else some (.inl (t383, t400))))))) else none)) : Option (Sum (Bool × Bool) (Sum Unit Bool))) >>= (fun | .inl (t431, t432) => (if 0 ≤ t363 ∧ t363 < (((([] : List api_Final) ++ a0) ++ a1).length : Int) then (weirlaw10_in.f t44 (gt ((([] : List api_Final) ++ a0) ++ a1) t363) >>= (fun t445 => (((if t431 = true then (if (!(t445 == true)) = true then some (.inr (.inr (false))) else (if 0 ≤ t363 ∧ t363 < (((([] : List api_Final) ++ a0) ++ a1).length : Int) then (weirlaw10_in.f t65 (gt ((([] : List api_Final) ++ a0) ++ a1) t363) >>= (fun t623 => (if (!(t623 == t432)) = true then some (.inr (.inr (false))) else (if 0 ≤ t363 ∧ t363 < (((([] : List api_Final) ++ a0) ++ a1).length : Int) then (weirlaw10_in.f t86 (gt ((([] : List api_Final) ++ a0) ++ a1) t363) >>= (fun t652 => (if (!t432) = true then (if (!(t652 == true)) = true then some (.inr (.inr (false))) else some (.inl true)) else (if (!(t652 == false)) = true then some (.inr (.inr (false))) else some (.inl true))))) else none)))) else none)) else (if (!(t445 == t432)) = true then some (.inr (.inr (false))) else (if 0 ≤ t363 ∧ t363 < (((([] : List api_Final) ++ a0) ++ a1).length : Int) then (weirlaw10_in.f t65 (gt ((([] : List api_Final) ++ a0) ++ a1) t363) >>= (fun t547 => (if (!(t547 == false)) = true then some (.inr (.inr (false))) else (if 0 ≤ t363 ∧ t363 < (((([] : List api_Final) ++ a0) ++ a1).length : Int) then (weirlaw10_in.f t86 (gt ((([] : List api_Final) ++ a0) ++ a1) t363) >>= (fun t576 => (if (!(t576 == false)) = true then some (.inr (.inr (false))) else some (.inl false)))) else none)))) else none))) : Option (Sum Bool (Sum Unit Bool))) >>= (fun | .inl t460 => (if 0 ≤ t363 ∧ t363 < (((([] : List api_Final) ++ a0) ++ a1).length : Int) then (state_Find.f t16 (gt ((([] : List api_Final) ++ a0) ++ a1) t363) >>= (fun (t473, t474) => (if (!(t474 == t460)) = true then some (.inr (false)) else (if t460 = true then (if 0 ≤ t473 ∧ t473 < (t16.length : Int) then (if 0 ≤ t363 ∧ t363 < (((([] : List api_Final) ++ a0) ++ a1).length : Int) then (if (!(decide ((gt t16 t473) = (gt ((([] : List api_Final) ++ a0) ++ a1) t363)))) = true then some (.inr (false)) else (weirlaw10_StateSetLaws.l1 a0 a1 t16 t24 t44 t65 t86 (IntKind.i64.wrap (t363 + 1)))) else none) else none) else (weirlaw10_StateSetLaws.l1 a0 a1 t16 t24 t44 t65 t86 (IntKind.i64.wrap (t363 + 1))))))) else none) | .inr e => some e)))) else none) | .inr e => some e)))))) else none))) else none))) else none) else some (.inl ()))
 partial_fixpoint
def weirlaw10_StateSetLaws.l0 (a0 : List api_Final) (t883 : List api_Final) (t887 : Int) : Option (List api_Final) :=
  (if (decide (t887 ≥ 0)) = true then (if 0 ≤ t887 ∧ t887 < (a0.length : Int) then (if 0 ≤ t887 ∧ t887 < (a0.length : Int) then (if (t883.length + ([(gt a0 t887), (gt a0 t887)] : List api_Final).length) * 392 ≤ 140737488355328 then (weirlaw10_StateSetLaws.l0 a0 (t883 ++ ([(gt a0 t887), (gt a0 t887)] : List api_Final)) (IntKind.i64.wrap (t887 - 1))) else none) else none) else none) else some (t883))
 partial_fixpoint
def weirlaw10_StateSetLaws.f (a0 : List api_Final) (a1 : List api_Final) : Option Bool :=
  (weirlaw10_works.f >>= (fun t1 => (if (!t1) = true then some (false) else (if (decide ((IntKind.i64.wrap ((a0.length : Int) + (a1.length : Int))) > 300)) = true then some (true) else (state_Sort.f a0 >>= (fun t16 => (state_Sort.f a1 >>= (fun t24 => (weirlaw10_StateSetLaws.l0 a0 [] (IntKind.i64.wrap ((a0.length : Int) - 1)) >>= (fun t35 => (state_Union.f t16 t24 >>= (fun (t44, t45) => (state_Meet.f t16 t24 >>= (fun (t65, t66) => (state_Minus.f t16 t24 >>= (fun (t86, t87) => (state_Sort.f t35 >>= (fun t107 => (weirlaw10_Same.f t107 t16 >>= (fun t122 => (if (!t122) = true then some (false) else (state_Sort.f t16 >>= (fun t153 => (weirlaw10_Same.f t153 t16 >>= (fun t168 => (if (!t168) = true then some (false) else (state_Rises.f t16 >>= (fun t199 => (if (!t199) = true then some (false) else (state_Rises.f t44 >>= (fun t224 => (if (!t224) = true then some (false) else (weirlaw10_num.f t45 >>= (fun t249 => (if (t249 != 0) = true then some (false) else (weirlaw10_num.f t66 >>= (fun t267 => (if (t267 != 0) = true then some (false) else (weirlaw10_num.f t87 >>= (fun t285 => (if (t285 != 0) = true then some (false) else (if ((IntKind.i64.wrap ((t44.length : Int) + (t65.length : Int))) != (IntKind.i64.wrap ((t16.length : Int) + (t24.length : Int)))) = true then some (false) else (if ((IntKind.i64.wrap ((t86.length : Int) + (t65.length : Int))) != (t16.length : Int)) = true then some (false) else (if (([] : List api_Final).length + a0.length) * 392 ≤ 140737488355328 then (if ((([] : List api_Final) ++ a0).length + a1.length) * 392 ≤ 140737488355328 then (weirlaw10_StateSetLaws.l1 a0 a1 t16 t24 t44 t65 t86 0 >>= (fun | .inl () => some (true) | .inr e => some e)) else none) else none))))))))))))))))))))))))))))))))))))))))))))
set_option maxHeartbeats 16000000 in
theorem weirlaw10_StateSetLaws.ok (a0 : List api_Final) (a1 : List api_Final) (Aa0 : Option Addr) (ca0 : Nat) (Aa1 : Option Addr) (ca1 : Nat) {w0 : World} {Z : Zm} {fs : List XObj} {w : World} (hS0 : St w0 Z (fs) w) (ha0 : SlZ (flat enc_api_Final) 49 Z Aa0 ca0 a0) (ha1 : SlZ (flat enc_api_Final) 49 Z Aa1 ca1 a1) (hE : Env Z) {q0 : Bool} (hp0 : weirlaw10_StateSetLaws.f a0 a1 = some q0) :
    Calls Tryd.prog 6 #[.slice Aa0 a0.length ca0, .slice Aa1 a1.length ca1] w (fun e w' => e = .returned (.bool q0) ∧ St w0 Z (fs) w') := by
  refine calls_abs ?_; intro R hR
  unfold weirlaw10_StateSetLaws.f at hp0
  refine calls_of_runs (fn := Tryd.f6) (c := cd6 []) Tryd.func6 (by kernel_rfl) (al := [.slice Aa0 a0.length ca0, .slice Aa1 a1.length ca1]) rfl (n := 244) rfl ?_
  refine sx_run 7 (todo' := [.inRegion (opsOf (cd6 [1, 0, 0])) [0, 1], .code (cd6 [1, 0, 1]), .code (cd6 [1, 1])]) (us := [(4, .bool false)]) (by kernel_rfl) ?_
  obtain ⟨t1, hr2, hp3⟩ := bind_some' hp0
  refine r_call1 (c := (cd6 [1, 0, 0])) (i := 0) (d := (some 21)) (g := 7) (args := #[]) (by kernel_rfl) (by kernel_rfl) (by kernel_rfl) (by kernel_rfl) (weirlaw10_works.ok hS0 hE hr2) ?_
  rintro _ w4 ⟨rfl, hS5⟩
  refine ⟨.bool t1, rfl, ?_⟩
  refine sx_split 1 (todo' := [.inRegion (opsOf (cd6 [1, 0, 0])) [], .code (cd6 [1, 0, 1]), .code (cd6 [1, 1])]) (us := []) (d := 22) (t := (!t1)) (by kernel_rfl) (fun h6 => ?_) (fun h7 => ?_)
  ·skip
   have hp8 := ite_t hp3 h6
   refine sx_run 6 (todo' := [.code (cd6 [1, 0, 1, 0, 1]), .code (cd6 [1, 1])]) (us := [(4, .bool false)]) (by kernel_rfl) ?_
   refine runs_ret (fn := Tryd.f6) (v := .bool false) Tryd.func6 (by kernel_rfl) ?_
   have hr9 := (Option.some.inj hp8)
   cases hr9
   exact hR _ _ ⟨rfl, hS5⟩
  ·skip
   have hp10 := ite_f hp3 h7
   refine sx_split 12 (todo' := [.inRegion (opsOf (cd6 [1, 1, 0, 0])) [], .code (cd6 [1, 1, 0, 1]), .code (cd6 [1, 1, 1])]) (us := [(23, .slice Aa0 a0.length ca0), (24, .int .i64 (a0.length : Int)), (25, .slice Aa1 a1.length ca1), (26, .int .i64 (a1.length : Int)), (27, .int .i64 (IntKind.i64.wrap ((a0.length : Int) + (a1.length : Int))))]) (d := 28) (t := (decide ((IntKind.i64.wrap ((a0.length : Int) + (a1.length : Int))) > 300))) (by kernel_rfl) (fun h11 => ?_) (fun h12 => ?_)
   ·skip
    have hp13 := ite_t hp10 h11
    refine sx_run 6 (todo' := [.code (cd6 [1, 1, 0, 1, 0, 1]), .code (cd6 [1, 1, 1])]) (us := [(4, .bool true)]) (by kernel_rfl) ?_
    refine runs_ret (fn := Tryd.f6) (v := .bool true) Tryd.func6 (by kernel_rfl) ?_
    have hr14 := (Option.some.inj hp13)
    cases hr14
    exact hR _ _ ⟨rfl, hS5⟩
   ·skip
    have hp15 := ite_f hp10 h12
    refine sx_run 6 (todo' := [.inRegion (opsOf (cd6 [1, 1, 1, 0])) [1, 2], .code (cd6 [1, 1, 1, 1])]) (us := [(29, .slice Aa0 a0.length ca0)]) (by kernel_rfl) ?_
    obtain ⟨t16, hr19, hp20⟩ := bind_some' hp15
    refine r_call1 (c := (cd6 [1, 1, 1, 0])) (i := 1) (d := (some 30)) (g := 9) (args := #[.slice Aa0 a0.length ca0]) (by kernel_rfl) (by kernel_rfl) (by kernel_rfl) (by kernel_rfl) (state_Sort.ok a0 Aa0 ca0 hS5 ha0 hr19) ?_
    rintro _ w22 ⟨Q17, Q18, rfl, hS23⟩
    refine ⟨.slice Q17 t16.length Q18, rfl, ?_⟩
    refine sx_run 5 (todo' := [.inRegion (opsOf (cd6 [1, 1, 1, 1, 0])) [1, 2], .code (cd6 [1, 1, 1, 1, 1])]) (us := [(5, .slice Q17 t16.length Q18), (31, .slice Aa1 a1.length ca1)]) (by kernel_rfl) ?_
    obtain ⟨t24, hr27, hp28⟩ := bind_some' hp20
    refine r_call1 (c := (cd6 [1, 1, 1, 1, 0])) (i := 1) (d := (some 32)) (g := 9) (args := #[.slice Aa1 a1.length ca1]) (by kernel_rfl) (by kernel_rfl) (by kernel_rfl) (by kernel_rfl) (state_Sort.ok a1 Aa1 ca1 hS23 ha1 hr27) ?_
    rintro _ w30 ⟨Q25, Q26, rfl, hS31⟩
    refine ⟨.slice Q25 t24.length Q26, rfl, ?_⟩
    refine sx_run 16 (todo' := [.code (cd6 [1, 1, 1, 1, 1, 1, 0, 1, 0, 0]), .inLoop (cd6 [1, 1, 1, 1, 1, 1, 0, 1, 0, 0]), .inBlock 0, .code (cd6 [1, 1, 1, 1, 1, 1, 1])]) (us := [(6, .slice Q25 t24.length Q26), (7, .slice none 0 0), (33, .slice Aa0 a0.length ca0), (34, .int .i64 (a0.length : Int)), (35, .int .i64 (IntKind.i64.wrap ((a0.length : Int) - 1))), (8, .int .i64 (IntKind.i64.wrap ((a0.length : Int) - 1)))]) (by kernel_rfl) ?_
    obtain ⟨v32, hv33, hp34⟩ := bind_some' hp28
    have J41 : ∀ (t35 : List api_Final) (he43 : t35 = v32) (l42 : List Value) (A36 : Option Addr) (c37 : Nat) (w39 : World) (hS40 : St w0 Z (xrow Q17 Q18 24 49 (t16.flatMap enc_api_Final) :: xrow Q25 Q26 24 49 (t24.flatMap enc_api_Final) :: xrow A36 c37 24 49 (t35.flatMap enc_api_Final) :: fs) w39), Runs Tryd.prog 6 [.code (cd6 [1, 1, 1, 1, 1, 1, 1])] (fill [some (.slice Aa0 a0.length ca0), some (.slice Aa1 a1.length ca1), none, none, none, some (.slice Q17 t16.length Q18), some (.slice Q25 t24.length Q26), some (.slice A36 t35.length c37), none, none, none, none, none, none, none, none, none, none, none, none, none, none, none, none, none, none, none, none, none, none, none, none, none, none, none, none, none, none, none, none, none, none, none, none, none, none, none, none, none, none, none, none, none, none, none, none, none, none, none, none, none, none, none, none, none, none, none, none, none, none, none, none, none, none, none, none, none, none, none, none, none, none, none, none, none, none, none, none, none, none, none, none, none, none, none, none, none, none, none, none, none, none, none, none, none, none, none, none, none, none, none, none, none, none, none, none, none, none, none, none, none, none, none, none, none, none, none, none, none, none, none, none, none, none, none, none, none, none, none, none, none, none, none, none, none, none, none, none, none, none, none, none, none, none, none, none, none, none, none, none, none, none, none, none, none, none, none, none, none, none, none, none, none, none, none, none, none, none, none, none, none, none, none, none, none, none, none, none, none, none, none, none, none, none, none, none, none, none, none, none, none, none, none, none, none, none, none, none, none, none, none, none, none, none, none, none, none, none, none, none, none, none, none, none, none, none, none, none, none, none, none, none, none, none, none, none, none, none, none, none, none, none, none, none, none, none] l42) w39 R := by
     intro t35 he43 l42 A36 c37 w39 hS40
     subst he43
     try dsimp only at hp34
     refine sx_run 4 (todo' := [.inRegion (opsOf (cd6 [1, 1, 1, 1, 1, 1, 1, 0])) [2, 3, 4, 5, 6, 7], .code (cd6 [1, 1, 1, 1, 1, 1, 1, 1])]) (us := [(52, .slice Q17 t16.length Q18), (53, .slice Q25 t24.length Q26)]) (by kernel_rfl) ?_
     obtain ⟨⟨t44, t45⟩, hr48, hp49⟩ := bind_some' hp34
     try dsimp only at hp49
     obtain ⟨Z51, hz52, hS53, hs54, hb55⟩ := hS40.lendrow len_api_Final (by omega)
     obtain ⟨Z56, hz57, hS58, hs59, hb60⟩ := hS53.lendrow len_api_Final (by omega)
     refine r_call1 (c := (cd6 [1, 1, 1, 1, 1, 1, 1, 0])) (i := 2) (d := (some 54)) (g := 17) (args := #[.slice Q17 t16.length Q18, .slice Q25 t24.length Q26]) (by kernel_rfl) (by kernel_rfl) (by kernel_rfl) (by kernel_rfl) (state_Union.ok t16 t24 Q17 Q18 Q25 Q26 hS58 (hs54.up hz57) hs59 hr48) ?_
     rintro _ w61 ⟨Q46, Q47, rfl, hS62⟩
     refine ⟨.tuple #[.slice Q46 t44.length Q47, .int .i64 t45], rfl, ?_⟩
     have hS63 := hb60 _ _ hS62
     have hS64 := hb55 _ _ hS63
     refine sx_run 10 (todo' := [.inRegion (opsOf (cd6 [1, 1, 1, 1, 1, 1, 1, 1, 0])) [2, 3, 4, 5, 6, 7], .code (cd6 [1, 1, 1, 1, 1, 1, 1, 1, 1])]) (us := [(51, .tuple #[.slice Q46 t44.length Q47, .int .i64 t45]), (55, .slice Q46 t44.length Q47), (56, .int .i64 t45), (9, .slice Q46 t44.length Q47), (10, .int .i64 t45), (58, .slice Q17 t16.length Q18), (59, .slice Q25 t24.length Q26)]) (by kernel_rfl) ?_
     obtain ⟨⟨t65, t66⟩, hr69, hp70⟩ := bind_some' hp49
     try dsimp only at hp70
     obtain ⟨Z72, hz73, hS74, hs75, hb76⟩ := hS64.lendrow len_api_Final (by omega)
     obtain ⟨Z77, hz78, hS79, hs80, hb81⟩ := hS74.lendrow len_api_Final (by omega)
     refine r_call1 (c := (cd6 [1, 1, 1, 1, 1, 1, 1, 1, 0])) (i := 2) (d := (some 60)) (g := 18) (args := #[.slice Q17 t16.length Q18, .slice Q25 t24.length Q26]) (by kernel_rfl) (by kernel_rfl) (by kernel_rfl) (by kernel_rfl) (state_Meet.ok t16 t24 Q17 Q18 Q25 Q26 hS79 (hs75.up hz78) hs80 hr69) ?_
     rintro _ w82 ⟨Q67, Q68, rfl, hS83⟩
     refine ⟨.tuple #[.slice Q67 t65.length Q68, .int .i64 t66], rfl, ?_⟩
     have hS84 := hb81 _ _ hS83
     have hS85 := hb76 _ _ hS84
     refine sx_run 10 (todo' := [.inRegion (opsOf (cd6 [1, 1, 1, 1, 1, 1, 1, 1, 1, 0])) [2, 3, 4, 5, 6, 7], .code (cd6 [1, 1, 1, 1, 1, 1, 1, 1, 1, 1])]) (us := [(57, .tuple #[.slice Q67 t65.length Q68, .int .i64 t66]), (61, .slice Q67 t65.length Q68), (62, .int .i64 t66), (11, .slice Q67 t65.length Q68), (12, .int .i64 t66), (64, .slice Q17 t16.length Q18), (65, .slice Q25 t24.length Q26)]) (by kernel_rfl) ?_
     obtain ⟨⟨t86, t87⟩, hr90, hp91⟩ := bind_some' hp70
     try dsimp only at hp91
     obtain ⟨Z93, hz94, hS95, hs96, hb97⟩ := hS85.lendrow len_api_Final (by omega)
     obtain ⟨Z98, hz99, hS100, hs101, hb102⟩ := hS95.lendrow len_api_Final (by omega)
     refine r_call1 (c := (cd6 [1, 1, 1, 1, 1, 1, 1, 1, 1, 0])) (i := 2) (d := (some 66)) (g := 19) (args := #[.slice Q17 t16.length Q18, .slice Q25 t24.length Q26]) (by kernel_rfl) (by kernel_rfl) (by kernel_rfl) (by kernel_rfl) (state_Minus.ok t16 t24 Q17 Q18 Q25 Q26 hS100 (hs96.up hz99) hs101 hr90) ?_
     rintro _ w103 ⟨Q88, Q89, rfl, hS104⟩
     refine ⟨.tuple #[.slice Q88 t86.length Q89, .int .i64 t87], rfl, ?_⟩
     have hS105 := hb102 _ _ hS104
     have hS106 := hb97 _ _ hS105
     refine sx_run 10 (todo' := [.inRegion (opsOf (cd6 [1, 1, 1, 1, 1, 1, 1, 1, 1, 1, 0, 0])) [1, 2, 3, 4, 5, 6, 7, 8, 9, 10, 11, 12, 13, 14, 15, 16, 17, 18, 19, 20, 21, 22, 23, 24, 25, 26, 27, 28, 29, 30, 31, 32, 33, 34, 35, 36, 37, 38, 39, 40, 41, 42, 43, 44, 45, 46, 47, 48, 49, 50, 51, 52, 53, 54, 55, 56, 57, 58, 59], .code (cd6 [1, 1, 1, 1, 1, 1, 1, 1, 1, 1, 0, 1]), .code (cd6 [1, 1, 1, 1, 1, 1, 1, 1, 1, 1, 1])]) (us := [(63, .tuple #[.slice Q88 t86.length Q89, .int .i64 t87]), (67, .slice Q88 t86.length Q89), (68, .int .i64 t87), (13, .slice Q88 t86.length Q89), (14, .int .i64 t87), (69, .slice A36 t35.length c37)]) (by kernel_rfl) ?_
     obtain ⟨t107, hr110, hp111⟩ := bind_some' hp91
     have hS113 := hS106.pick5
     obtain ⟨Z114, hz115, hS116, hs117, hb118⟩ := hS113.lendrow len_api_Final (by omega)
     refine r_call1 (c := (cd6 [1, 1, 1, 1, 1, 1, 1, 1, 1, 1, 0, 0])) (i := 1) (d := (some 70)) (g := 9) (args := #[.slice A36 t35.length c37]) (by kernel_rfl) (by kernel_rfl) (by kernel_rfl) (by kernel_rfl) (state_Sort.ok t35 A36 c37 hS116 hs117 hr110) ?_
     rintro _ w119 ⟨Q108, Q109, rfl, hS120⟩
     refine ⟨.slice Q108 t107.length Q109, rfl, ?_⟩
     have hS121 := hb118 _ _ hS120
     refine sx_run 1 (todo' := [.inRegion (opsOf (cd6 [1, 1, 1, 1, 1, 1, 1, 1, 1, 1, 0, 0])) [3, 4, 5, 6, 7, 8, 9, 10, 11, 12, 13, 14, 15, 16, 17, 18, 19, 20, 21, 22, 23, 24, 25, 26, 27, 28, 29, 30, 31, 32, 33, 34, 35, 36, 37, 38, 39, 40, 41, 42, 43, 44, 45, 46, 47, 48, 49, 50, 51, 52, 53, 54, 55, 56, 57, 58, 59], .code (cd6 [1, 1, 1, 1, 1, 1, 1, 1, 1, 1, 0, 1]), .code (cd6 [1, 1, 1, 1, 1, 1, 1, 1, 1, 1, 1])]) (us := [(71, .slice Q17 t16.length Q18)]) (by kernel_rfl) ?_
     obtain ⟨t122, hr123, hp124⟩ := bind_some' hp111
     have hS125 := hS121.pick1
     obtain ⟨Z126, hz127, hS128, hs129, hb130⟩ := hS125.lendrow len_api_Final (by omega)
     have hS131 := hS128.pick1
     obtain ⟨Z132, hz133, hS134, hs135, hb136⟩ := hS131.lendrow len_api_Final (by omega)
     refine r_call1 (c := (cd6 [1, 1, 1, 1, 1, 1, 1, 1, 1, 1, 0, 0])) (i := 3) (d := (some 72)) (g := 12) (args := #[.slice Q108 t107.length Q109, .slice Q17 t16.length Q18]) (by kernel_rfl) (by kernel_rfl) (by kernel_rfl) (by kernel_rfl) (weirlaw10_Same.ok t107 t16 Q108 Q109 Q17 Q18 hS134 (hs129.up hz133) hs135 hr123) ?_
     rintro _ w137 ⟨rfl, hS138⟩
     refine ⟨.bool t122, rfl, ?_⟩
     have hS139 := hb136 _ _ hS138
     have hS140 := hb130 _ _ hS139
     refine sx_split 1 (todo' := [.inRegion (opsOf (cd6 [1, 1, 1, 1, 1, 1, 1, 1, 1, 1, 0, 0])) [5, 6, 7, 8, 9, 10, 11, 12, 13, 14, 15, 16, 17, 18, 19, 20, 21, 22, 23, 24, 25, 26, 27, 28, 29, 30, 31, 32, 33, 34, 35, 36, 37, 38, 39, 40, 41, 42, 43, 44, 45, 46, 47, 48, 49, 50, 51, 52, 53, 54, 55, 56, 57, 58, 59], .code (cd6 [1, 1, 1, 1, 1, 1, 1, 1, 1, 1, 0, 1]), .code (cd6 [1, 1, 1, 1, 1, 1, 1, 1, 1, 1, 1])]) (us := []) (d := 73) (t := (!t122)) (by kernel_rfl) (fun h141 => ?_) (fun h142 => ?_)
     ·skip
      have hp143 := ite_t hp124 h141
      refine sx_run 61 (todo' := [.code (cd6 [1, 1, 1, 1, 1, 1, 1, 1, 1, 1, 0, 1, 0, 1]), .code (cd6 [1, 1, 1, 1, 1, 1, 1, 1, 1, 1, 1])]) (us := [(74, .bool true), (75, undef), (76, undef), (77, undef), (78, undef), (79, undef), (80, .bool true), (81, .bool true), (82, undef), (83, undef), (84, undef), (85, .bool true), (86, .bool true), (87, undef), (88, undef), (89, undef), (90, .bool true), (91, .bool true), (92, undef), (93, undef), (94, undef), (95, .bool true), (96, .bool true), (97, undef), (98, undef), (99, undef), (100, .bool true), (101, .bool true), (102, undef), (103, undef), (104, undef), (105, .bool true), (106, .bool true), (107, undef), (108, undef), (109, undef), (110, undef), (111, undef), (112, undef), (113, undef), (114, undef), (115, undef), (116, undef), (117, undef), (118, .bool true), (119, .bool true), (120, undef), (121, undef), (122, undef), (123, undef), (124, undef), (125, undef), (126, undef), (127, undef), (128, .bool true), (4, .bool false)]) (by kernel_rfl) ?_
      have hS144 := hS140.drop
      have hS145 := hS144.drop
      have hS146 := hS145.drop
      have hS147 := hS146.drop
      have hS148 := hS147.drop
      have hS149 := hS148.drop
      have hS150 := hS149.drop
      refine runs_ret (fn := Tryd.f6) (v := .bool false) Tryd.func6 (by kernel_rfl) ?_
      have hr151 := (Option.some.inj hp143)
      cases hr151
      exact hR _ _ ⟨rfl, hS150⟩
     ·skip
      have hp152 := ite_f hp124 h142
      refine sx_run 2 (todo' := [.inRegion (opsOf (cd6 [1, 1, 1, 1, 1, 1, 1, 1, 1, 1, 0, 0])) [7, 8, 9, 10, 11, 12, 13, 14, 15, 16, 17, 18, 19, 20, 21, 22, 23, 24, 25, 26, 27, 28, 29, 30, 31, 32, 33, 34, 35, 36, 37, 38, 39, 40, 41, 42, 43, 44, 45, 46, 47, 48, 49, 50, 51, 52, 53, 54, 55, 56, 57, 58, 59], .code (cd6 [1, 1, 1, 1, 1, 1, 1, 1, 1, 1, 0, 1]), .code (cd6 [1, 1, 1, 1, 1, 1, 1, 1, 1, 1, 1])]) (us := [(74, .bool false), (75, .slice Q17 t16.length Q18)]) (by kernel_rfl) ?_
      obtain ⟨t153, hr156, hp157⟩ := bind_some' hp152
      have hS159 := hS140.pick1
      obtain ⟨Z160, hz161, hS162, hs163, hb164⟩ := hS159.lendrow len_api_Final (by omega)
      refine r_call1 (c := (cd6 [1, 1, 1, 1, 1, 1, 1, 1, 1, 1, 0, 0])) (i := 7) (d := (some 76)) (g := 9) (args := #[.slice Q17 t16.length Q18]) (by kernel_rfl) (by kernel_rfl) (by kernel_rfl) (by kernel_rfl) (state_Sort.ok t16 Q17 Q18 hS162 hs163 hr156) ?_
      rintro _ w165 ⟨Q154, Q155, rfl, hS166⟩
      refine ⟨.slice Q154 t153.length Q155, rfl, ?_⟩
      have hS167 := hb164 _ _ hS166
      refine sx_run 1 (todo' := [.inRegion (opsOf (cd6 [1, 1, 1, 1, 1, 1, 1, 1, 1, 1, 0, 0])) [9, 10, 11, 12, 13, 14, 15, 16, 17, 18, 19, 20, 21, 22, 23, 24, 25, 26, 27, 28, 29, 30, 31, 32, 33, 34, 35, 36, 37, 38, 39, 40, 41, 42, 43, 44, 45, 46, 47, 48, 49, 50, 51, 52, 53, 54, 55, 56, 57, 58, 59], .code (cd6 [1, 1, 1, 1, 1, 1, 1, 1, 1, 1, 0, 1]), .code (cd6 [1, 1, 1, 1, 1, 1, 1, 1, 1, 1, 1])]) (us := [(77, .slice Q17 t16.length Q18)]) (by kernel_rfl) ?_
      obtain ⟨t168, hr169, hp170⟩ := bind_some' hp157
      have hS171 := hS167.pick1
      obtain ⟨Z172, hz173, hS174, hs175, hb176⟩ := hS171.lendrow len_api_Final (by omega)
      obtain ⟨Z177, hz178, hS179, hs180, hb181⟩ := hS174.lendrow len_api_Final (by omega)
      refine r_call1 (c := (cd6 [1, 1, 1, 1, 1, 1, 1, 1, 1, 1, 0, 0])) (i := 9) (d := (some 78)) (g := 12) (args := #[.slice Q154 t153.length Q155, .slice Q17 t16.length Q18]) (by kernel_rfl) (by kernel_rfl) (by kernel_rfl) (by kernel_rfl) (weirlaw10_Same.ok t153 t16 Q154 Q155 Q17 Q18 hS179 (hs175.up hz178) hs180 hr169) ?_
      rintro _ w182 ⟨rfl, hS183⟩
      refine ⟨.bool t168, rfl, ?_⟩
      have hS184 := hb181 _ _ hS183
      have hS185 := hb176 _ _ hS184
      refine sx_split 1 (todo' := [.inRegion (opsOf (cd6 [1, 1, 1, 1, 1, 1, 1, 1, 1, 1, 0, 0])) [11, 12, 13, 14, 15, 16, 17, 18, 19, 20, 21, 22, 23, 24, 25, 26, 27, 28, 29, 30, 31, 32, 33, 34, 35, 36, 37, 38, 39, 40, 41, 42, 43, 44, 45, 46, 47, 48, 49, 50, 51, 52, 53, 54, 55, 56, 57, 58, 59], .code (cd6 [1, 1, 1, 1, 1, 1, 1, 1, 1, 1, 0, 1]), .code (cd6 [1, 1, 1, 1, 1, 1, 1, 1, 1, 1, 1])]) (us := []) (d := 79) (t := (!t168)) (by kernel_rfl) (fun h186 => ?_) (fun h187 => ?_)
      ·skip
       have hp188 := ite_t hp170 h186
       refine sx_run 55 (todo' := [.code (cd6 [1, 1, 1, 1, 1, 1, 1, 1, 1, 1, 0, 1, 0, 1]), .code (cd6 [1, 1, 1, 1, 1, 1, 1, 1, 1, 1, 1])]) (us := [(80, .bool true), (81, .bool true), (82, undef), (83, undef), (84, undef), (85, .bool true), (86, .bool true), (87, undef), (88, undef), (89, undef), (90, .bool true), (91, .bool true), (92, undef), (93, undef), (94, undef), (95, .bool true), (96, .bool true), (97, undef), (98, undef), (99, undef), (100, .bool true), (101, .bool true), (102, undef), (103, undef), (104, undef), (105, .bool true), (106, .bool true), (107, undef), (108, undef), (109, undef), (110, undef), (111, undef), (112, undef), (113, undef), (114, undef), (115, undef), (116, undef), (117, undef), (118, .bool true), (119, .bool true), (120, undef), (121, undef), (122, undef), (123, undef), (124, undef), (125, undef), (126, undef), (127, undef), (128, .bool true), (4, .bool false)]) (by kernel_rfl) ?_
       have hS189 := hS185.drop
       have hS190 := hS189.drop
       have hS191 := hS190.drop
       have hS192 := hS191.drop
       have hS193 := hS192.drop
       have hS194 := hS193.drop
       have hS195 := hS194.drop
       have hS196 := hS195.drop
       refine runs_ret (fn := Tryd.f6) (v := .bool false) Tryd.func6 (by kernel_rfl) ?_
       have hr197 := (Option.some.inj hp188)
       cases hr197
       exact hR _ _ ⟨rfl, hS196⟩
      ·skip
       have hp198 := ite_f hp170 h187
       refine sx_run 3 (todo' := [.inRegion (opsOf (cd6 [1, 1, 1, 1, 1, 1, 1, 1, 1, 1, 0, 0])) [14, 15, 16, 17, 18, 19, 20, 21, 22, 23, 24, 25, 26, 27, 28, 29, 30, 31, 32, 33, 34, 35, 36, 37, 38, 39, 40, 41, 42, 43, 44, 45, 46, 47, 48, 49, 50, 51, 52, 53, 54, 55, 56, 57, 58, 59], .code (cd6 [1, 1, 1, 1, 1, 1, 1, 1, 1, 1, 0, 1]), .code (cd6 [1, 1, 1, 1, 1, 1, 1, 1, 1, 1, 1])]) (us := [(80, .bool false), (81, .bool false), (82, .slice Q17 t16.length Q18)]) (by kernel_rfl) ?_
       obtain ⟨t199, hr200, hp201⟩ := bind_some' hp198
       have hS202 := hS185.pick1
       obtain ⟨Z203, hz204, hS205, hs206, hb207⟩ := hS202.lendrow len_api_Final (by omega)
       refine r_call1 (c := (cd6 [1, 1, 1, 1, 1, 1, 1, 1, 1, 1, 0, 0])) (i := 14) (d := (some 83)) (g := 13) (args := #[.slice Q17 t16.length Q18]) (by kernel_rfl) (by kernel_rfl) (by kernel_rfl) (by kernel_rfl) (state_Rises.ok t16 Q17 Q18 hS205 hs206 hr200) ?_
       rintro _ w208 ⟨rfl, hS209⟩
       refine ⟨.bool t199, rfl, ?_⟩
       have hS210 := hb207 _ _ hS209
       refine sx_split 1 (todo' := [.inRegion (opsOf (cd6 [1, 1, 1, 1, 1, 1, 1, 1, 1, 1, 0, 0])) [16, 17, 18, 19, 20, 21, 22, 23, 24, 25, 26, 27, 28, 29, 30, 31, 32, 33, 34, 35, 36, 37, 38, 39, 40, 41, 42, 43, 44, 45, 46, 47, 48, 49, 50, 51, 52, 53, 54, 55, 56, 57, 58, 59], .code (cd6 [1, 1, 1, 1, 1, 1, 1, 1, 1, 1, 0, 1]), .code (cd6 [1, 1, 1, 1, 1, 1, 1, 1, 1, 1, 1])]) (us := []) (d := 84) (t := (!t199)) (by kernel_rfl) (fun h211 => ?_) (fun h212 => ?_)
       ·skip
        have hp213 := ite_t hp201 h211
        refine sx_run 50 (todo' := [.code (cd6 [1, 1, 1, 1, 1, 1, 1, 1, 1, 1, 0, 1, 0, 1]), .code (cd6 [1, 1, 1, 1, 1, 1, 1, 1, 1, 1, 1])]) (us := [(85, .bool true), (86, .bool true), (87, undef), (88, undef), (89, undef), (90, .bool true), (91, .bool true), (92, undef), (93, undef), (94, undef), (95, .bool true), (96, .bool true), (97, undef), (98, undef), (99, undef), (100, .bool true), (101, .bool true), (102, undef), (103, undef), (104, undef), (105, .bool true), (106, .bool true), (107, undef), (108, undef), (109, undef), (110, undef), (111, undef), (112, undef), (113, undef), (114, undef), (115, undef), (116, undef), (117, undef), (118, .bool true), (119, .bool true), (120, undef), (121, undef), (122, undef), (123, undef), (124, undef), (125, undef), (126, undef), (127, undef), (128, .bool true), (4, .bool false)]) (by kernel_rfl) ?_
        have hS214 := hS210.drop
        have hS215 := hS214.drop
        have hS216 := hS215.drop
        have hS217 := hS216.drop
        have hS218 := hS217.drop
        have hS219 := hS218.drop
        have hS220 := hS219.drop
        have hS221 := hS220.drop
        refine runs_ret (fn := Tryd.f6) (v := .bool false) Tryd.func6 (by kernel_rfl) ?_
        have hr222 := (Option.some.inj hp213)
        cases hr222
        exact hR _ _ ⟨rfl, hS221⟩
       ·skip
        have hp223 := ite_f hp201 h212
        refine sx_run 3 (todo' := [.inRegion (opsOf (cd6 [1, 1, 1, 1, 1, 1, 1, 1, 1, 1, 0, 0])) [19, 20, 21, 22, 23, 24, 25, 26, 27, 28, 29, 30, 31, 32, 33, 34, 35, 36, 37, 38, 39, 40, 41, 42, 43, 44, 45, 46, 47, 48, 49, 50, 51, 52, 53, 54, 55, 56, 57, 58, 59], .code (cd6 [1, 1, 1, 1, 1, 1, 1, 1, 1, 1, 0, 1]), .code (cd6 [1, 1, 1, 1, 1, 1, 1, 1, 1, 1, 1])]) (us := [(85, .bool false), (86, .bool false), (87, .slice Q46 t44.length Q47)]) (by kernel_rfl) ?_
        obtain ⟨t224, hr225, hp226⟩ := bind_some' hp223
        have hS227 := hS210.pick7
        obtain ⟨Z228, hz229, hS230, hs231, hb232⟩ := hS227.lendrow len_api_Final (by omega)
        refine r_call1 (c := (cd6 [1, 1, 1, 1, 1, 1, 1, 1, 1, 1, 0, 0])) (i := 19) (d := (some 88)) (g := 13) (args := #[.slice Q46 t44.length Q47]) (by kernel_rfl) (by kernel_rfl) (by kernel_rfl) (by kernel_rfl) (state_Rises.ok t44 Q46 Q47 hS230 hs231 hr225) ?_
        rintro _ w233 ⟨rfl, hS234⟩
        refine ⟨.bool t224, rfl, ?_⟩
        have hS235 := hb232 _ _ hS234
        refine sx_split 1 (todo' := [.inRegion (opsOf (cd6 [1, 1, 1, 1, 1, 1, 1, 1, 1, 1, 0, 0])) [21, 22, 23, 24, 25, 26, 27, 28, 29, 30, 31, 32, 33, 34, 35, 36, 37, 38, 39, 40, 41, 42, 43, 44, 45, 46, 47, 48, 49, 50, 51, 52, 53, 54, 55, 56, 57, 58, 59], .code (cd6 [1, 1, 1, 1, 1, 1, 1, 1, 1, 1, 0, 1]), .code (cd6 [1, 1, 1, 1, 1, 1, 1, 1, 1, 1, 1])]) (us := []) (d := 89) (t := (!t224)) (by kernel_rfl) (fun h236 => ?_) (fun h237 => ?_)
        ·skip
         have hp238 := ite_t hp226 h236
         refine sx_run 45 (todo' := [.code (cd6 [1, 1, 1, 1, 1, 1, 1, 1, 1, 1, 0, 1, 0, 1]), .code (cd6 [1, 1, 1, 1, 1, 1, 1, 1, 1, 1, 1])]) (us := [(90, .bool true), (91, .bool true), (92, undef), (93, undef), (94, undef), (95, .bool true), (96, .bool true), (97, undef), (98, undef), (99, undef), (100, .bool true), (101, .bool true), (102, undef), (103, undef), (104, undef), (105, .bool true), (106, .bool true), (107, undef), (108, undef), (109, undef), (110, undef), (111, undef), (112, undef), (113, undef), (114, undef), (115, undef), (116, undef), (117, undef), (118, .bool true), (119, .bool true), (120, undef), (121, undef), (122, undef), (123, undef), (124, undef), (125, undef), (126, undef), (127, undef), (128, .bool true), (4, .bool false)]) (by kernel_rfl) ?_
         have hS239 := hS235.drop
         have hS240 := hS239.drop
         have hS241 := hS240.drop
         have hS242 := hS241.drop
         have hS243 := hS242.drop
         have hS244 := hS243.drop
         have hS245 := hS244.drop
         have hS246 := hS245.drop
         refine runs_ret (fn := Tryd.f6) (v := .bool false) Tryd.func6 (by kernel_rfl) ?_
         have hr247 := (Option.some.inj hp238)
         cases hr247
         exact hR _ _ ⟨rfl, hS246⟩
        ·skip
         have hp248 := ite_f hp226 h237
         refine sx_run 3 (todo' := [.inRegion (opsOf (cd6 [1, 1, 1, 1, 1, 1, 1, 1, 1, 1, 0, 0])) [24, 25, 26, 27, 28, 29, 30, 31, 32, 33, 34, 35, 36, 37, 38, 39, 40, 41, 42, 43, 44, 45, 46, 47, 48, 49, 50, 51, 52, 53, 54, 55, 56, 57, 58, 59], .code (cd6 [1, 1, 1, 1, 1, 1, 1, 1, 1, 1, 0, 1]), .code (cd6 [1, 1, 1, 1, 1, 1, 1, 1, 1, 1, 1])]) (us := [(90, .bool false), (91, .bool false), (92, .int .i64 t45)]) (by kernel_rfl) ?_
         obtain ⟨t249, hr250, hp251⟩ := bind_some' hp248
         refine r_call1 (c := (cd6 [1, 1, 1, 1, 1, 1, 1, 1, 1, 1, 0, 0])) (i := 24) (d := (some 93)) (g := 11) (args := #[.int .i64 t45]) (by kernel_rfl) (by kernel_rfl) (by kernel_rfl) (by kernel_rfl) (weirlaw10_num.ok t45 hS235 hr250) ?_
         rintro _ w252 ⟨rfl, hS253⟩
         refine ⟨.int .i64 t249, rfl, ?_⟩
         refine sx_split 1 (todo' := [.inRegion (opsOf (cd6 [1, 1, 1, 1, 1, 1, 1, 1, 1, 1, 0, 0])) [26, 27, 28, 29, 30, 31, 32, 33, 34, 35, 36, 37, 38, 39, 40, 41, 42, 43, 44, 45, 46, 47, 48, 49, 50, 51, 52, 53, 54, 55, 56, 57, 58, 59], .code (cd6 [1, 1, 1, 1, 1, 1, 1, 1, 1, 1, 0, 1]), .code (cd6 [1, 1, 1, 1, 1, 1, 1, 1, 1, 1, 1])]) (us := []) (d := 94) (t := (t249 != 0)) (by kernel_rfl) (fun h254 => ?_) (fun h255 => ?_)
         ·skip
          have hp256 := ite_t hp251 h254
          refine sx_run 40 (todo' := [.code (cd6 [1, 1, 1, 1, 1, 1, 1, 1, 1, 1, 0, 1, 0, 1]), .code (cd6 [1, 1, 1, 1, 1, 1, 1, 1, 1, 1, 1])]) (us := [(95, .bool true), (96, .bool true), (97, undef), (98, undef), (99, undef), (100, .bool true), (101, .bool true), (102, undef), (103, undef), (104, undef), (105, .bool true), (106, .bool true), (107, undef), (108, undef), (109, undef), (110, undef), (111, undef), (112, undef), (113, undef), (114, undef), (115, undef), (116, undef), (117, undef), (118, .bool true), (119, .bool true), (120, undef), (121, undef), (122, undef), (123, undef), (124, undef), (125, undef), (126, undef), (127, undef), (128, .bool true), (4, .bool false)]) (by kernel_rfl) ?_
          have hS257 := hS253.drop
          have hS258 := hS257.drop
          have hS259 := hS258.drop
          have hS260 := hS259.drop
          have hS261 := hS260.drop
          have hS262 := hS261.drop
          have hS263 := hS262.drop
          have hS264 := hS263.drop
          refine runs_ret (fn := Tryd.f6) (v := .bool false) Tryd.func6 (by kernel_rfl) ?_
          have hr265 := (Option.some.inj hp256)
          cases hr265
          exact hR _ _ ⟨rfl, hS264⟩
         ·skip
          have hp266 := ite_f hp251 h255
          refine sx_run 3 (todo' := [.inRegion (opsOf (cd6 [1, 1, 1, 1, 1, 1, 1, 1, 1, 1, 0, 0])) [29, 30, 31, 32, 33, 34, 35, 36, 37, 38, 39, 40, 41, 42, 43, 44, 45, 46, 47, 48, 49, 50, 51, 52, 53, 54, 55, 56, 57, 58, 59], .code (cd6 [1, 1, 1, 1, 1, 1, 1, 1, 1, 1, 0, 1]), .code (cd6 [1, 1, 1, 1, 1, 1, 1, 1, 1, 1, 1])]) (us := [(95, .bool false), (96, .bool false), (97, .int .i64 t66)]) (by kernel_rfl) ?_
          obtain ⟨t267, hr268, hp269⟩ := bind_some' hp266
          refine r_call1 (c := (cd6 [1, 1, 1, 1, 1, 1, 1, 1, 1, 1, 0, 0])) (i := 29) (d := (some 98)) (g := 11) (args := #[.int .i64 t66]) (by kernel_rfl) (by kernel_rfl) (by kernel_rfl) (by kernel_rfl) (weirlaw10_num.ok t66 hS253 hr268) ?_
          rintro _ w270 ⟨rfl, hS271⟩
          refine ⟨.int .i64 t267, rfl, ?_⟩
          refine sx_split 1 (todo' := [.inRegion (opsOf (cd6 [1, 1, 1, 1, 1, 1, 1, 1, 1, 1, 0, 0])) [31, 32, 33, 34, 35, 36, 37, 38, 39, 40, 41, 42, 43, 44, 45, 46, 47, 48, 49, 50, 51, 52, 53, 54, 55, 56, 57, 58, 59], .code (cd6 [1, 1, 1, 1, 1, 1, 1, 1, 1, 1, 0, 1]), .code (cd6 [1, 1, 1, 1, 1, 1, 1, 1, 1, 1, 1])]) (us := []) (d := 99) (t := (t267 != 0)) (by kernel_rfl) (fun h272 => ?_) (fun h273 => ?_)
          ·skip
           have hp274 := ite_t hp269 h272
           refine sx_run 35 (todo' := [.code (cd6 [1, 1, 1, 1, 1, 1, 1, 1, 1, 1, 0, 1, 0, 1]), .code (cd6 [1, 1, 1, 1, 1, 1, 1, 1, 1, 1, 1])]) (us := [(100, .bool true), (101, .bool true), (102, undef), (103, undef), (104, undef), (105, .bool true), (106, .bool true), (107, undef), (108, undef), (109, undef), (110, undef), (111, undef), (112, undef), (113, undef), (114, undef), (115, undef), (116, undef), (117, undef), (118, .bool true), (119, .bool true), (120, undef), (121, undef), (122, undef), (123, undef), (124, undef), (125, undef), (126, undef), (127, undef), (128, .bool true), (4, .bool false)]) (by kernel_rfl) ?_
           have hS275 := hS271.drop
           have hS276 := hS275.drop
           have hS277 := hS276.drop
           have hS278 := hS277.drop
           have hS279 := hS278.drop
           have hS280 := hS279.drop
           have hS281 := hS280.drop
           have hS282 := hS281.drop
           refine runs_ret (fn := Tryd.f6) (v := .bool false) Tryd.func6 (by kernel_rfl) ?_
           have hr283 := (Option.some.inj hp274)
           cases hr283
           exact hR _ _ ⟨rfl, hS282⟩
          ·skip
           have hp284 := ite_f hp269 h273
           refine sx_run 3 (todo' := [.inRegion (opsOf (cd6 [1, 1, 1, 1, 1, 1, 1, 1, 1, 1, 0, 0])) [34, 35, 36, 37, 38, 39, 40, 41, 42, 43, 44, 45, 46, 47, 48, 49, 50, 51, 52, 53, 54, 55, 56, 57, 58, 59], .code (cd6 [1, 1, 1, 1, 1, 1, 1, 1, 1, 1, 0, 1]), .code (cd6 [1, 1, 1, 1, 1, 1, 1, 1, 1, 1, 1])]) (us := [(100, .bool false), (101, .bool false), (102, .int .i64 t87)]) (by kernel_rfl) ?_
           obtain ⟨t285, hr286, hp287⟩ := bind_some' hp284
           refine r_call1 (c := (cd6 [1, 1, 1, 1, 1, 1, 1, 1, 1, 1, 0, 0])) (i := 34) (d := (some 103)) (g := 11) (args := #[.int .i64 t87]) (by kernel_rfl) (by kernel_rfl) (by kernel_rfl) (by kernel_rfl) (weirlaw10_num.ok t87 hS271 hr286) ?_
           rintro _ w288 ⟨rfl, hS289⟩
           refine ⟨.int .i64 t285, rfl, ?_⟩
           refine sx_split 1 (todo' := [.inRegion (opsOf (cd6 [1, 1, 1, 1, 1, 1, 1, 1, 1, 1, 0, 0])) [36, 37, 38, 39, 40, 41, 42, 43, 44, 45, 46, 47, 48, 49, 50, 51, 52, 53, 54, 55, 56, 57, 58, 59], .code (cd6 [1, 1, 1, 1, 1, 1, 1, 1, 1, 1, 0, 1]), .code (cd6 [1, 1, 1, 1, 1, 1, 1, 1, 1, 1, 1])]) (us := []) (d := 104) (t := (t285 != 0)) (by kernel_rfl) (fun h290 => ?_) (fun h291 => ?_)
           ·skip
            have hp292 := ite_t hp287 h290
            refine sx_run 30 (todo' := [.code (cd6 [1, 1, 1, 1, 1, 1, 1, 1, 1, 1, 0, 1, 0, 1]), .code (cd6 [1, 1, 1, 1, 1, 1, 1, 1, 1, 1, 1])]) (us := [(105, .bool true), (106, .bool true), (107, undef), (108, undef), (109, undef), (110, undef), (111, undef), (112, undef), (113, undef), (114, undef), (115, undef), (116, undef), (117, undef), (118, .bool true), (119, .bool true), (120, undef), (121, undef), (122, undef), (123, undef), (124, undef), (125, undef), (126, undef), (127, undef), (128, .bool true), (4, .bool false)]) (by kernel_rfl) ?_
            have hS293 := hS289.drop
            have hS294 := hS293.drop
            have hS295 := hS294.drop
            have hS296 := hS295.drop
            have hS297 := hS296.drop
            have hS298 := hS297.drop
            have hS299 := hS298.drop
            have hS300 := hS299.drop
            refine runs_ret (fn := Tryd.f6) (v := .bool false) Tryd.func6 (by kernel_rfl) ?_
            have hr301 := (Option.some.inj hp292)
            cases hr301
            exact hR _ _ ⟨rfl, hS300⟩
           ·skip
            have hp302 := ite_f hp287 h291
            refine sx_split 13 (todo' := [.inRegion (opsOf (cd6 [1, 1, 1, 1, 1, 1, 1, 1, 1, 1, 0, 0])) [49, 50, 51, 52, 53, 54, 55, 56, 57, 58, 59], .code (cd6 [1, 1, 1, 1, 1, 1, 1, 1, 1, 1, 0, 1]), .code (cd6 [1, 1, 1, 1, 1, 1, 1, 1, 1, 1, 1])]) (us := [(105, .bool false), (106, .bool false), (107, .slice Q46 t44.length Q47), (108, .int .i64 (t44.length : Int)), (109, .slice Q67 t65.length Q68), (110, .int .i64 (t65.length : Int)), (111, .int .i64 (IntKind.i64.wrap ((t44.length : Int) + (t65.length : Int)))), (112, .slice Q17 t16.length Q18), (113, .int .i64 (t16.length : Int)), (114, .slice Q25 t24.length Q26), (115, .int .i64 (t24.length : Int)), (116, .int .i64 (IntKind.i64.wrap ((t16.length : Int) + (t24.length : Int))))]) (d := 117) (t := ((IntKind.i64.wrap ((t44.length : Int) + (t65.length : Int))) != (IntKind.i64.wrap ((t16.length : Int) + (t24.length : Int))))) (by kernel_rfl) (fun h303 => ?_) (fun h304 => ?_)
            ·skip
             have hp305 := ite_t hp302 h303
             refine sx_run 17 (todo' := [.code (cd6 [1, 1, 1, 1, 1, 1, 1, 1, 1, 1, 0, 1, 0, 1]), .code (cd6 [1, 1, 1, 1, 1, 1, 1, 1, 1, 1, 1])]) (us := [(118, .bool true), (119, .bool true), (120, undef), (121, undef), (122, undef), (123, undef), (124, undef), (125, undef), (126, undef), (127, undef), (128, .bool true), (4, .bool false)]) (by kernel_rfl) ?_
             have hS306 := hS289.drop
             have hS307 := hS306.drop
             have hS308 := hS307.drop
             have hS309 := hS308.drop
             have hS310 := hS309.drop
             have hS311 := hS310.drop
             have hS312 := hS311.drop
             have hS313 := hS312.drop
             refine runs_ret (fn := Tryd.f6) (v := .bool false) Tryd.func6 (by kernel_rfl) ?_
             have hr314 := (Option.some.inj hp305)
             cases hr314
             exact hR _ _ ⟨rfl, hS313⟩
            ·skip
             have hp315 := ite_f hp302 h304
             refine sx_split 10 (todo' := [.inRegion (opsOf (cd6 [1, 1, 1, 1, 1, 1, 1, 1, 1, 1, 0, 0])) [59], .code (cd6 [1, 1, 1, 1, 1, 1, 1, 1, 1, 1, 0, 1]), .code (cd6 [1, 1, 1, 1, 1, 1, 1, 1, 1, 1, 1])]) (us := [(118, .bool false), (119, .bool false), (120, .slice Q88 t86.length Q89), (121, .int .i64 (t86.length : Int)), (122, .slice Q67 t65.length Q68), (123, .int .i64 (t65.length : Int)), (124, .int .i64 (IntKind.i64.wrap ((t86.length : Int) + (t65.length : Int)))), (125, .slice Q17 t16.length Q18), (126, .int .i64 (t16.length : Int))]) (d := 127) (t := ((IntKind.i64.wrap ((t86.length : Int) + (t65.length : Int))) != (t16.length : Int))) (by kernel_rfl) (fun h316 => ?_) (fun h317 => ?_)
             ·skip
              have hp318 := ite_t hp315 h316
              refine sx_run 7 (todo' := [.code (cd6 [1, 1, 1, 1, 1, 1, 1, 1, 1, 1, 0, 1, 0, 1]), .code (cd6 [1, 1, 1, 1, 1, 1, 1, 1, 1, 1, 1])]) (us := [(128, .bool true), (4, .bool false)]) (by kernel_rfl) ?_
              have hS319 := hS289.drop
              have hS320 := hS319.drop
              have hS321 := hS320.drop
              have hS322 := hS321.drop
              have hS323 := hS322.drop
              have hS324 := hS323.drop
              have hS325 := hS324.drop
              have hS326 := hS325.drop
              refine runs_ret (fn := Tryd.f6) (v := .bool false) Tryd.func6 (by kernel_rfl) ?_
              have hr327 := (Option.some.inj hp318)
              cases hr327
              exact hR _ _ ⟨rfl, hS326⟩
             ·skip
              have hp328 := ite_f hp315 h317
              refine sx_run 6 (todo' := [.inRegion (opsOf (cd6 [1, 1, 1, 1, 1, 1, 1, 1, 1, 1, 1, 0])) [0, 1, 2, 3, 4, 5], .code (cd6 [1, 1, 1, 1, 1, 1, 1, 1, 1, 1, 1, 1])]) (us := [(128, .bool false)]) (by kernel_rfl) ?_
              refine r_lit0 (c := (cd6 [1, 1, 1, 1, 1, 1, 1, 1, 1, 1, 1, 0])) (i := 0) (d := (some 129)) (ty := 28) (t := 28) (e := 24) (sz := 49) hS289 (by kernel_rfl) (by kernel_rfl) (by kernel_rfl) (by kernel_rfl) ?_
              intro b330 w331 hS332
              refine sx_run 1 (todo' := [.inRegion (opsOf (cd6 [1, 1, 1, 1, 1, 1, 1, 1, 1, 1, 1, 0])) [2, 3, 4, 5], .code (cd6 [1, 1, 1, 1, 1, 1, 1, 1, 1, 1, 1, 1])]) (us := [(130, .slice Aa0 a0.length ca0)]) (by kernel_rfl) ?_
              obtain ⟨g333, hp334⟩ := ite_some hp328
              refine r_append (c := (cd6 [1, 1, 1, 1, 1, 1, 1, 1, 1, 1, 1, 0])) (i := 2) (d := (some 131)) (ty := 28) (enc := enc_api_Final) (e := 24) (u := 24) (t := 28) (t2 := 28) (sz := 49) (cp := 0) (A := (some ⟨b330, 0, none⟩)) (bytes := 392) (xs := ([] : List api_Final)) (ys := a0) (s := (.tmp 129)) (x := (.tmp 130)) (xv := .slice Aa0 a0.length ca0) (info := infoOf Tryd.prog 24) (z := zeroOf Tryd.prog 24) (ycs := a0.flatMap enc_api_Final) hS332 (by kernel_rfl) (by kernel_rfl) (by kernel_rfl) (by kernel_rfl) (by kernel_rfl) (.inl (by kernel_rfl)) (by kernel_rfl) (by kernel_rfl) (by kernel_rfl) (by kernel_rfl) (by kernel_rfl) (by omega) len_api_Final one_api_Final (src_slz hS332 ha0 (by omega) len_api_Final) rfl g333 (by omega) ?_
              intro A335 c336 w337 hS338
              refine sx_run 1 (todo' := [.inRegion (opsOf (cd6 [1, 1, 1, 1, 1, 1, 1, 1, 1, 1, 1, 0])) [4, 5], .code (cd6 [1, 1, 1, 1, 1, 1, 1, 1, 1, 1, 1, 1])]) (us := [(132, .slice Aa1 a1.length ca1)]) (by kernel_rfl) ?_
              obtain ⟨g340, hp341⟩ := ite_some hp334
              refine r_append (c := (cd6 [1, 1, 1, 1, 1, 1, 1, 1, 1, 1, 1, 0])) (i := 4) (d := (some 133)) (ty := 28) (enc := enc_api_Final) (e := 24) (u := 24) (t := 28) (t2 := 28) (sz := 49) (cp := c336) (A := A335) (bytes := 392) (xs := (([] : List api_Final) ++ a0)) (ys := a1) (s := (.tmp 131)) (x := (.tmp 132)) (xv := .slice Aa1 a1.length ca1) (info := infoOf Tryd.prog 24) (z := zeroOf Tryd.prog 24) (ycs := a1.flatMap enc_api_Final) hS338 (by kernel_rfl) (by kernel_rfl) (by kernel_rfl) (by kernel_rfl) (by kernel_rfl) (.inl (by kernel_rfl)) (by kernel_rfl) (by kernel_rfl) (by kernel_rfl) (by kernel_rfl) (by kernel_rfl) (by omega) len_api_Final one_api_Final (src_slz hS338 ha1 (by omega) len_api_Final) rfl g340 (by omega) ?_
              intro A342 c343 w344 hS345
              refine sx_run 9 (todo' := [.code (cd6 [1, 1, 1, 1, 1, 1, 1, 1, 1, 1, 1, 1, 0, 1, 0, 0]), .inLoop (cd6 [1, 1, 1, 1, 1, 1, 1, 1, 1, 1, 1, 1, 0, 1, 0, 0]), .inBlock 2, .code (cd6 [1, 1, 1, 1, 1, 1, 1, 1, 1, 1, 1, 1, 1])]) (us := [(15, .slice A342 ((([] : List api_Final) ++ a0) ++ a1).length c343), (16, .int .i64 0)]) (by kernel_rfl) ?_
              have hS347 := hS345.pick3
              have hS348 := hS347.drop
              have hS349 := hS348.pick3
              have hS350 := hS349.drop
              have hS351 := hS350.pick3
              have hS352 := hS351.drop
              obtain ⟨v353, hv354, hp355⟩ := bind_some' hp341
              have hq358 : ∀ x, Sum.inr x = v353 → x = q0 := by intro x hx; subst hx; simpa using hp355
              have J359 : ∀ (he361 : Sum.inl () = v353) (l360 : List Value) (w356 : World) (hS357 : St w0 Z (fs) w356), Runs Tryd.prog 6 [.code (cd6 [1, 1, 1, 1, 1, 1, 1, 1, 1, 1, 1, 1, 1])] (fill [none, none, none, none, none, none, none, none, none, none, none, none, none, none, none, none, none, none, none, none, none, none, none, none, none, none, none, none, none, none, none, none, none, none, none, none, none, none, none, none, none, none, none, none, none, none, none, none, none, none, none, none, none, none, none, none, none, none, none, none, none, none, none, none, none, none, none, none, none, none, none, none, none, none, none, none, none, none, none, none, none, none, none, none, none, none, none, none, none, none, none, none, none, none, none, none, none, none, none, none, none, none, none, none, none, none, none, none, none, none, none, none, none, none, none, none, none, none, none, none, none, none, none, none, none, none, none, none, none, none, none, none, none, none, none, none, none, none, none, none, none, none, none, none, none, none, none, none, none, none, none, none, none, none, none, none, none, none, none, none, none, none, none, none, none, none, none, none, none, none, none, none, none, none, none, none, none, none, none, none, none, none, none, none, none, none, none, none, none, none, none, none, none, none, none, none, none, none, none, none, none, none, none, none, none, none, none, none, none, none, none, none, none, none, none, none, none, none, none, none, none, none, none, none, none, none, none, none, none, none, none, none, none, none, none, none, none, none, none, none, none, none, none, none, none, none] l360) w356 R := by
               intro he361 l360 w356 hS357
               subst he361
               try dsimp only at hp355
               refine sx_run 4 (todo' := [.code (cd6 [1, 1, 1, 1, 1, 1, 1, 1, 1, 1, 1, 1, 1, 1])]) (us := [(4, .bool true)]) (by kernel_rfl) ?_
               refine runs_ret (fn := Tryd.f6) (v := .bool true) Tryd.func6 (by kernel_rfl) ?_
               have hr362 := (Option.some.inj hp355)
               cases hr362
               exact hR _ _ ⟨rfl, hS357⟩
              have L372 : ∀ (t363 : Int) (e367 : Sum Unit Bool), weirlaw10_StateSetLaws.l1 a0 a1 t16 t24 t44 t65 t86 t363 = some e367 → e367 = v353 → ∀ (l366 : List Value) (w364 : World) (hS365 : St w0 Z (xrow Q17 Q18 24 49 (t16.flatMap enc_api_Final) :: xrow Q25 Q26 24 49 (t24.flatMap enc_api_Final) :: xrow Q46 Q47 24 49 (t44.flatMap enc_api_Final) :: xrow Q67 Q68 24 49 (t65.flatMap enc_api_Final) :: xrow Q88 Q89 24 49 (t86.flatMap enc_api_Final) :: xrow A342 c343 24 49 (((([] : List api_Final) ++ a0) ++ a1).flatMap enc_api_Final) :: fs) w364), Runs Tryd.prog 6 [.code (cd6 [1, 1, 1, 1, 1, 1, 1, 1, 1, 1, 1, 1, 0, 1, 0, 0]), .inLoop (cd6 [1, 1, 1, 1, 1, 1, 1, 1, 1, 1, 1, 1, 0, 1, 0, 0]), .inBlock 2, .code (cd6 [1, 1, 1, 1, 1, 1, 1, 1, 1, 1, 1, 1, 1])] (fill [none, none, none, none, none, some (.slice Q17 t16.length Q18), some (.slice Q25 t24.length Q26), none, none, some (.slice Q46 t44.length Q47), none, some (.slice Q67 t65.length Q68), none, some (.slice Q88 t86.length Q89), none, some (.slice A342 ((([] : List api_Final) ++ a0) ++ a1).length c343), some (.int .i64 t363), none, none, none, none, none, none, none, none, none, none, none, none, none, none, none, none, none, none, none, none, none, none, none, none, none, none, none, none, none, none, none, none, none, none, none, none, none, none, none, none, none, none, none, none, none, none, none, none, none, none, none, none, none, none, none, none, none, none, none, none, none, none, none, none, none, none, none, none, none, none, none, none, none, none, none, none, none, none, none, none, none, none, none, none, none, none, none, none, none, none, none, none, none, none, none, none, none, none, none, none, none, none, none, none, none, none, none, none, none, none, none, none, none, none, none, none, none, none, none, none, none, none, none, none, none, none, none, none, none, none, none, none, none, none, none, none, none, none, none, none, none, none, none, none, none, none, none, none, none, none, none, none, none, none, none, none, none, none, none, none, none, none, none, none, none, none, none, none, none, none, none, none, none, none, none, none, none, none, none, none, none, none, none, none, none, none, none, none, none, none, none, none, none, none, none, none, none, none, none, none, none, none, none, none, none, none, none, none, none, none, none, none, none, none, none, none, none, none, none, none, none, none, none, none, none, none, none, none, none] l366) w364 R := by
               refine weirlaw10_StateSetLaws.l1.partial_correctness a0 a1 t16 t24 t44 t65 t86 (fun t363 e367 => e367 = v353 → ∀ (l366 : List Value) (w364 : World) (hS365 : St w0 Z (xrow Q17 Q18 24 49 (t16.flatMap enc_api_Final) :: xrow Q25 Q26 24 49 (t24.flatMap enc_api_Final) :: xrow Q46 Q47 24 49 (t44.flatMap enc_api_Final) :: xrow Q67 Q68 24 49 (t65.flatMap enc_api_Final) :: xrow Q88 Q89 24 49 (t86.flatMap enc_api_Final) :: xrow A342 c343 24 49 (((([] : List api_Final) ++ a0) ++ a1).flatMap enc_api_Final) :: fs) w364), Runs Tryd.prog 6 [.code (cd6 [1, 1, 1, 1, 1, 1, 1, 1, 1, 1, 1, 1, 0, 1, 0, 0]), .inLoop (cd6 [1, 1, 1, 1, 1, 1, 1, 1, 1, 1, 1, 1, 0, 1, 0, 0]), .inBlock 2, .code (cd6 [1, 1, 1, 1, 1, 1, 1, 1, 1, 1, 1, 1, 1])] (fill [none, none, none, none, none, some (.slice Q17 t16.length Q18), some (.slice Q25 t24.length Q26), none, none, some (.slice Q46 t44.length Q47), none, some (.slice Q67 t65.length Q68), none, some (.slice Q88 t86.length Q89), none, some (.slice A342 ((([] : List api_Final) ++ a0) ++ a1).length c343), some (.int .i64 t363), none, none, none, none, none, none, none, none, none, none, none, none, none, none, none, none, none, none, none, none, none, none, none, none, none, none, none, none, none, none, none, none, none, none, none, none, none, none, none, none, none, none, none, none, none, none, none, none, none, none, none, none, none, none, none, none, none, none, none, none, none, none, none, none, none, none, none, none, none, none, none, none, none, none, none, none, none, none, none, none, none, none, none, none, none, none, none, none, none, none, none, none, none, none, none, none, none, none, none, none, none, none, none, none, none, none, none, none, none, none, none, none, none, none, none, none, none, none, none, none, none, none, none, none, none, none, none, none, none, none, none, none, none, none, none, none, none, none, none, none, none, none, none, none, none, none, none, none, none, none, none, none, none, none, none, none, none, none, none, none, none, none, none, none, none, none, none, none, none, none, none, none, none, none, none, none, none, none, none, none, none, none, none, none, none, none, none, none, none, none, none, none, none, none, none, none, none, none, none, none, none, none, none, none, none, none, none, none, none, none, none, none, none, none, none, none, none, none, none, none, none, none, none, none, none, none, none, none, none] l366) w364 R) ?_
               intro rec371 ih370 t363 e367 hb369 he368 l366 w364 hS365
               have hq373 : ∀ x, Sum.inr x = e367 → x = q0 := fun x hx => hq358 x (hx.trans he368)
               refine sx_split 7 (todo' := [.inRegion (opsOf (cd6 [1, 1, 1, 1, 1, 1, 1, 1, 1, 1, 1, 1, 0, 1, 0, 0, 0, 0])) [], .code (cd6 [1, 1, 1, 1, 1, 1, 1, 1, 1, 1, 1, 1, 0, 1, 0, 0, 0, 1]), .code (cd6 [1, 1, 1, 1, 1, 1, 1, 1, 1, 1, 1, 1, 0, 1, 0, 0, 1]), .inLoop (cd6 [1, 1, 1, 1, 1, 1, 1, 1, 1, 1, 1, 1, 0, 1, 0, 0]), .inBlock 2, .code (cd6 [1, 1, 1, 1, 1, 1, 1, 1, 1, 1, 1, 1, 1])]) (us := [(134, .int .i64 t363), (135, .slice A342 ((([] : List api_Final) ++ a0) ++ a1).length c343), (136, .int .i64 (((([] : List api_Final) ++ a0) ++ a1).length : Int))]) (d := 137) (t := (decide (t363 < (((([] : List api_Final) ++ a0) ++ a1).length : Int)))) (by kernel_rfl) (fun h374 => ?_) (fun h375 => ?_)
               ·skip
                have hp376 := ite_t hb369 h374
                refine sx_run 10 (todo' := [.inRegion (opsOf (cd6 [1, 1, 1, 1, 1, 1, 1, 1, 1, 1, 1, 1, 0, 1, 0, 0, 1, 0, 0, 0])) [3, 4, 5, 6], .code (cd6 [1, 1, 1, 1, 1, 1, 1, 1, 1, 1, 1, 1, 0, 1, 0, 0, 1, 0, 0, 1]), .inBlock 3, .code (cd6 [1, 1, 1, 1, 1, 1, 1, 1, 1, 1, 1, 1, 0, 1, 0, 0, 1, 1]), .inLoop (cd6 [1, 1, 1, 1, 1, 1, 1, 1, 1, 1, 1, 1, 0, 1, 0, 0]), .inBlock 2, .code (cd6 [1, 1, 1, 1, 1, 1, 1, 1, 1, 1, 1, 1, 1])]) (us := [(140, .slice Q17 t16.length Q18), (141, .slice A342 ((([] : List api_Final) ++ a0) ++ a1).length c343), (142, .int .i64 t363)]) (by kernel_rfl) ?_
                obtain ⟨g377, hp378⟩ := ite_some hp376
                obtain ⟨b379, p380, hA381, -⟩ := (hS365.row 5 rfl).at_ len_api_Final (by omega) g377.1 g377.2
                refine r_indexAddr (c := (cd6 [1, 1, 1, 1, 1, 1, 1, 1, 1, 1, 1, 1, 0, 1, 0, 0, 1, 0, 0, 0])) (i := 3) (d := (some 143)) (ty := 0) (t := 28) (e := 24) (n := ((([] : List api_Final) ++ a0) ++ a1).length) (cp := c343) (sz := 49) (kk := .i64) (x := (.tmp 141)) (y := (.tmp 142)) (b := b379) (o' := p380) (j := t363) (by kernel_rfl) (by kernel_rfl) (slv (by kernel_rfl) hA381) (by kernel_rfl) (by kernel_rfl) (by kernel_rfl) g377.1 g377.2 ?_
                refine r_load (c := (cd6 [1, 1, 1, 1, 1, 1, 1, 1, 1, 1, 1, 1, 0, 1, 0, 0, 1, 0, 0, 0])) (i := 4) (d := (some 144)) (ty := 24) (t := 24) (x := (.tmp 143)) (p := ⟨b379, p380 + t363.toNat * 49, none⟩) (v := .agg (enc_api_Final (gt ((([] : List api_Final) ++ a0) ++ a1) t363)).toArray) (by kernel_rfl) (by kernel_rfl) (by kernel_rfl) (loads_agg ((hS365.row 5 rfl).at2 hA381 len_api_Final (by omega) g377.1 g377.2) (by kernel_rfl) (lenK (len_api_Final _) (by kernel_rfl))) ?_
                obtain ⟨t383, hr384, hp385⟩ := bind_some' hp378
                obtain ⟨Z386, hz387, hS388, hs389, hb390⟩ := hS365.lendrow len_api_Final (by omega)
                refine r_call1 (c := (cd6 [1, 1, 1, 1, 1, 1, 1, 1, 1, 1, 1, 1, 0, 1, 0, 0, 1, 0, 0, 0])) (i := 5) (d := (some 145)) (g := 20) (args := #[.slice Q17 t16.length Q18, .agg (enc_api_Final (gt ((([] : List api_Final) ++ a0) ++ a1) t363)).toArray]) (by kernel_rfl) (by kernel_rfl) (by kernel_rfl) (by kernel_rfl) (weirlaw10_in.ok t16 (gt ((([] : List api_Final) ++ a0) ++ a1) t363) Q17 Q18 hS388 hs389 hr384) ?_
                rintro _ w391 ⟨rfl, hS392⟩
                refine ⟨.bool t383, rfl, ?_⟩
                have hS393 := hb390 _ _ hS392
                refine sx_run 7 (todo' := [.inRegion (opsOf (cd6 [1, 1, 1, 1, 1, 1, 1, 1, 1, 1, 1, 1, 0, 1, 0, 0, 1, 0, 0, 1, 0])) [3, 4, 5, 6], .code (cd6 [1, 1, 1, 1, 1, 1, 1, 1, 1, 1, 1, 1, 0, 1, 0, 0, 1, 0, 0, 1, 1]), .inBlock 3, .code (cd6 [1, 1, 1, 1, 1, 1, 1, 1, 1, 1, 1, 1, 0, 1, 0, 0, 1, 1]), .inLoop (cd6 [1, 1, 1, 1, 1, 1, 1, 1, 1, 1, 1, 1, 0, 1, 0, 0]), .inBlock 2, .code (cd6 [1, 1, 1, 1, 1, 1, 1, 1, 1, 1, 1, 1, 1])]) (us := [(17, .bool t383), (146, .slice Q25 t24.length Q26), (147, .slice A342 ((([] : List api_Final) ++ a0) ++ a1).length c343), (148, .int .i64 t363)]) (by kernel_rfl) ?_
                obtain ⟨g394, hp395⟩ := ite_some hp385
                obtain ⟨b396, p397, hA398, -⟩ := (hS393.row 5 rfl).at_ len_api_Final (by omega) g394.1 g394.2
                refine r_indexAddr (c := (cd6 [1, 1, 1, 1, 1, 1, 1, 1, 1, 1, 1, 1, 0, 1, 0, 0, 1, 0, 0, 1, 0])) (i := 3) (d := (some 149)) (ty := 0) (t := 28) (e := 24) (n := ((([] : List api_Final) ++ a0) ++ a1).length) (cp := c343) (sz := 49) (kk := .i64) (x := (.tmp 147)) (y := (.tmp 148)) (b := b396) (o' := p397) (j := t363) (by kernel_rfl) (by kernel_rfl) (slv (by kernel_rfl) hA398) (by kernel_rfl) (by kernel_rfl) (by kernel_rfl) g394.1 g394.2 ?_
                refine r_load (c := (cd6 [1, 1, 1, 1, 1, 1, 1, 1, 1, 1, 1, 1, 0, 1, 0, 0, 1, 0, 0, 1, 0])) (i := 4) (d := (some 150)) (ty := 24) (t := 24) (x := (.tmp 149)) (p := ⟨b396, p397 + t363.toNat * 49, none⟩) (v := .agg (enc_api_Final (gt ((([] : List api_Final) ++ a0) ++ a1) t363)).toArray) (by kernel_rfl) (by kernel_rfl) (by kernel_rfl) (loads_agg ((hS393.row 5 rfl).at2 hA398 len_api_Final (by omega) g394.1 g394.2) (by kernel_rfl) (lenK (len_api_Final _) (by kernel_rfl))) ?_
                obtain ⟨t400, hr401, hp402⟩ := bind_some' hp395
                have hS403 := hS393.pick1
                obtain ⟨Z404, hz405, hS406, hs407, hb408⟩ := hS403.lendrow len_api_Final (by omega)
                refine r_call1 (c := (cd6 [1, 1, 1, 1, 1, 1, 1, 1, 1, 1, 1, 1, 0, 1, 0, 0, 1, 0, 0, 1, 0])) (i := 5) (d := (some 151)) (g := 20) (args := #[.slice Q25 t24.length Q26, .agg (enc_api_Final (gt ((([] : List api_Final) ++ a0) ++ a1) t363)).toArray]) (by kernel_rfl) (by kernel_rfl) (by kernel_rfl) (by kernel_rfl) (weirlaw10_in.ok t24 (gt ((([] : List api_Final) ++ a0) ++ a1) t363) Q25 Q26 hS406 hs407 hr401) ?_
                rintro _ w409 ⟨rfl, hS410⟩
                refine ⟨.bool t400, rfl, ?_⟩
                have hS411 := hb408 _ _ hS410
                refine sx_run 7 (todo' := [.inRegion (opsOf (cd6 [1, 1, 1, 1, 1, 1, 1, 1, 1, 1, 1, 1, 0, 1, 0, 0, 1, 0, 0, 1, 1, 0, 0])) [2, 3, 4, 5, 6, 7, 8, 9, 10, 11, 12, 13, 14, 15, 16, 17, 18, 19, 20, 21, 22, 23, 24, 25, 26, 27, 28, 29], .code (cd6 [1, 1, 1, 1, 1, 1, 1, 1, 1, 1, 1, 1, 0, 1, 0, 0, 1, 0, 0, 1, 1, 0, 1]), .code (cd6 [1, 1, 1, 1, 1, 1, 1, 1, 1, 1, 1, 1, 0, 1, 0, 0, 1, 0, 0, 1, 1, 1]), .inBlock 3, .code (cd6 [1, 1, 1, 1, 1, 1, 1, 1, 1, 1, 1, 1, 0, 1, 0, 0, 1, 1]), .inLoop (cd6 [1, 1, 1, 1, 1, 1, 1, 1, 1, 1, 1, 1, 0, 1, 0, 0]), .inBlock 2, .code (cd6 [1, 1, 1, 1, 1, 1, 1, 1, 1, 1, 1, 1, 1])]) (us := [(18, .bool t400), (152, .slice A342 ((([] : List api_Final) ++ a0) ++ a1).length c343), (153, .int .i64 t363)]) (by kernel_rfl) ?_
                obtain ⟨g412, hp413⟩ := ite_some hp402
                obtain ⟨b414, p415, hA416, -⟩ := (hS411.row 5 rfl).at_ len_api_Final (by omega) g412.1 g412.2
                refine r_indexAddr (c := (cd6 [1, 1, 1, 1, 1, 1, 1, 1, 1, 1, 1, 1, 0, 1, 0, 0, 1, 0, 0, 1, 1, 0, 0])) (i := 2) (d := (some 154)) (ty := 0) (t := 28) (e := 24) (n := ((([] : List api_Final) ++ a0) ++ a1).length) (cp := c343) (sz := 49) (kk := .i64) (x := (.tmp 152)) (y := (.tmp 153)) (b := b414) (o' := p415) (j := t363) (by kernel_rfl) (by kernel_rfl) (slv (by kernel_rfl) hA416) (by kernel_rfl) (by kernel_rfl) (by kernel_rfl) g412.1 g412.2 ?_
                refine r_load (c := (cd6 [1, 1, 1, 1, 1, 1, 1, 1, 1, 1, 1, 1, 0, 1, 0, 0, 1, 0, 0, 1, 1, 0, 0])) (i := 3) (d := (some 155)) (ty := 24) (t := 24) (x := (.tmp 154)) (p := ⟨b414, p415 + t363.toNat * 49, none⟩) (v := .agg (enc_api_Final (gt ((([] : List api_Final) ++ a0) ++ a1) t363)).toArray) (by kernel_rfl) (by kernel_rfl) (by kernel_rfl) (loads_agg ((hS411.row 5 rfl).at2 hA416 len_api_Final (by omega) g412.1 g412.2) (by kernel_rfl) (lenK (len_api_Final _) (by kernel_rfl))) ?_
                obtain ⟨t418, hr419, hp420⟩ := bind_some' hp413
                refine r_call1 (c := (cd6 [1, 1, 1, 1, 1, 1, 1, 1, 1, 1, 1, 1, 0, 1, 0, 0, 1, 0, 0, 1, 1, 0, 0])) (i := 4) (d := (some 156)) (g := 16) (args := #[.agg (enc_api_Final (gt ((([] : List api_Final) ++ a0) ++ a1) t363)).toArray]) (by kernel_rfl) (by kernel_rfl) (by kernel_rfl) (by kernel_rfl) (state_Check.ok (gt ((([] : List api_Final) ++ a0) ++ a1) t363) hS411 hr419) ?_
                rintro _ w421 ⟨rfl, hS422⟩
                refine ⟨.int .i64 t418, rfl, ?_⟩
                obtain ⟨t423, hr424, hp425⟩ := bind_some' hp420
                refine r_call1 (c := (cd6 [1, 1, 1, 1, 1, 1, 1, 1, 1, 1, 1, 1, 0, 1, 0, 0, 1, 0, 0, 1, 1, 0, 0])) (i := 5) (d := (some 157)) (g := 11) (args := #[.int .i64 t418]) (by kernel_rfl) (by kernel_rfl) (by kernel_rfl) (by kernel_rfl) (weirlaw10_num.ok t418 hS422 hr424) ?_
                rintro _ w426 ⟨rfl, hS427⟩
                refine ⟨.int .i64 t423, rfl, ?_⟩
                obtain ⟨v428, hv429, hp430⟩ := bind_some' hp425
                have hq435 : ∀ x, Sum.inr x = v428 → x = e367 := by intro x hx; subst hx; simpa using hp430
                have J436 : ∀ (t431 : Bool) (t432 : Bool) (he438 : Sum.inl (t431, t432) = v428) (l437 : List Value) (w433 : World) (hS434 : St w0 Z (xrow Q17 Q18 24 49 (t16.flatMap enc_api_Final) :: xrow Q25 Q26 24 49 (t24.flatMap enc_api_Final) :: xrow Q46 Q47 24 49 (t44.flatMap enc_api_Final) :: xrow Q67 Q68 24 49 (t65.flatMap enc_api_Final) :: xrow Q88 Q89 24 49 (t86.flatMap enc_api_Final) :: xrow A342 c343 24 49 (((([] : List api_Final) ++ a0) ++ a1).flatMap enc_api_Final) :: fs) w433), Runs Tryd.prog 6 [.code (cd6 [1, 1, 1, 1, 1, 1, 1, 1, 1, 1, 1, 1, 0, 1, 0, 0, 1, 0, 0, 1, 1, 1]), .inBlock 3, .code (cd6 [1, 1, 1, 1, 1, 1, 1, 1, 1, 1, 1, 1, 0, 1, 0, 0, 1, 1]), .inLoop (cd6 [1, 1, 1, 1, 1, 1, 1, 1, 1, 1, 1, 1, 0, 1, 0, 0]), .inBlock 2, .code (cd6 [1, 1, 1, 1, 1, 1, 1, 1, 1, 1, 1, 1, 1])] (fill [none, none, none, none, none, some (.slice Q17 t16.length Q18), some (.slice Q25 t24.length Q26), none, none, some (.slice Q46 t44.length Q47), none, some (.slice Q67 t65.length Q68), none, some (.slice Q88 t86.length Q89), none, some (.slice A342 ((([] : List api_Final) ++ a0) ++ a1).length c343), some (.int .i64 t363), some (.bool t431), some (.bool t432), none, none, none, none, none, none, none, none, none, none, none, none, none, none, none, none, none, none, none, none, none, none, none, none, none, none, none, none, none, none, none, none, none, none, none, none, none, none, none, none, none, none, none, none, none, none, none, none, none, none, none, none, none, none, none, none, none, none, none, none, none, none, none, none, none, none, none, none, none, none, none, none, none, none, none, none, none, none, none, none, none, none, none, none, none, none, none, none, none, none, none, none, none, none, none, none, none, none, none, none, none, none, none, none, none, none, none, none, none, none, none, none, none, none, none, none, none, none, none, none, none, none, none, none, none, none, none, none, none, none, none, none, none, none, none, none, none, none, none, none, none, none, none, none, none, none, none, none, none, none, none, none, none, none, none, none, none, none, none, none, none, none, none, none, none, none, none, none, none, none, none, none, none, none, none, none, none, none, none, none, none, none, none, none, none, none, none, none, none, none, none, none, none, none, none, none, none, none, none, none, none, none, none, none, none, none, none, none, none, none, none, none, none, none, none, none, none, none, none, none, none, none, none, none, none, none, none] l437) w433 R := by
                 intro t431 t432 he438 l437 w433 hS434
                 subst he438
                 try dsimp only at hp430
                 refine sx_run 6 (todo' := [.inRegion (opsOf (cd6 [1, 1, 1, 1, 1, 1, 1, 1, 1, 1, 1, 1, 0, 1, 0, 0, 1, 0, 0, 1, 1, 1, 0, 0])) [3, 4, 5, 6, 7, 8, 9, 10, 11, 12, 13, 14, 15, 16, 17, 18, 19, 20, 21, 22, 23, 24, 25, 26, 27, 28, 29, 30, 31, 32, 33, 34, 35, 36, 37], .code (cd6 [1, 1, 1, 1, 1, 1, 1, 1, 1, 1, 1, 1, 0, 1, 0, 0, 1, 0, 0, 1, 1, 1, 0, 1]), .code (cd6 [1, 1, 1, 1, 1, 1, 1, 1, 1, 1, 1, 1, 0, 1, 0, 0, 1, 0, 0, 1, 1, 1, 1]), .inBlock 3, .code (cd6 [1, 1, 1, 1, 1, 1, 1, 1, 1, 1, 1, 1, 0, 1, 0, 0, 1, 1]), .inLoop (cd6 [1, 1, 1, 1, 1, 1, 1, 1, 1, 1, 1, 1, 0, 1, 0, 0]), .inBlock 2, .code (cd6 [1, 1, 1, 1, 1, 1, 1, 1, 1, 1, 1, 1, 1])]) (us := [(182, .slice Q46 t44.length Q47), (183, .slice A342 ((([] : List api_Final) ++ a0) ++ a1).length c343), (184, .int .i64 t363)]) (by kernel_rfl) ?_
                 obtain ⟨g439, hp440⟩ := ite_some hp430
                 obtain ⟨b441, p442, hA443, -⟩ := (hS434.row 5 rfl).at_ len_api_Final (by omega) g439.1 g439.2
                 refine r_indexAddr (c := (cd6 [1, 1, 1, 1, 1, 1, 1, 1, 1, 1, 1, 1, 0, 1, 0, 0, 1, 0, 0, 1, 1, 1, 0, 0])) (i := 3) (d := (some 185)) (ty := 0) (t := 28) (e := 24) (n := ((([] : List api_Final) ++ a0) ++ a1).length) (cp := c343) (sz := 49) (kk := .i64) (x := (.tmp 183)) (y := (.tmp 184)) (b := b441) (o' := p442) (j := t363) (by kernel_rfl) (by kernel_rfl) (slv (by kernel_rfl) hA443) (by kernel_rfl) (by kernel_rfl) (by kernel_rfl) g439.1 g439.2 ?_
                 refine r_load (c := (cd6 [1, 1, 1, 1, 1, 1, 1, 1, 1, 1, 1, 1, 0, 1, 0, 0, 1, 0, 0, 1, 1, 1, 0, 0])) (i := 4) (d := (some 186)) (ty := 24) (t := 24) (x := (.tmp 185)) (p := ⟨b441, p442 + t363.toNat * 49, none⟩) (v := .agg (enc_api_Final (gt ((([] : List api_Final) ++ a0) ++ a1) t363)).toArray) (by kernel_rfl) (by kernel_rfl) (by kernel_rfl) (loads_agg ((hS434.row 5 rfl).at2 hA443 len_api_Final (by omega) g439.1 g439.2) (by kernel_rfl) (lenK (len_api_Final _) (by kernel_rfl))) ?_
                 obtain ⟨t445, hr446, hp447⟩ := bind_some' hp440
                 have hS448 := hS434.pick2
                 obtain ⟨Z449, hz450, hS451, hs452, hb453⟩ := hS448.lendrow len_api_Final (by omega)
                 refine r_call1 (c := (cd6 [1, 1, 1, 1, 1, 1, 1, 1, 1, 1, 1, 1, 0, 1, 0, 0, 1, 0, 0, 1, 1, 1, 0, 0])) (i := 5) (d := (some 187)) (g := 20) (args := #[.slice Q46 t44.length Q47, .agg (enc_api_Final (gt ((([] : List api_Final) ++ a0) ++ a1) t363)).toArray]) (by kernel_rfl) (by kernel_rfl) (by kernel_rfl) (by kernel_rfl) (weirlaw10_in.ok t44 (gt ((([] : List api_Final) ++ a0) ++ a1) t363) Q46 Q47 hS451 hs452 hr446) ?_
                 rintro _ w454 ⟨rfl, hS455⟩
                 refine ⟨.bool t445, rfl, ?_⟩
                 have hS456 := hb453 _ _ hS455
                 refine sx_run 2 (todo' := [.inRegion (opsOf (cd6 [1, 1, 1, 1, 1, 1, 1, 1, 1, 1, 1, 1, 0, 1, 0, 0, 1, 0, 0, 1, 1, 1, 0, 0])) [8, 9, 10, 11, 12, 13, 14, 15, 16, 17, 18, 19, 20, 21, 22, 23, 24, 25, 26, 27, 28, 29, 30, 31, 32, 33, 34, 35, 36, 37], .code (cd6 [1, 1, 1, 1, 1, 1, 1, 1, 1, 1, 1, 1, 0, 1, 0, 0, 1, 0, 0, 1, 1, 1, 0, 1]), .code (cd6 [1, 1, 1, 1, 1, 1, 1, 1, 1, 1, 1, 1, 0, 1, 0, 0, 1, 0, 0, 1, 1, 1, 1]), .inBlock 3, .code (cd6 [1, 1, 1, 1, 1, 1, 1, 1, 1, 1, 1, 1, 0, 1, 0, 0, 1, 1]), .inLoop (cd6 [1, 1, 1, 1, 1, 1, 1, 1, 1, 1, 1, 1, 0, 1, 0, 0]), .inBlock 2, .code (cd6 [1, 1, 1, 1, 1, 1, 1, 1, 1, 1, 1, 1, 1])]) (us := [(188, .bool t431), (189, .bool t431)]) (by kernel_rfl) ?_
                 obtain ⟨v457, hv458, hp459⟩ := bind_some' hp447
                 have hq463 : ∀ x, Sum.inr x = v457 → x = e367 := by intro x hx; subst hx; simpa using hp459
                 have J464 : ∀ (t460 : Bool) (he466 : Sum.inl t460 = v457) (l465 : List Value) (w461 : World) (hS462 : St w0 Z (xrow Q17 Q18 24 49 (t16.flatMap enc_api_Final) :: xrow Q25 Q26 24 49 (t24.flatMap enc_api_Final) :: xrow Q46 Q47 24 49 (t44.flatMap enc_api_Final) :: xrow Q67 Q68 24 49 (t65.flatMap enc_api_Final) :: xrow Q88 Q89 24 49 (t86.flatMap enc_api_Final) :: xrow A342 c343 24 49 (((([] : List api_Final) ++ a0) ++ a1).flatMap enc_api_Final) :: fs) w461), Runs Tryd.prog 6 [.code (cd6 [1, 1, 1, 1, 1, 1, 1, 1, 1, 1, 1, 1, 0, 1, 0, 0, 1, 0, 0, 1, 1, 1, 1]), .inBlock 3, .code (cd6 [1, 1, 1, 1, 1, 1, 1, 1, 1, 1, 1, 1, 0, 1, 0, 0, 1, 1]), .inLoop (cd6 [1, 1, 1, 1, 1, 1, 1, 1, 1, 1, 1, 1, 0, 1, 0, 0]), .inBlock 2, .code (cd6 [1, 1, 1, 1, 1, 1, 1, 1, 1, 1, 1, 1, 1])] (fill [none, none, none, none, none, some (.slice Q17 t16.length Q18), some (.slice Q25 t24.length Q26), none, none, some (.slice Q46 t44.length Q47), none, some (.slice Q67 t65.length Q68), none, some (.slice Q88 t86.length Q89), none, some (.slice A342 ((([] : List api_Final) ++ a0) ++ a1).length c343), some (.int .i64 t363), some (.bool t460), none, none, none, none, none, none, none, none, none, none, none, none, none, none, none, none, none, none, none, none, none, none, none, none, none, none, none, none, none, none, none, none, none, none, none, none, none, none, none, none, none, none, none, none, none, none, none, none, none, none, none, none, none, none, none, none, none, none, none, none, none, none, none, none, none, none, none, none, none, none, none, none, none, none, none, none, none, none, none, none, none, none, none, none, none, none, none, none, none, none, none, none, none, none, none, none, none, none, none, none, none, none, none, none, none, none, none, none, none, none, none, none, none, none, none, none, none, none, none, none, none, none, none, none, none, none, none, none, none, none, none, none, none, none, none, none, none, none, none, none, none, none, none, none, none, none, none, none, none, none, none, none, none, none, none, none, none, none, none, none, none, none, none, none, none, none, none, none, none, none, none, none, none, none, none, none, none, none, none, none, none, none, none, none, none, none, none, none, none, none, none, none, none, none, none, none, none, none, none, none, none, none, none, none, none, none, none, none, none, none, none, none, none, none, none, none, none, none, none, none, none, none, none, none, none, none, none, none] l465) w461 R := by
                  intro t460 he466 l465 w461 hS462
                  subst he466
                  try dsimp only at hp459
                  refine sx_run 5 (todo' := [.inRegion (opsOf (cd6 [1, 1, 1, 1, 1, 1, 1, 1, 1, 1, 1, 1, 0, 1, 0, 0, 1, 0, 0, 1, 1, 1, 1, 0])) [3, 4, 5, 6, 7, 8, 9, 10], .code (cd6 [1, 1, 1, 1, 1, 1, 1, 1, 1, 1, 1, 1, 0, 1, 0, 0, 1, 0, 0, 1, 1, 1, 1, 1]), .inBlock 3, .code (cd6 [1, 1, 1, 1, 1, 1, 1, 1, 1, 1, 1, 1, 0, 1, 0, 0, 1, 1]), .inLoop (cd6 [1, 1, 1, 1, 1, 1, 1, 1, 1, 1, 1, 1, 0, 1, 0, 0]), .inBlock 2, .code (cd6 [1, 1, 1, 1, 1, 1, 1, 1, 1, 1, 1, 1, 1])]) (us := [(221, .slice Q17 t16.length Q18), (222, .slice A342 ((([] : List api_Final) ++ a0) ++ a1).length c343), (223, .int .i64 t363)]) (by kernel_rfl) ?_
                  obtain ⟨g467, hp468⟩ := ite_some hp459
                  obtain ⟨b469, p470, hA471, -⟩ := (hS462.row 5 rfl).at_ len_api_Final (by omega) g467.1 g467.2
                  refine r_indexAddr (c := (cd6 [1, 1, 1, 1, 1, 1, 1, 1, 1, 1, 1, 1, 0, 1, 0, 0, 1, 0, 0, 1, 1, 1, 1, 0])) (i := 3) (d := (some 224)) (ty := 0) (t := 28) (e := 24) (n := ((([] : List api_Final) ++ a0) ++ a1).length) (cp := c343) (sz := 49) (kk := .i64) (x := (.tmp 222)) (y := (.tmp 223)) (b := b469) (o' := p470) (j := t363) (by kernel_rfl) (by kernel_rfl) (slv (by kernel_rfl) hA471) (by kernel_rfl) (by kernel_rfl) (by kernel_rfl) g467.1 g467.2 ?_
                  refine r_load (c := (cd6 [1, 1, 1, 1, 1, 1, 1, 1, 1, 1, 1, 1, 0, 1, 0, 0, 1, 0, 0, 1, 1, 1, 1, 0])) (i := 4) (d := (some 225)) (ty := 24) (t := 24) (x := (.tmp 224)) (p := ⟨b469, p470 + t363.toNat * 49, none⟩) (v := .agg (enc_api_Final (gt ((([] : List api_Final) ++ a0) ++ a1) t363)).toArray) (by kernel_rfl) (by kernel_rfl) (by kernel_rfl) (loads_agg ((hS462.row 5 rfl).at2 hA471 len_api_Final (by omega) g467.1 g467.2) (by kernel_rfl) (lenK (len_api_Final _) (by kernel_rfl))) ?_
                  obtain ⟨⟨t473, t474⟩, hr475, hp476⟩ := bind_some' hp468
                  try dsimp only at hp476
                  obtain ⟨Z477, hz478, hS479, hs480, hb481⟩ := hS462.lendrow len_api_Final (by omega)
                  refine r_call1 (c := (cd6 [1, 1, 1, 1, 1, 1, 1, 1, 1, 1, 1, 1, 0, 1, 0, 0, 1, 0, 0, 1, 1, 1, 1, 0])) (i := 5) (d := (some 226)) (g := 21) (args := #[.slice Q17 t16.length Q18, .agg (enc_api_Final (gt ((([] : List api_Final) ++ a0) ++ a1) t363)).toArray]) (by kernel_rfl) (by kernel_rfl) (by kernel_rfl) (by kernel_rfl) (state_Find.ok t16 (gt ((([] : List api_Final) ++ a0) ++ a1) t363) Q17 Q18 hS479 hs480 hr475) ?_
                  rintro _ w482 ⟨rfl, hS483⟩
                  refine ⟨.tuple #[.int .i64 t473, .bool t474], rfl, ?_⟩
                  have hS484 := hb481 _ _ hS483
                  refine sx_run 7 (todo' := [.code (cd6 [1, 1, 1, 1, 1, 1, 1, 1, 1, 1, 1, 1, 0, 1, 0, 0, 1, 0, 0, 1, 1, 1, 1, 1, 0]), .code (cd6 [1, 1, 1, 1, 1, 1, 1, 1, 1, 1, 1, 1, 0, 1, 0, 0, 1, 0, 0, 1, 1, 1, 1, 1, 1]), .inBlock 3, .code (cd6 [1, 1, 1, 1, 1, 1, 1, 1, 1, 1, 1, 1, 0, 1, 0, 0, 1, 1]), .inLoop (cd6 [1, 1, 1, 1, 1, 1, 1, 1, 1, 1, 1, 1, 0, 1, 0, 0]), .inBlock 2, .code (cd6 [1, 1, 1, 1, 1, 1, 1, 1, 1, 1, 1, 1, 1])]) (us := [(220, .tuple #[.int .i64 t473, .bool t474]), (227, .int .i64 t473), (228, .bool t474), (19, .int .i64 t473), (20, .bool t474)]) (by kernel_rfl) ?_
                  refine r_quiet hS484 (c := (cd6 [1, 1, 1, 1, 1, 1, 1, 1, 1, 1, 1, 1, 0, 1, 0, 0, 1, 0, 0, 1, 1, 1, 1, 1, 0])) (id := 28) (by kernel_rfl) (by kernel_rfl) (by kernel_rfl) (is := [0, 1, 2, 3, 4, 5, 6, 7, 8, 9, 10, 11, 12, 13, 14, 15, 16]) (by kernel_rfl) ?_
                  refine q_splitr 3 (is' := [3, 4, 5, 6, 7, 8, 9, 10, 11, 12, 13, 14, 15, 16]) (us := [(229, .bool t474), (230, .bool t460)]) (d := 231) (t := (!(t474 == t460))) (by kernel_rfl) (fun h485 => ?_) (fun h486 => ?_)
                  ·skip
                   have hp487 := ite_t hp476 h485
                   refine q_run 14 (is' := []) (us := [(232, .bool true), (233, undef), (234, undef), (235, undef), (236, undef), (237, undef), (238, undef), (239, undef), (240, undef), (241, undef), (242, undef), (243, undef), (244, undef), (245, .bool true)]) (by kernel_rfl) ?_
                   refine Qs.nil ?_
                   intro w488 hS489
                   refine sx_run 5 (todo' := [.code (cd6 [1, 1, 1, 1, 1, 1, 1, 1, 1, 1, 1, 1, 0, 1, 0, 0, 1, 0, 0, 1, 1, 1, 1, 1, 1, 0, 1]), .inBlock 3, .code (cd6 [1, 1, 1, 1, 1, 1, 1, 1, 1, 1, 1, 1, 0, 1, 0, 0, 1, 1]), .inLoop (cd6 [1, 1, 1, 1, 1, 1, 1, 1, 1, 1, 1, 1, 0, 1, 0, 0]), .inBlock 2, .code (cd6 [1, 1, 1, 1, 1, 1, 1, 1, 1, 1, 1, 1, 1])]) (us := [(4, .bool false)]) (by kernel_rfl) ?_
                   have hS490 := hS489.drop
                   have hS491 := hS490.drop
                   have hS492 := hS491.drop
                   have hS493 := hS492.drop
                   have hS494 := hS493.drop
                   have hS495 := hS494.drop
                   refine runs_ret (fn := Tryd.f6) (v := .bool false) Tryd.func6 (by kernel_rfl) ?_
                   have hr496 := (hq373 _ (Option.some.inj hp487))
                   cases hr496
                   exact hR _ _ ⟨rfl, hS495⟩
                  ·skip
                   have hp497 := ite_f hp476 h486
                   refine q_run 3 (is' := [6, 7, 8, 9, 10, 11, 12, 13, 14, 15, 16]) (us := [(232, .bool false), (233, .bool t460), (234, .bool t460)]) (by kernel_rfl) ?_
                   cases t460
                   ·skip
                    have hp498 := ite_f hp497 rfl
                    refine q_run 11 (is' := []) (us := [(235, undef), (236, undef), (237, undef), (238, undef), (239, undef), (240, undef), (241, undef), (242, undef), (243, undef), (244, .bool false), (245, .bool false)]) (by kernel_rfl) ?_
                    refine Qs.nil ?_
                    intro w499 hS500
                    refine sx_run 8 (todo' := [.inLoop (cd6 [1, 1, 1, 1, 1, 1, 1, 1, 1, 1, 1, 1, 0, 1, 0, 0]), .inBlock 2, .code (cd6 [1, 1, 1, 1, 1, 1, 1, 1, 1, 1, 1, 1, 1])]) (us := [(138, .int .i64 t363), (139, .int .i64 (IntKind.i64.wrap (t363 + 1))), (16, .int .i64 (IntKind.i64.wrap (t363 + 1)))]) (by kernel_rfl) ?_
                    refine sx_run 1 (todo' := [.code (cd6 [1, 1, 1, 1, 1, 1, 1, 1, 1, 1, 1, 1, 0, 1, 0, 0]), .inLoop (cd6 [1, 1, 1, 1, 1, 1, 1, 1, 1, 1, 1, 1, 0, 1, 0, 0]), .inBlock 2, .code (cd6 [1, 1, 1, 1, 1, 1, 1, 1, 1, 1, 1, 1, 1])]) (us := []) (by kernel_rfl) ?_
                    refine Runs.fill (m := [none, none, none, none, none, some (.slice Q17 t16.length Q18), some (.slice Q25 t24.length Q26), none, none, some (.slice Q46 t44.length Q47), none, some (.slice Q67 t65.length Q68), none, some (.slice Q88 t86.length Q89), none, some (.slice A342 ((([] : List api_Final) ++ a0) ++ a1).length c343), some (.int .i64 (IntKind.i64.wrap (t363 + 1))), none, none, none, none, none, none, none, none, none, none, none, none, none, none, none, none, none, none, none, none, none, none, none, none, none, none, none, none, none, none, none, none, none, none, none, none, none, none, none, none, none, none, none, none, none, none, none, none, none, none, none, none, none, none, none, none, none, none, none, none, none, none, none, none, none, none, none, none, none, none, none, none, none, none, none, none, none, none, none, none, none, none, none, none, none, none, none, none, none, none, none, none, none, none, none, none, none, none, none, none, none, none, none, none, none, none, none, none, none, none, none, none, none, none, none, none, none, none, none, none, none, none, none, none, none, none, none, none, none, none, none, none, none, none, none, none, none, none, none, none, none, none, none, none, none, none, none, none, none, none, none, none, none, none, none, none, none, none, none, none, none, none, none, none, none, none, none, none, none, none, none, none, none, none, none, none, none, none, none, none, none, none, none, none, none, none, none, none, none, none, none, none, none, none, none, none, none, none, none, none, none, none, none, none, none, none, none, none, none, none, none, none, none, none, none, none, none, none, none, none, none, none, none, none, none, none, none, none, none]) (by kernel_rfl) ?_
                    exact ih370 (IntKind.i64.wrap (t363 + 1)) _ hp498 he368 _ _ hS500
                   ·skip
                    have hp501 := ite_t hp497 rfl
                    refine q_run 2 (is' := [8, 9, 10, 11, 12, 13, 14, 15, 16]) (us := [(235, .slice Q17 t16.length Q18), (236, .int .i64 t473)]) (by kernel_rfl) ?_
                    obtain ⟨g502, hp503⟩ := ite_some hp501
                    obtain ⟨b504, p505, hA506, -⟩ := (hS484.row 0 rfl).at_ len_api_Final (by omega) g502.1 g502.2
                    refine q_indexAddr (c := (cd6 [1, 1, 1, 1, 1, 1, 1, 1, 1, 1, 1, 1, 0, 1, 0, 0, 1, 0, 0, 1, 1, 1, 1, 1, 0])) (i := 8) (d := (some 237)) (ty := 0) (t := 28) (e := 24) (n := t16.length) (cp := Q18) (sz := 49) (kk := .i64) (x := (.tmp 235)) (y := (.tmp 236)) (b := b504) (o' := p505) (j := t473) (by kernel_rfl) (by kernel_rfl) (slv (by kernel_rfl) hA506) (by kernel_rfl) (by kernel_rfl) (by kernel_rfl) g502.1 g502.2 ?_
                    refine q_load (c := (cd6 [1, 1, 1, 1, 1, 1, 1, 1, 1, 1, 1, 1, 0, 1, 0, 0, 1, 0, 0, 1, 1, 1, 1, 1, 0])) (i := 9) (d := (some 238)) (ty := 24) (t := 24) (x := (.tmp 237)) (p := ⟨b504, p505 + t473.toNat * 49, none⟩) (v := .agg (enc_api_Final (gt t16 t473)).toArray) (by kernel_rfl) (by kernel_rfl) (by kernel_rfl) (fun w hC => (loads_agg ((hC.row 0 rfl).at2 hA506 len_api_Final (by omega) g502.1 g502.2) (by kernel_rfl) (lenK (len_api_Final _) (by kernel_rfl)))) ?_
                    refine q_run 2 (is' := [12, 13, 14, 15, 16]) (us := [(239, .slice A342 ((([] : List api_Final) ++ a0) ++ a1).length c343), (240, .int .i64 t363)]) (by kernel_rfl) ?_
                    obtain ⟨g508, hp509⟩ := ite_some hp503
                    obtain ⟨b510, p511, hA512, -⟩ := (hS484.row 5 rfl).at_ len_api_Final (by omega) g508.1 g508.2
                    refine q_indexAddr (c := (cd6 [1, 1, 1, 1, 1, 1, 1, 1, 1, 1, 1, 1, 0, 1, 0, 0, 1, 0, 0, 1, 1, 1, 1, 1, 0])) (i := 12) (d := (some 241)) (ty := 0) (t := 28) (e := 24) (n := ((([] : List api_Final) ++ a0) ++ a1).length) (cp := c343) (sz := 49) (kk := .i64) (x := (.tmp 239)) (y := (.tmp 240)) (b := b510) (o' := p511) (j := t363) (by kernel_rfl) (by kernel_rfl) (slv (by kernel_rfl) hA512) (by kernel_rfl) (by kernel_rfl) (by kernel_rfl) g508.1 g508.2 ?_
                    refine q_load (c := (cd6 [1, 1, 1, 1, 1, 1, 1, 1, 1, 1, 1, 1, 0, 1, 0, 0, 1, 0, 0, 1, 1, 1, 1, 1, 0])) (i := 13) (d := (some 242)) (ty := 24) (t := 24) (x := (.tmp 241)) (p := ⟨b510, p511 + t363.toNat * 49, none⟩) (v := .agg (enc_api_Final (gt ((([] : List api_Final) ++ a0) ++ a1) t363)).toArray) (by kernel_rfl) (by kernel_rfl) (by kernel_rfl) (fun w hC => (loads_agg ((hC.row 5 rfl).at2 hA512 len_api_Final (by omega) g508.1 g508.2) (by kernel_rfl) (lenK (len_api_Final _) (by kernel_rfl)))) ?_
                    refine q_val (c := (cd6 [1, 1, 1, 1, 1, 1, 1, 1, 1, 1, 1, 1, 0, 1, 0, 0, 1, 0, 0, 1, 1, 1, 1, 1, 0])) (i := 14) (d := (some 243)) (ty := 4) (op := .binOp .neq 24 (.tmp 238) (.tmp 242) 24) (v := .bool (!(decide ((gt t16 t473) = (gt ((([] : List api_Final) ++ a0) ++ a1) t363))))) (by kernel_rfl) (by kernel_rfl) (fun w hC o ho _ => x_neq_api_Final (by kernel_rfl) (by kernel_rfl) ho) ?_
                    refine q_split (!(decide ((gt t16 t473) = (gt ((([] : List api_Final) ++ a0) ++ a1) t363)))) (fun h514 => ?_) (fun h515 => ?_)
                    ·skip
                     have hp516 := ite_t hp509 h514
                     refine q_run 2 (is' := []) (us := [(244, .bool true), (245, .bool true)]) (by kernel_rfl) ?_
                     refine Qs.nil ?_
                     intro w517 hS518
                     refine sx_run 5 (todo' := [.code (cd6 [1, 1, 1, 1, 1, 1, 1, 1, 1, 1, 1, 1, 0, 1, 0, 0, 1, 0, 0, 1, 1, 1, 1, 1, 1, 0, 1]), .inBlock 3, .code (cd6 [1, 1, 1, 1, 1, 1, 1, 1, 1, 1, 1, 1, 0, 1, 0, 0, 1, 1]), .inLoop (cd6 [1, 1, 1, 1, 1, 1, 1, 1, 1, 1, 1, 1, 0, 1, 0, 0]), .inBlock 2, .code (cd6 [1, 1, 1, 1, 1, 1, 1, 1, 1, 1, 1, 1, 1])]) (us := [(4, .bool false)]) (by kernel_rfl) ?_
                     have hS519 := hS518.drop
                     have hS520 := hS519.drop
                     have hS521 := hS520.drop
                     have hS522 := hS521.drop
                     have hS523 := hS522.drop
                     have hS524 := hS523.drop
                     refine runs_ret (fn := Tryd.f6) (v := .bool false) Tryd.func6 (by kernel_rfl) ?_
                     have hr525 := (hq373 _ (Option.some.inj hp516))
                     cases hr525
                     exact hR _ _ ⟨rfl, hS524⟩
                    ·skip
                     have hp526 := ite_f hp509 h515
                     refine q_run 2 (is' := []) (us := [(244, .bool false), (245, .bool false)]) (by kernel_rfl) ?_
                     refine Qs.nil ?_
                     intro w527 hS528
                     refine sx_run 8 (todo' := [.inLoop (cd6 [1, 1, 1, 1, 1, 1, 1, 1, 1, 1, 1, 1, 0, 1, 0, 0]), .inBlock 2, .code (cd6 [1, 1, 1, 1, 1, 1, 1, 1, 1, 1, 1, 1, 1])]) (us := [(138, .int .i64 t363), (139, .int .i64 (IntKind.i64.wrap (t363 + 1))), (16, .int .i64 (IntKind.i64.wrap (t363 + 1)))]) (by kernel_rfl) ?_
                     refine sx_run 1 (todo' := [.code (cd6 [1, 1, 1, 1, 1, 1, 1, 1, 1, 1, 1, 1, 0, 1, 0, 0]), .inLoop (cd6 [1, 1, 1, 1, 1, 1, 1, 1, 1, 1, 1, 1, 0, 1, 0, 0]), .inBlock 2, .code (cd6 [1, 1, 1, 1, 1, 1, 1, 1, 1, 1, 1, 1, 1])]) (us := []) (by kernel_rfl) ?_
                     refine Runs.fill (m := [none, none, none, none, none, some (.slice Q17 t16.length Q18), some (.slice Q25 t24.length Q26), none, none, some (.slice Q46 t44.length Q47), none, some (.slice Q67 t65.length Q68), none, some (.slice Q88 t86.length Q89), none, some (.slice A342 ((([] : List api_Final) ++ a0) ++ a1).length c343), some (.int .i64 (IntKind.i64.wrap (t363 + 1))), none, none, none, none, none, none, none, none, none, none, none, none, none, none, none, none, none, none, none, none, none, none, none, none, none, none, none, none, none, none, none, none, none, none, none, none, none, none, none, none, none, none, none, none, none, none, none, none, none, none, none, none, none, none, none, none, none, none, none, none, none, none, none, none, none, none, none, none, none, none, none, none, none, none, none, none, none, none, none, none, none, none, none, none, none, none, none, none, none, none, none, none, none, none, none, none, none, none, none, none, none, none, none, none, none, none, none, none, none, none, none, none, none, none, none, none, none, none, none, none, none, none, none, none, none, none, none, none, none, none, none, none, none, none, none, none, none, none, none, none, none, none, none, none, none, none, none, none, none, none, none, none, none, none, none, none, none, none, none, none, none, none, none, none, none, none, none, none, none, none, none, none, none, none, none, none, none, none, none, none, none, none, none, none, none, none, none, none, none, none, none, none, none, none, none, none, none, none, none, none, none, none, none, none, none, none, none, none, none, none, none, none, none, none, none, none, none, none, none, none, none, none, none, none, none, none, none, none, none]) (by kernel_rfl) ?_
                     exact ih370 (IntKind.i64.wrap (t363 + 1)) _ hp526 he368 _ _ hS528
                 cases t431
                 ·skip
                  have hp529 := ite_f hv458 rfl
                  refine sx_split 3 (todo' := [.inRegion (opsOf (cd6 [1, 1, 1, 1, 1, 1, 1, 1, 1, 1, 1, 1, 0, 1, 0, 0, 1, 0, 0, 1, 1, 1, 0, 0])) [11, 12, 13, 14, 15, 16, 17, 18, 19, 20, 21, 22, 23, 24, 25, 26, 27, 28, 29, 30, 31, 32, 33, 34, 35, 36, 37], .code (cd6 [1, 1, 1, 1, 1, 1, 1, 1, 1, 1, 1, 1, 0, 1, 0, 0, 1, 0, 0, 1, 1, 1, 0, 1]), .code (cd6 [1, 1, 1, 1, 1, 1, 1, 1, 1, 1, 1, 1, 0, 1, 0, 0, 1, 0, 0, 1, 1, 1, 1]), .inBlock 3, .code (cd6 [1, 1, 1, 1, 1, 1, 1, 1, 1, 1, 1, 1, 0, 1, 0, 0, 1, 1]), .inLoop (cd6 [1, 1, 1, 1, 1, 1, 1, 1, 1, 1, 1, 1, 0, 1, 0, 0]), .inBlock 2, .code (cd6 [1, 1, 1, 1, 1, 1, 1, 1, 1, 1, 1, 1, 1])]) (us := [(190, .bool t432), (191, .bool t432)]) (d := 192) (t := (!(t445 == t432))) (by kernel_rfl) (fun h530 => ?_) (fun h531 => ?_)
                  ·skip
                   have hp532 := ite_t hp529 h530
                   refine sx_run 33 (todo' := [.code (cd6 [1, 1, 1, 1, 1, 1, 1, 1, 1, 1, 1, 1, 0, 1, 0, 0, 1, 0, 0, 1, 1, 1, 0, 1, 0, 1]), .code (cd6 [1, 1, 1, 1, 1, 1, 1, 1, 1, 1, 1, 1, 0, 1, 0, 0, 1, 0, 0, 1, 1, 1, 1]), .inBlock 3, .code (cd6 [1, 1, 1, 1, 1, 1, 1, 1, 1, 1, 1, 1, 0, 1, 0, 0, 1, 1]), .inLoop (cd6 [1, 1, 1, 1, 1, 1, 1, 1, 1, 1, 1, 1, 0, 1, 0, 0]), .inBlock 2, .code (cd6 [1, 1, 1, 1, 1, 1, 1, 1, 1, 1, 1, 1, 1])]) (us := [(193, .bool true), (194, undef), (195, undef), (196, undef), (197, undef), (198, undef), (199, undef), (200, undef), (201, undef), (202, undef), (203, undef), (204, undef), (205, .bool true), (206, .bool true), (207, undef), (208, undef), (209, undef), (210, undef), (211, undef), (212, undef), (213, undef), (214, undef), (215, undef), (216, undef), (217, undef), (218, undef), (219, .bool true), (4, .bool false)]) (by kernel_rfl) ?_
                   have hS533 := hS456.drop
                   have hS534 := hS533.drop
                   have hS535 := hS534.drop
                   have hS536 := hS535.drop
                   have hS537 := hS536.drop
                   have hS538 := hS537.drop
                   refine runs_ret (fn := Tryd.f6) (v := .bool false) Tryd.func6 (by kernel_rfl) ?_
                   have hr539 := (hq373 _ (hq463 _ (Option.some.inj hp532)))
                   cases hr539
                   exact hR _ _ ⟨rfl, hS538⟩
                  ·skip
                   have hp540 := ite_f hp529 h531
                   refine sx_run 4 (todo' := [.inRegion (opsOf (cd6 [1, 1, 1, 1, 1, 1, 1, 1, 1, 1, 1, 1, 0, 1, 0, 0, 1, 0, 0, 1, 1, 1, 0, 0])) [15, 16, 17, 18, 19, 20, 21, 22, 23, 24, 25, 26, 27, 28, 29, 30, 31, 32, 33, 34, 35, 36, 37], .code (cd6 [1, 1, 1, 1, 1, 1, 1, 1, 1, 1, 1, 1, 0, 1, 0, 0, 1, 0, 0, 1, 1, 1, 0, 1]), .code (cd6 [1, 1, 1, 1, 1, 1, 1, 1, 1, 1, 1, 1, 0, 1, 0, 0, 1, 0, 0, 1, 1, 1, 1]), .inBlock 3, .code (cd6 [1, 1, 1, 1, 1, 1, 1, 1, 1, 1, 1, 1, 0, 1, 0, 0, 1, 1]), .inLoop (cd6 [1, 1, 1, 1, 1, 1, 1, 1, 1, 1, 1, 1, 0, 1, 0, 0]), .inBlock 2, .code (cd6 [1, 1, 1, 1, 1, 1, 1, 1, 1, 1, 1, 1, 1])]) (us := [(193, .bool false), (194, .slice Q67 t65.length Q68), (195, .slice A342 ((([] : List api_Final) ++ a0) ++ a1).length c343), (196, .int .i64 t363)]) (by kernel_rfl) ?_
                   obtain ⟨g541, hp542⟩ := ite_some hp540
                   obtain ⟨b543, p544, hA545, -⟩ := (hS456.row 5 rfl).at_ len_api_Final (by omega) g541.1 g541.2
                   refine r_indexAddr (c := (cd6 [1, 1, 1, 1, 1, 1, 1, 1, 1, 1, 1, 1, 0, 1, 0, 0, 1, 0, 0, 1, 1, 1, 0, 0])) (i := 15) (d := (some 197)) (ty := 0) (t := 28) (e := 24) (n := ((([] : List api_Final) ++ a0) ++ a1).length) (cp := c343) (sz := 49) (kk := .i64) (x := (.tmp 195)) (y := (.tmp 196)) (b := b543) (o' := p544) (j := t363) (by kernel_rfl) (by kernel_rfl) (slv (by kernel_rfl) hA545) (by kernel_rfl) (by kernel_rfl) (by kernel_rfl) g541.1 g541.2 ?_
                   refine r_load (c := (cd6 [1, 1, 1, 1, 1, 1, 1, 1, 1, 1, 1, 1, 0, 1, 0, 0, 1, 0, 0, 1, 1, 1, 0, 0])) (i := 16) (d := (some 198)) (ty := 24) (t := 24) (x := (.tmp 197)) (p := ⟨b543, p544 + t363.toNat * 49, none⟩) (v := .agg (enc_api_Final (gt ((([] : List api_Final) ++ a0) ++ a1) t363)).toArray) (by kernel_rfl) (by kernel_rfl) (by kernel_rfl) (loads_agg ((hS456.row 5 rfl).at2 hA545 len_api_Final (by omega) g541.1 g541.2) (by kernel_rfl) (lenK (len_api_Final _) (by kernel_rfl))) ?_
                   obtain ⟨t547, hr548, hp549⟩ := bind_some' hp542
                   have hS550 := hS456.pick3
                   obtain ⟨Z551, hz552, hS553, hs554, hb555⟩ := hS550.lendrow len_api_Final (by omega)
                   refine r_call1 (c := (cd6 [1, 1, 1, 1, 1, 1, 1, 1, 1, 1, 1, 1, 0, 1, 0, 0, 1, 0, 0, 1, 1, 1, 0, 0])) (i := 17) (d := (some 199)) (g := 20) (args := #[.slice Q67 t65.length Q68, .agg (enc_api_Final (gt ((([] : List api_Final) ++ a0) ++ a1) t363)).toArray]) (by kernel_rfl) (by kernel_rfl) (by kernel_rfl) (by kernel_rfl) (weirlaw10_in.ok t65 (gt ((([] : List api_Final) ++ a0) ++ a1) t363) Q67 Q68 hS553 hs554 hr548) ?_
                   rintro _ w556 ⟨rfl, hS557⟩
                   refine ⟨.bool t547, rfl, ?_⟩
                   have hS558 := hb555 _ _ hS557
                   refine sx_split 5 (todo' := [.inRegion (opsOf (cd6 [1, 1, 1, 1, 1, 1, 1, 1, 1, 1, 1, 1, 0, 1, 0, 0, 1, 0, 0, 1, 1, 1, 0, 0])) [23, 24, 25, 26, 27, 28, 29, 30, 31, 32, 33, 34, 35, 36, 37], .code (cd6 [1, 1, 1, 1, 1, 1, 1, 1, 1, 1, 1, 1, 0, 1, 0, 0, 1, 0, 0, 1, 1, 1, 0, 1]), .code (cd6 [1, 1, 1, 1, 1, 1, 1, 1, 1, 1, 1, 1, 0, 1, 0, 0, 1, 0, 0, 1, 1, 1, 1]), .inBlock 3, .code (cd6 [1, 1, 1, 1, 1, 1, 1, 1, 1, 1, 1, 1, 0, 1, 0, 0, 1, 1]), .inLoop (cd6 [1, 1, 1, 1, 1, 1, 1, 1, 1, 1, 1, 1, 0, 1, 0, 0]), .inBlock 2, .code (cd6 [1, 1, 1, 1, 1, 1, 1, 1, 1, 1, 1, 1, 1])]) (us := [(200, .bool false), (201, .bool false), (202, undef), (203, .bool false)]) (d := 204) (t := (!(t547 == false))) (by kernel_rfl) (fun h559 => ?_) (fun h560 => ?_)
                   ·skip
                    have hp561 := ite_t hp549 h559
                    refine sx_run 21 (todo' := [.code (cd6 [1, 1, 1, 1, 1, 1, 1, 1, 1, 1, 1, 1, 0, 1, 0, 0, 1, 0, 0, 1, 1, 1, 0, 1, 0, 1]), .code (cd6 [1, 1, 1, 1, 1, 1, 1, 1, 1, 1, 1, 1, 0, 1, 0, 0, 1, 0, 0, 1, 1, 1, 1]), .inBlock 3, .code (cd6 [1, 1, 1, 1, 1, 1, 1, 1, 1, 1, 1, 1, 0, 1, 0, 0, 1, 1]), .inLoop (cd6 [1, 1, 1, 1, 1, 1, 1, 1, 1, 1, 1, 1, 0, 1, 0, 0]), .inBlock 2, .code (cd6 [1, 1, 1, 1, 1, 1, 1, 1, 1, 1, 1, 1, 1])]) (us := [(205, .bool true), (206, .bool true), (207, undef), (208, undef), (209, undef), (210, undef), (211, undef), (212, undef), (213, undef), (214, undef), (215, undef), (216, undef), (217, undef), (218, undef), (219, .bool true), (4, .bool false)]) (by kernel_rfl) ?_
                    have hS562 := hS558.drop
                    have hS563 := hS562.drop
                    have hS564 := hS563.drop
                    have hS565 := hS564.drop
                    have hS566 := hS565.drop
                    have hS567 := hS566.drop
                    refine runs_ret (fn := Tryd.f6) (v := .bool false) Tryd.func6 (by kernel_rfl) ?_
                    have hr568 := (hq373 _ (hq463 _ (Option.some.inj hp561)))
                    cases hr568
                    exact hR _ _ ⟨rfl, hS567⟩
                   ·skip
                    have hp569 := ite_f hp549 h560
                    refine sx_run 5 (todo' := [.inRegion (opsOf (cd6 [1, 1, 1, 1, 1, 1, 1, 1, 1, 1, 1, 1, 0, 1, 0, 0, 1, 0, 0, 1, 1, 1, 0, 0])) [28, 29, 30, 31, 32, 33, 34, 35, 36, 37], .code (cd6 [1, 1, 1, 1, 1, 1, 1, 1, 1, 1, 1, 1, 0, 1, 0, 0, 1, 0, 0, 1, 1, 1, 0, 1]), .code (cd6 [1, 1, 1, 1, 1, 1, 1, 1, 1, 1, 1, 1, 0, 1, 0, 0, 1, 0, 0, 1, 1, 1, 1]), .inBlock 3, .code (cd6 [1, 1, 1, 1, 1, 1, 1, 1, 1, 1, 1, 1, 0, 1, 0, 0, 1, 1]), .inLoop (cd6 [1, 1, 1, 1, 1, 1, 1, 1, 1, 1, 1, 1, 0, 1, 0, 0]), .inBlock 2, .code (cd6 [1, 1, 1, 1, 1, 1, 1, 1, 1, 1, 1, 1, 1])]) (us := [(205, .bool false), (206, .bool false), (207, .slice Q88 t86.length Q89), (208, .slice A342 ((([] : List api_Final) ++ a0) ++ a1).length c343), (209, .int .i64 t363)]) (by kernel_rfl) ?_
                    obtain ⟨g570, hp571⟩ := ite_some hp569
                    obtain ⟨b572, p573, hA574, -⟩ := (hS558.row 5 rfl).at_ len_api_Final (by omega) g570.1 g570.2
                    refine r_indexAddr (c := (cd6 [1, 1, 1, 1, 1, 1, 1, 1, 1, 1, 1, 1, 0, 1, 0, 0, 1, 0, 0, 1, 1, 1, 0, 0])) (i := 28) (d := (some 210)) (ty := 0) (t := 28) (e := 24) (n := ((([] : List api_Final) ++ a0) ++ a1).length) (cp := c343) (sz := 49) (kk := .i64) (x := (.tmp 208)) (y := (.tmp 209)) (b := b572) (o' := p573) (j := t363) (by kernel_rfl) (by kernel_rfl) (slv (by kernel_rfl) hA574) (by kernel_rfl) (by kernel_rfl) (by kernel_rfl) g570.1 g570.2 ?_
                    refine r_load (c := (cd6 [1, 1, 1, 1, 1, 1, 1, 1, 1, 1, 1, 1, 0, 1, 0, 0, 1, 0, 0, 1, 1, 1, 0, 0])) (i := 29) (d := (some 211)) (ty := 24) (t := 24) (x := (.tmp 210)) (p := ⟨b572, p573 + t363.toNat * 49, none⟩) (v := .agg (enc_api_Final (gt ((([] : List api_Final) ++ a0) ++ a1) t363)).toArray) (by kernel_rfl) (by kernel_rfl) (by kernel_rfl) (loads_agg ((hS558.row 5 rfl).at2 hA574 len_api_Final (by omega) g570.1 g570.2) (by kernel_rfl) (lenK (len_api_Final _) (by kernel_rfl))) ?_
                    obtain ⟨t576, hr577, hp578⟩ := bind_some' hp571
                    have hS579 := hS558.pick4
                    obtain ⟨Z580, hz581, hS582, hs583, hb584⟩ := hS579.lendrow len_api_Final (by omega)
                    refine r_call1 (c := (cd6 [1, 1, 1, 1, 1, 1, 1, 1, 1, 1, 1, 1, 0, 1, 0, 0, 1, 0, 0, 1, 1, 1, 0, 0])) (i := 30) (d := (some 212)) (g := 20) (args := #[.slice Q88 t86.length Q89, .agg (enc_api_Final (gt ((([] : List api_Final) ++ a0) ++ a1) t363)).toArray]) (by kernel_rfl) (by kernel_rfl) (by kernel_rfl) (by kernel_rfl) (weirlaw10_in.ok t86 (gt ((([] : List api_Final) ++ a0) ++ a1) t363) Q88 Q89 hS582 hs583 hr577) ?_
                    rintro _ w585 ⟨rfl, hS586⟩
                    refine ⟨.bool t576, rfl, ?_⟩
                    have hS587 := hb584 _ _ hS586
                    refine sx_split 6 (todo' := [.inRegion (opsOf (cd6 [1, 1, 1, 1, 1, 1, 1, 1, 1, 1, 1, 1, 0, 1, 0, 0, 1, 0, 0, 1, 1, 1, 0, 0])) [37], .code (cd6 [1, 1, 1, 1, 1, 1, 1, 1, 1, 1, 1, 1, 0, 1, 0, 0, 1, 0, 0, 1, 1, 1, 0, 1]), .code (cd6 [1, 1, 1, 1, 1, 1, 1, 1, 1, 1, 1, 1, 0, 1, 0, 0, 1, 0, 0, 1, 1, 1, 1]), .inBlock 3, .code (cd6 [1, 1, 1, 1, 1, 1, 1, 1, 1, 1, 1, 1, 0, 1, 0, 0, 1, 1]), .inLoop (cd6 [1, 1, 1, 1, 1, 1, 1, 1, 1, 1, 1, 1, 0, 1, 0, 0]), .inBlock 2, .code (cd6 [1, 1, 1, 1, 1, 1, 1, 1, 1, 1, 1, 1, 1])]) (us := [(213, .bool false), (214, .bool false), (215, undef), (216, undef), (217, .bool false)]) (d := 218) (t := (!(t576 == false))) (by kernel_rfl) (fun h588 => ?_) (fun h589 => ?_)
                    ·skip
                     have hp590 := ite_t hp578 h588
                     refine sx_run 7 (todo' := [.code (cd6 [1, 1, 1, 1, 1, 1, 1, 1, 1, 1, 1, 1, 0, 1, 0, 0, 1, 0, 0, 1, 1, 1, 0, 1, 0, 1]), .code (cd6 [1, 1, 1, 1, 1, 1, 1, 1, 1, 1, 1, 1, 0, 1, 0, 0, 1, 0, 0, 1, 1, 1, 1]), .inBlock 3, .code (cd6 [1, 1, 1, 1, 1, 1, 1, 1, 1, 1, 1, 1, 0, 1, 0, 0, 1, 1]), .inLoop (cd6 [1, 1, 1, 1, 1, 1, 1, 1, 1, 1, 1, 1, 0, 1, 0, 0]), .inBlock 2, .code (cd6 [1, 1, 1, 1, 1, 1, 1, 1, 1, 1, 1, 1, 1])]) (us := [(219, .bool true), (4, .bool false)]) (by kernel_rfl) ?_
                     have hS591 := hS587.drop
                     have hS592 := hS591.drop
                     have hS593 := hS592.drop
                     have hS594 := hS593.drop
                     have hS595 := hS594.drop
                     have hS596 := hS595.drop
                     refine runs_ret (fn := Tryd.f6) (v := .bool false) Tryd.func6 (by kernel_rfl) ?_
                     have hr597 := (hq373 _ (hq463 _ (Option.some.inj hp590)))
                     cases hr597
                     exact hR _ _ ⟨rfl, hS596⟩
                    ·skip
                     have hp598 := ite_f hp578 h589
                     refine sx_run 4 (todo' := [.code (cd6 [1, 1, 1, 1, 1, 1, 1, 1, 1, 1, 1, 1, 0, 1, 0, 0, 1, 0, 0, 1, 1, 1, 1]), .inBlock 3, .code (cd6 [1, 1, 1, 1, 1, 1, 1, 1, 1, 1, 1, 1, 0, 1, 0, 0, 1, 1]), .inLoop (cd6 [1, 1, 1, 1, 1, 1, 1, 1, 1, 1, 1, 1, 0, 1, 0, 0]), .inBlock 2, .code (cd6 [1, 1, 1, 1, 1, 1, 1, 1, 1, 1, 1, 1, 1])]) (us := [(219, .bool false)]) (by kernel_rfl) ?_
                     have hS599 := hS587.pick5
                     have hS600 := hS599.pick1
                     have hS601 := hS600.pick2
                     have hS602 := hS601.pick3
                     have hS603 := hS602.pick5
                     have hS604 := hS603.pick5
                     refine Runs.fill (m := [none, none, none, none, none, some (.slice Q17 t16.length Q18), some (.slice Q25 t24.length Q26), none, none, some (.slice Q46 t44.length Q47), none, some (.slice Q67 t65.length Q68), none, some (.slice Q88 t86.length Q89), none, some (.slice A342 ((([] : List api_Final) ++ a0) ++ a1).length c343), some (.int .i64 t363), some (.bool false), none, none, none, none, none, none, none, none, none, none, none, none, none, none, none, none, none, none, none, none, none, none, none, none, none, none, none, none, none, none, none, none, none, none, none, none, none, none, none, none, none, none, none, none, none, none, none, none, none, none, none, none, none, none, none, none, none, none, none, none, none, none, none, none, none, none, none, none, none, none, none, none, none, none, none, none, none, none, none, none, none, none, none, none, none, none, none, none, none, none, none, none, none, none, none, none, none, none, none, none, none, none, none, none, none, none, none, none, none, none, none, none, none, none, none, none, none, none, none, none, none, none, none, none, none, none, none, none, none, none, none, none, none, none, none, none, none, none, none, none, none, none, none, none, none, none, none, none, none, none, none, none, none, none, none, none, none, none, none, none, none, none, none, none, none, none, none, none, none, none, none, none, none, none, none, none, none, none, none, none, none, none, none, none, none, none, none, none, none, none, none, none, none, none, none, none, none, none, none, none, none, none, none, none, none, none, none, none, none, none, none, none, none, none, none, none, none, none, none, none, none, none, none, none, none, none, none, none]) (by kernel_rfl) ?_
                     exact J464 false (Option.some.inj hp598) _ _ hS604
                 ·skip
                  have hp605 := ite_t hv458 rfl
                  refine sx_split 3 (todo' := [.inRegion (opsOf (cd6 [1, 1, 1, 1, 1, 1, 1, 1, 1, 1, 1, 1, 0, 1, 0, 0, 1, 0, 0, 1, 1, 1, 0, 0])) [11, 12, 13, 14, 15, 16, 17, 18, 19, 20, 21, 22, 23, 24, 25, 26, 27, 28, 29, 30, 31, 32, 33, 34, 35, 36, 37], .code (cd6 [1, 1, 1, 1, 1, 1, 1, 1, 1, 1, 1, 1, 0, 1, 0, 0, 1, 0, 0, 1, 1, 1, 0, 1]), .code (cd6 [1, 1, 1, 1, 1, 1, 1, 1, 1, 1, 1, 1, 0, 1, 0, 0, 1, 0, 0, 1, 1, 1, 1]), .inBlock 3, .code (cd6 [1, 1, 1, 1, 1, 1, 1, 1, 1, 1, 1, 1, 0, 1, 0, 0, 1, 1]), .inLoop (cd6 [1, 1, 1, 1, 1, 1, 1, 1, 1, 1, 1, 1, 0, 1, 0, 0]), .inBlock 2, .code (cd6 [1, 1, 1, 1, 1, 1, 1, 1, 1, 1, 1, 1, 1])]) (us := [(190, undef), (191, .bool true)]) (d := 192) (t := (!(t445 == true))) (by kernel_rfl) (fun h606 => ?_) (fun h607 => ?_)
                  ·skip
                   have hp608 := ite_t hp605 h606
                   refine sx_run 33 (todo' := [.code (cd6 [1, 1, 1, 1, 1, 1, 1, 1, 1, 1, 1, 1, 0, 1, 0, 0, 1, 0, 0, 1, 1, 1, 0, 1, 0, 1]), .code (cd6 [1, 1, 1, 1, 1, 1, 1, 1, 1, 1, 1, 1, 0, 1, 0, 0, 1, 0, 0, 1, 1, 1, 1]), .inBlock 3, .code (cd6 [1, 1, 1, 1, 1, 1, 1, 1, 1, 1, 1, 1, 0, 1, 0, 0, 1, 1]), .inLoop (cd6 [1, 1, 1, 1, 1, 1, 1, 1, 1, 1, 1, 1, 0, 1, 0, 0]), .inBlock 2, .code (cd6 [1, 1, 1, 1, 1, 1, 1, 1, 1, 1, 1, 1, 1])]) (us := [(193, .bool true), (194, undef), (195, undef), (196, undef), (197, undef), (198, undef), (199, undef), (200, undef), (201, undef), (202, undef), (203, undef), (204, undef), (205, .bool true), (206, .bool true), (207, undef), (208, undef), (209, undef), (210, undef), (211, undef), (212, undef), (213, undef), (214, undef), (215, undef), (216, undef), (217, undef), (218, undef), (219, .bool true), (4, .bool false)]) (by kernel_rfl) ?_
                   have hS609 := hS456.drop
                   have hS610 := hS609.drop
                   have hS611 := hS610.drop
                   have hS612 := hS611.drop
                   have hS613 := hS612.drop
                   have hS614 := hS613.drop
                   refine runs_ret (fn := Tryd.f6) (v := .bool false) Tryd.func6 (by kernel_rfl) ?_
                   have hr615 := (hq373 _ (hq463 _ (Option.some.inj hp608)))
                   cases hr615
                   exact hR _ _ ⟨rfl, hS614⟩
                  ·skip
                   have hp616 := ite_f hp605 h607
                   refine sx_run 4 (todo' := [.inRegion (opsOf (cd6 [1, 1, 1, 1, 1, 1, 1, 1, 1, 1, 1, 1, 0, 1, 0, 0, 1, 0, 0, 1, 1, 1, 0, 0])) [15, 16, 17, 18, 19, 20, 21, 22, 23, 24, 25, 26, 27, 28, 29, 30, 31, 32, 33, 34, 35, 36, 37], .code (cd6 [1, 1, 1, 1, 1, 1, 1, 1, 1, 1, 1, 1, 0, 1, 0, 0, 1, 0, 0, 1, 1, 1, 0, 1]), .code (cd6 [1, 1, 1, 1, 1, 1, 1, 1, 1, 1, 1, 1, 0, 1, 0, 0, 1, 0, 0, 1, 1, 1, 1]), .inBlock 3, .code (cd6 [1, 1, 1, 1, 1, 1, 1, 1, 1, 1, 1, 1, 0, 1, 0, 0, 1, 1]), .inLoop (cd6 [1, 1, 1, 1, 1, 1, 1, 1, 1, 1, 1, 1, 0, 1, 0, 0]), .inBlock 2, .code (cd6 [1, 1, 1, 1, 1, 1, 1, 1, 1, 1, 1, 1, 1])]) (us := [(193, .bool false), (194, .slice Q67 t65.length Q68), (195, .slice A342 ((([] : List api_Final) ++ a0) ++ a1).length c343), (196, .int .i64 t363)]) (by kernel_rfl) ?_
                   obtain ⟨g617, hp618⟩ := ite_some hp616
                   obtain ⟨b619, p620, hA621, -⟩ := (hS456.row 5 rfl).at_ len_api_Final (by omega) g617.1 g617.2
                   refine r_indexAddr (c := (cd6 [1, 1, 1, 1, 1, 1, 1, 1, 1, 1, 1, 1, 0, 1, 0, 0, 1, 0, 0, 1, 1, 1, 0, 0])) (i := 15) (d := (some 197)) (ty := 0) (t := 28) (e := 24) (n := ((([] : List api_Final) ++ a0) ++ a1).length) (cp := c343) (sz := 49) (kk := .i64) (x := (.tmp 195)) (y := (.tmp 196)) (b := b619) (o' := p620) (j := t363) (by kernel_rfl) (by kernel_rfl) (slv (by kernel_rfl) hA621) (by kernel_rfl) (by kernel_rfl) (by kernel_rfl) g617.1 g617.2 ?_
                   refine r_load (c := (cd6 [1, 1, 1, 1, 1, 1, 1, 1, 1, 1, 1, 1, 0, 1, 0, 0, 1, 0, 0, 1, 1, 1, 0, 0])) (i := 16) (d := (some 198)) (ty := 24) (t := 24) (x := (.tmp 197)) (p := ⟨b619, p620 + t363.toNat * 49, none⟩) (v := .agg (enc_api_Final (gt ((([] : List api_Final) ++ a0) ++ a1) t363)).toArray) (by kernel_rfl) (by kernel_rfl) (by kernel_rfl) (loads_agg ((hS456.row 5 rfl).at2 hA621 len_api_Final (by omega) g617.1 g617.2) (by kernel_rfl) (lenK (len_api_Final _) (by kernel_rfl))) ?_
                   obtain ⟨t623, hr624, hp625⟩ := bind_some' hp618
                   have hS626 := hS456.pick3
                   obtain ⟨Z627, hz628, hS629, hs630, hb631⟩ := hS626.lendrow len_api_Final (by omega)
                   refine r_call1 (c := (cd6 [1, 1, 1, 1, 1, 1, 1, 1, 1, 1, 1, 1, 0, 1, 0, 0, 1, 0, 0, 1, 1, 1, 0, 0])) (i := 17) (d := (some 199)) (g := 20) (args := #[.slice Q67 t65.length Q68, .agg (enc_api_Final (gt ((([] : List api_Final) ++ a0) ++ a1) t363)).toArray]) (by kernel_rfl) (by kernel_rfl) (by kernel_rfl) (by kernel_rfl) (weirlaw10_in.ok t65 (gt ((([] : List api_Final) ++ a0) ++ a1) t363) Q67 Q68 hS629 hs630 hr624) ?_
                   rintro _ w632 ⟨rfl, hS633⟩
                   refine ⟨.bool t623, rfl, ?_⟩
                   have hS634 := hb631 _ _ hS633
                   refine sx_split 5 (todo' := [.inRegion (opsOf (cd6 [1, 1, 1, 1, 1, 1, 1, 1, 1, 1, 1, 1, 0, 1, 0, 0, 1, 0, 0, 1, 1, 1, 0, 0])) [23, 24, 25, 26, 27, 28, 29, 30, 31, 32, 33, 34, 35, 36, 37], .code (cd6 [1, 1, 1, 1, 1, 1, 1, 1, 1, 1, 1, 1, 0, 1, 0, 0, 1, 0, 0, 1, 1, 1, 0, 1]), .code (cd6 [1, 1, 1, 1, 1, 1, 1, 1, 1, 1, 1, 1, 0, 1, 0, 0, 1, 0, 0, 1, 1, 1, 1]), .inBlock 3, .code (cd6 [1, 1, 1, 1, 1, 1, 1, 1, 1, 1, 1, 1, 0, 1, 0, 0, 1, 1]), .inLoop (cd6 [1, 1, 1, 1, 1, 1, 1, 1, 1, 1, 1, 1, 0, 1, 0, 0]), .inBlock 2, .code (cd6 [1, 1, 1, 1, 1, 1, 1, 1, 1, 1, 1, 1, 1])]) (us := [(200, .bool true), (201, .bool true), (202, .bool t432), (203, .bool t432)]) (d := 204) (t := (!(t623 == t432))) (by kernel_rfl) (fun h635 => ?_) (fun h636 => ?_)
                   ·skip
                    have hp637 := ite_t hp625 h635
                    refine sx_run 21 (todo' := [.code (cd6 [1, 1, 1, 1, 1, 1, 1, 1, 1, 1, 1, 1, 0, 1, 0, 0, 1, 0, 0, 1, 1, 1, 0, 1, 0, 1]), .code (cd6 [1, 1, 1, 1, 1, 1, 1, 1, 1, 1, 1, 1, 0, 1, 0, 0, 1, 0, 0, 1, 1, 1, 1]), .inBlock 3, .code (cd6 [1, 1, 1, 1, 1, 1, 1, 1, 1, 1, 1, 1, 0, 1, 0, 0, 1, 1]), .inLoop (cd6 [1, 1, 1, 1, 1, 1, 1, 1, 1, 1, 1, 1, 0, 1, 0, 0]), .inBlock 2, .code (cd6 [1, 1, 1, 1, 1, 1, 1, 1, 1, 1, 1, 1, 1])]) (us := [(205, .bool true), (206, .bool true), (207, undef), (208, undef), (209, undef), (210, undef), (211, undef), (212, undef), (213, undef), (214, undef), (215, undef), (216, undef), (217, undef), (218, undef), (219, .bool true), (4, .bool false)]) (by kernel_rfl) ?_
                    have hS638 := hS634.drop
                    have hS639 := hS638.drop
                    have hS640 := hS639.drop
                    have hS641 := hS640.drop
                    have hS642 := hS641.drop
                    have hS643 := hS642.drop
                    refine runs_ret (fn := Tryd.f6) (v := .bool false) Tryd.func6 (by kernel_rfl) ?_
                    have hr644 := (hq373 _ (hq463 _ (Option.some.inj hp637)))
                    cases hr644
                    exact hR _ _ ⟨rfl, hS643⟩
                   ·skip
                    have hp645 := ite_f hp625 h636
                    refine sx_run 5 (todo' := [.inRegion (opsOf (cd6 [1, 1, 1, 1, 1, 1, 1, 1, 1, 1, 1, 1, 0, 1, 0, 0, 1, 0, 0, 1, 1, 1, 0, 0])) [28, 29, 30, 31, 32, 33, 34, 35, 36, 37], .code (cd6 [1, 1, 1, 1, 1, 1, 1, 1, 1, 1, 1, 1, 0, 1, 0, 0, 1, 0, 0, 1, 1, 1, 0, 1]), .code (cd6 [1, 1, 1, 1, 1, 1, 1, 1, 1, 1, 1, 1, 0, 1, 0, 0, 1, 0, 0, 1, 1, 1, 1]), .inBlock 3, .code (cd6 [1, 1, 1, 1, 1, 1, 1, 1, 1, 1, 1, 1, 0, 1, 0, 0, 1, 1]), .inLoop (cd6 [1, 1, 1, 1, 1, 1, 1, 1, 1, 1, 1, 1, 0, 1, 0, 0]), .inBlock 2, .code (cd6 [1, 1, 1, 1, 1, 1, 1, 1, 1, 1, 1, 1, 1])]) (us := [(205, .bool false), (206, .bool false), (207, .slice Q88 t86.length Q89), (208, .slice A342 ((([] : List api_Final) ++ a0) ++ a1).length c343), (209, .int .i64 t363)]) (by kernel_rfl) ?_
                    obtain ⟨g646, hp647⟩ := ite_some hp645
                    obtain ⟨b648, p649, hA650, -⟩ := (hS634.row 5 rfl).at_ len_api_Final (by omega) g646.1 g646.2
                    refine r_indexAddr (c := (cd6 [1, 1, 1, 1, 1, 1, 1, 1, 1, 1, 1, 1, 0, 1, 0, 0, 1, 0, 0, 1, 1, 1, 0, 0])) (i := 28) (d := (some 210)) (ty := 0) (t := 28) (e := 24) (n := ((([] : List api_Final) ++ a0) ++ a1).length) (cp := c343) (sz := 49) (kk := .i64) (x := (.tmp 208)) (y := (.tmp 209)) (b := b648) (o' := p649) (j := t363) (by kernel_rfl) (by kernel_rfl) (slv (by kernel_rfl) hA650) (by kernel_rfl) (by kernel_rfl) (by kernel_rfl) g646.1 g646.2 ?_
                    refine r_load (c := (cd6 [1, 1, 1, 1, 1, 1, 1, 1, 1, 1, 1, 1, 0, 1, 0, 0, 1, 0, 0, 1, 1, 1, 0, 0])) (i := 29) (d := (some 211)) (ty := 24) (t := 24) (x := (.tmp 210)) (p := ⟨b648, p649 + t363.toNat * 49, none⟩) (v := .agg (enc_api_Final (gt ((([] : List api_Final) ++ a0) ++ a1) t363)).toArray) (by kernel_rfl) (by kernel_rfl) (by kernel_rfl) (loads_agg ((hS634.row 5 rfl).at2 hA650 len_api_Final (by omega) g646.1 g646.2) (by kernel_rfl) (lenK (len_api_Final _) (by kernel_rfl))) ?_
                    obtain ⟨t652, hr653, hp654⟩ := bind_some' hp647
                    have hS655 := hS634.pick4
                    obtain ⟨Z656, hz657, hS658, hs659, hb660⟩ := hS655.lendrow len_api_Final (by omega)
                    refine r_call1 (c := (cd6 [1, 1, 1, 1, 1, 1, 1, 1, 1, 1, 1, 1, 0, 1, 0, 0, 1, 0, 0, 1, 1, 1, 0, 0])) (i := 30) (d := (some 212)) (g := 20) (args := #[.slice Q88 t86.length Q89, .agg (enc_api_Final (gt ((([] : List api_Final) ++ a0) ++ a1) t363)).toArray]) (by kernel_rfl) (by kernel_rfl) (by kernel_rfl) (by kernel_rfl) (weirlaw10_in.ok t86 (gt ((([] : List api_Final) ++ a0) ++ a1) t363) Q88 Q89 hS658 hs659 hr653) ?_
                    rintro _ w661 ⟨rfl, hS662⟩
                    refine ⟨.bool t652, rfl, ?_⟩
                    have hS663 := hb660 _ _ hS662
                    refine sx_split 4 (todo' := [.inRegion (opsOf (cd6 [1, 1, 1, 1, 1, 1, 1, 1, 1, 1, 1, 1, 0, 1, 0, 0, 1, 0, 0, 1, 1, 1, 0, 0])) [35, 36, 37], .code (cd6 [1, 1, 1, 1, 1, 1, 1, 1, 1, 1, 1, 1, 0, 1, 0, 0, 1, 0, 0, 1, 1, 1, 0, 1]), .code (cd6 [1, 1, 1, 1, 1, 1, 1, 1, 1, 1, 1, 1, 0, 1, 0, 0, 1, 0, 0, 1, 1, 1, 1]), .inBlock 3, .code (cd6 [1, 1, 1, 1, 1, 1, 1, 1, 1, 1, 1, 1, 0, 1, 0, 0, 1, 1]), .inLoop (cd6 [1, 1, 1, 1, 1, 1, 1, 1, 1, 1, 1, 1, 0, 1, 0, 0]), .inBlock 2, .code (cd6 [1, 1, 1, 1, 1, 1, 1, 1, 1, 1, 1, 1, 1])]) (us := [(213, .bool true), (214, .bool true), (215, .bool t432)]) (d := 216) (t := (!t432)) (by kernel_rfl) (fun h664 => ?_) (fun h665 => ?_)
                    ·skip
                     have hp666 := ite_t hp654 h664
                     refine sx_split 2 (todo' := [.inRegion (opsOf (cd6 [1, 1, 1, 1, 1, 1, 1, 1, 1, 1, 1, 1, 0, 1, 0, 0, 1, 0, 0, 1, 1, 1, 0, 0])) [37], .code (cd6 [1, 1, 1, 1, 1, 1, 1, 1, 1, 1, 1, 1, 0, 1, 0, 0, 1, 0, 0, 1, 1, 1, 0, 1]), .code (cd6 [1, 1, 1, 1, 1, 1, 1, 1, 1, 1, 1, 1, 0, 1, 0, 0, 1, 0, 0, 1, 1, 1, 1]), .inBlock 3, .code (cd6 [1, 1, 1, 1, 1, 1, 1, 1, 1, 1, 1, 1, 0, 1, 0, 0, 1, 1]), .inLoop (cd6 [1, 1, 1, 1, 1, 1, 1, 1, 1, 1, 1, 1, 0, 1, 0, 0]), .inBlock 2, .code (cd6 [1, 1, 1, 1, 1, 1, 1, 1, 1, 1, 1, 1, 1])]) (us := [(217, .bool true)]) (d := 218) (t := (!(t652 == true))) (by kernel_rfl) (fun h667 => ?_) (fun h668 => ?_)
                     ·skip
                      have hp669 := ite_t hp666 h667
                      refine sx_run 7 (todo' := [.code (cd6 [1, 1, 1, 1, 1, 1, 1, 1, 1, 1, 1, 1, 0, 1, 0, 0, 1, 0, 0, 1, 1, 1, 0, 1, 0, 1]), .code (cd6 [1, 1, 1, 1, 1, 1, 1, 1, 1, 1, 1, 1, 0, 1, 0, 0, 1, 0, 0, 1, 1, 1, 1]), .inBlock 3, .code (cd6 [1, 1, 1, 1, 1, 1, 1, 1, 1, 1, 1, 1, 0, 1, 0, 0, 1, 1]), .inLoop (cd6 [1, 1, 1, 1, 1, 1, 1, 1, 1, 1, 1, 1, 0, 1, 0, 0]), .inBlock 2, .code (cd6 [1, 1, 1, 1, 1, 1, 1, 1, 1, 1, 1, 1, 1])]) (us := [(219, .bool true), (4, .bool false)]) (by kernel_rfl) ?_
                      have hS670 := hS663.drop
                      have hS671 := hS670.drop
                      have hS672 := hS671.drop
                      have hS673 := hS672.drop
                      have hS674 := hS673.drop
                      have hS675 := hS674.drop
                      refine runs_ret (fn := Tryd.f6) (v := .bool false) Tryd.func6 (by kernel_rfl) ?_
                      have hr676 := (hq373 _ (hq463 _ (Option.some.inj hp669)))
                      cases hr676
                      exact hR _ _ ⟨rfl, hS675⟩
                     ·skip
                      have hp677 := ite_f hp666 h668
                      refine sx_run 4 (todo' := [.code (cd6 [1, 1, 1, 1, 1, 1, 1, 1, 1, 1, 1, 1, 0, 1, 0, 0, 1, 0, 0, 1, 1, 1, 1]), .inBlock 3, .code (cd6 [1, 1, 1, 1, 1, 1, 1, 1, 1, 1, 1, 1, 0, 1, 0, 0, 1, 1]), .inLoop (cd6 [1, 1, 1, 1, 1, 1, 1, 1, 1, 1, 1, 1, 0, 1, 0, 0]), .inBlock 2, .code (cd6 [1, 1, 1, 1, 1, 1, 1, 1, 1, 1, 1, 1, 1])]) (us := [(219, .bool false)]) (by kernel_rfl) ?_
                      have hS678 := hS663.pick5
                      have hS679 := hS678.pick1
                      have hS680 := hS679.pick2
                      have hS681 := hS680.pick3
                      have hS682 := hS681.pick5
                      have hS683 := hS682.pick5
                      refine Runs.fill (m := [none, none, none, none, none, some (.slice Q17 t16.length Q18), some (.slice Q25 t24.length Q26), none, none, some (.slice Q46 t44.length Q47), none, some (.slice Q67 t65.length Q68), none, some (.slice Q88 t86.length Q89), none, some (.slice A342 ((([] : List api_Final) ++ a0) ++ a1).length c343), some (.int .i64 t363), some (.bool true), none, none, none, none, none, none, none, none, none, none, none, none, none, none, none, none, none, none, none, none, none, none, none, none, none, none, none, none, none, none, none, none, none, none, none, none, none, none, none, none, none, none, none, none, none, none, none, none, none, none, none, none, none, none, none, none, none, none, none, none, none, none, none, none, none, none, none, none, none, none, none, none, none, none, none, none, none, none, none, none, none, none, none, none, none, none, none, none, none, none, none, none, none, none, none, none, none, none, none, none, none, none, none, none, none, none, none, none, none, none, none, none, none, none, none, none, none, none, none, none, none, none, none, none, none, none, none, none, none, none, none, none, none, none, none, none, none, none, none, none, none, none, none, none, none, none, none, none, none, none, none, none, none, none, none, none, none, none, none, none, none, none, none, none, none, none, none, none, none, none, none, none, none, none, none, none, none, none, none, none, none, none, none, none, none, none, none, none, none, none, none, none, none, none, none, none, none, none, none, none, none, none, none, none, none, none, none, none, none, none, none, none, none, none, none, none, none, none, none, none, none, none, none, none, none, none, none, none]) (by kernel_rfl) ?_
                      exact J464 true (Option.some.inj hp677) _ _ hS683
                    ·skip
                     have hp684 := ite_f hp654 h665
                     refine sx_split 2 (todo' := [.inRegion (opsOf (cd6 [1, 1, 1, 1, 1, 1, 1, 1, 1, 1, 1, 1, 0, 1, 0, 0, 1, 0, 0, 1, 1, 1, 0, 0])) [37], .code (cd6 [1, 1, 1, 1, 1, 1, 1, 1, 1, 1, 1, 1, 0, 1, 0, 0, 1, 0, 0, 1, 1, 1, 0, 1]), .code (cd6 [1, 1, 1, 1, 1, 1, 1, 1, 1, 1, 1, 1, 0, 1, 0, 0, 1, 0, 0, 1, 1, 1, 1]), .inBlock 3, .code (cd6 [1, 1, 1, 1, 1, 1, 1, 1, 1, 1, 1, 1, 0, 1, 0, 0, 1, 1]), .inLoop (cd6 [1, 1, 1, 1, 1, 1, 1, 1, 1, 1, 1, 1, 0, 1, 0, 0]), .inBlock 2, .code (cd6 [1, 1, 1, 1, 1, 1, 1, 1, 1, 1, 1, 1, 1])]) (us := [(217, .bool false)]) (d := 218) (t := (!(t652 == false))) (by kernel_rfl) (fun h685 => ?_) (fun h686 => ?_)
                     ·skip
                      have hp687 := ite_t hp684 h685
                      refine sx_run 7 (todo' := [.code (cd6 [1, 1, 1, 1, 1, 1, 1, 1, 1, 1, 1, 1, 0, 1, 0, 0, 1, 0, 0, 1, 1, 1, 0, 1, 0, 1]), .code (cd6 [1, 1, 1, 1, 1, 1, 1, 1, 1, 1, 1, 1, 0, 1, 0, 0, 1, 0, 0, 1, 1, 1, 1]), .inBlock 3, .code (cd6 [1, 1, 1, 1, 1, 1, 1, 1, 1, 1, 1, 1, 0, 1, 0, 0, 1, 1]), .inLoop (cd6 [1, 1, 1, 1, 1, 1, 1, 1, 1, 1, 1, 1, 0, 1, 0, 0]), .inBlock 2, .code (cd6 [1, 1, 1, 1, 1, 1, 1, 1, 1, 1, 1, 1, 1])]) (us := [(219, .bool true), (4, .bool false)]) (by kernel_rfl) ?_
                      have hS688 := hS663.drop
                      have hS689 := hS688.drop
                      have hS690 := hS689.drop
                      have hS691 := hS690.drop
                      have hS692 := hS691.drop
                      have hS693 := hS692.drop
                      refine runs_ret (fn := Tryd.f6) (v := .bool false) Tryd.func6 (by kernel_rfl) ?_
                      have hr694 := (hq373 _ (hq463 _ (Option.some.inj hp687)))
                      cases hr694
                      exact hR _ _ ⟨rfl, hS693⟩
                     ·skip
                      have hp695 := ite_f hp684 h686
                      refine sx_run 4 (todo' := [.code (cd6 [1, 1, 1, 1, 1, 1, 1, 1, 1, 1, 1, 1, 0, 1, 0, 0, 1, 0, 0, 1, 1, 1, 1]), .inBlock 3, .code (cd6 [1, 1, 1, 1, 1, 1, 1, 1, 1, 1, 1, 1, 0, 1, 0, 0, 1, 1]), .inLoop (cd6 [1, 1, 1, 1, 1, 1, 1, 1, 1, 1, 1, 1, 0, 1, 0, 0]), .inBlock 2, .code (cd6 [1, 1, 1, 1, 1, 1, 1, 1, 1, 1, 1, 1, 1])]) (us := [(219, .bool false)]) (by kernel_rfl) ?_
                      have hS696 := hS663.pick5
                      have hS697 := hS696.pick1
                      have hS698 := hS697.pick2
                      have hS699 := hS698.pick3
                      have hS700 := hS699.pick5
                      have hS701 := hS700.pick5
                      refine Runs.fill (m := [none, none, none, none, none, some (.slice Q17 t16.length Q18), some (.slice Q25 t24.length Q26), none, none, some (.slice Q46 t44.length Q47), none, some (.slice Q67 t65.length Q68), none, some (.slice Q88 t86.length Q89), none, some (.slice A342 ((([] : List api_Final) ++ a0) ++ a1).length c343), some (.int .i64 t363), some (.bool true), none, none, none, none, none, none, none, none, none, none, none, none, none, none, none, none, none, none, none, none, none, none, none, none, none, none, none, none, none, none, none, none, none, none, none, none, none, none, none, none, none, none, none, none, none, none, none, none, none, none, none, none, none, none, none, none, none, none, none, none, none, none, none, none, none, none, none, none, none, none, none, none, none, none, none, none, none, none, none, none, none, none, none, none, none, none, none, none, none, none, none, none, none, none, none, none, none, none, none, none, none, none, none, none, none, none, none, none, none, none, none, none, none, none, none, none, none, none, none, none, none, none, none, none, none, none, none, none, none, none, none, none, none, none, none, none, none, none, none, none, none, none, none, none, none, none, none, none, none, none, none, none, none, none, none, none, none, none, none, none, none, none, none, none, none, none, none, none, none, none, none, none, none, none, none, none, none, none, none, none, none, none, none, none, none, none, none, none, none, none, none, none, none, none, none, none, none, none, none, none, none, none, none, none, none, none, none, none, none, none, none, none, none, none, none, none, none, none, none, none, none, none, none, none, none, none, none, none]) (by kernel_rfl) ?_
                      exact J464 true (Option.some.inj hp695) _ _ hS701
                refine sx_split 1 (todo' := [.inRegion (opsOf (cd6 [1, 1, 1, 1, 1, 1, 1, 1, 1, 1, 1, 1, 0, 1, 0, 0, 1, 0, 0, 1, 1, 0, 0])) [7, 8, 9, 10, 11, 12, 13, 14, 15, 16, 17, 18, 19, 20, 21, 22, 23, 24, 25, 26, 27, 28, 29], .code (cd6 [1, 1, 1, 1, 1, 1, 1, 1, 1, 1, 1, 1, 0, 1, 0, 0, 1, 0, 0, 1, 1, 0, 1]), .code (cd6 [1, 1, 1, 1, 1, 1, 1, 1, 1, 1, 1, 1, 0, 1, 0, 0, 1, 0, 0, 1, 1, 1]), .inBlock 3, .code (cd6 [1, 1, 1, 1, 1, 1, 1, 1, 1, 1, 1, 1, 0, 1, 0, 0, 1, 1]), .inLoop (cd6 [1, 1, 1, 1, 1, 1, 1, 1, 1, 1, 1, 1, 0, 1, 0, 0]), .inBlock 2, .code (cd6 [1, 1, 1, 1, 1, 1, 1, 1, 1, 1, 1, 1, 1])]) (us := []) (d := 158) (t := (t423 == 0)) (by kernel_rfl) (fun h702 => ?_) (fun h703 => ?_)
                ·skip
                 have hp704 := ite_t hv429 h702
                 refine sx_split 3 (todo' := [.inRegion (opsOf (cd6 [1, 1, 1, 1, 1, 1, 1, 1, 1, 1, 1, 1, 0, 1, 0, 0, 1, 0, 0, 1, 1, 0, 0])) [10, 11, 12, 13, 14, 15, 16, 17, 18, 19, 20, 21, 22, 23, 24, 25, 26, 27, 28, 29], .code (cd6 [1, 1, 1, 1, 1, 1, 1, 1, 1, 1, 1, 1, 0, 1, 0, 0, 1, 0, 0, 1, 1, 0, 1]), .code (cd6 [1, 1, 1, 1, 1, 1, 1, 1, 1, 1, 1, 1, 0, 1, 0, 0, 1, 0, 0, 1, 1, 1]), .inBlock 3, .code (cd6 [1, 1, 1, 1, 1, 1, 1, 1, 1, 1, 1, 1, 0, 1, 0, 0, 1, 1]), .inLoop (cd6 [1, 1, 1, 1, 1, 1, 1, 1, 1, 1, 1, 1, 0, 1, 0, 0]), .inBlock 2, .code (cd6 [1, 1, 1, 1, 1, 1, 1, 1, 1, 1, 1, 1, 1])]) (us := [(159, .bool true), (160, .bool t383)]) (d := 161) (t := (!t383)) (by kernel_rfl) (fun h705 => ?_) (fun h706 => ?_)
                 ·skip
                  have hp707 := ite_t hp704 h705
                  refine sx_split 4 (todo' := [.inRegion (opsOf (cd6 [1, 1, 1, 1, 1, 1, 1, 1, 1, 1, 1, 1, 0, 1, 0, 0, 1, 0, 0, 1, 1, 0, 0])) [14, 15, 16, 17, 18, 19, 20, 21, 22, 23, 24, 25, 26, 27, 28, 29], .code (cd6 [1, 1, 1, 1, 1, 1, 1, 1, 1, 1, 1, 1, 0, 1, 0, 0, 1, 0, 0, 1, 1, 0, 1]), .code (cd6 [1, 1, 1, 1, 1, 1, 1, 1, 1, 1, 1, 1, 0, 1, 0, 0, 1, 0, 0, 1, 1, 1]), .inBlock 3, .code (cd6 [1, 1, 1, 1, 1, 1, 1, 1, 1, 1, 1, 1, 0, 1, 0, 0, 1, 1]), .inLoop (cd6 [1, 1, 1, 1, 1, 1, 1, 1, 1, 1, 1, 1, 0, 1, 0, 0]), .inBlock 2, .code (cd6 [1, 1, 1, 1, 1, 1, 1, 1, 1, 1, 1, 1, 1])]) (us := [(162, .bool true), (163, .bool true), (164, .bool t400)]) (d := 165) (t := (!t400)) (by kernel_rfl) (fun h708 => ?_) (fun h709 => ?_)
                  ·skip
                   have hp710 := ite_t hp707 h708
                   refine sx_run 22 (todo' := [.code (cd6 [1, 1, 1, 1, 1, 1, 1, 1, 1, 1, 1, 1, 0, 1, 0, 0, 1, 0, 0, 1, 1, 0, 1, 0, 1]), .code (cd6 [1, 1, 1, 1, 1, 1, 1, 1, 1, 1, 1, 1, 0, 1, 0, 0, 1, 0, 0, 1, 1, 1]), .inBlock 3, .code (cd6 [1, 1, 1, 1, 1, 1, 1, 1, 1, 1, 1, 1, 0, 1, 0, 0, 1, 1]), .inLoop (cd6 [1, 1, 1, 1, 1, 1, 1, 1, 1, 1, 1, 1, 0, 1, 0, 0]), .inBlock 2, .code (cd6 [1, 1, 1, 1, 1, 1, 1, 1, 1, 1, 1, 1, 1])]) (us := [(166, .bool true), (167, .bool true), (168, undef), (169, undef), (170, undef), (171, undef), (172, undef), (173, undef), (174, undef), (175, undef), (176, undef), (177, undef), (178, undef), (179, undef), (180, undef), (181, .bool true), (4, .bool false)]) (by kernel_rfl) ?_
                   have hS711 := hS427.drop
                   have hS712 := hS711.drop
                   have hS713 := hS712.drop
                   have hS714 := hS713.drop
                   have hS715 := hS714.drop
                   have hS716 := hS715.drop
                   refine runs_ret (fn := Tryd.f6) (v := .bool false) Tryd.func6 (by kernel_rfl) ?_
                   have hr717 := (hq373 _ (hq435 _ (Option.some.inj hp710)))
                   cases hr717
                   exact hR _ _ ⟨rfl, hS716⟩
                  ·skip
                   have hp718 := ite_f hp707 h709
                   refine sx_run 4 (todo' := [.inRegion (opsOf (cd6 [1, 1, 1, 1, 1, 1, 1, 1, 1, 1, 1, 1, 0, 1, 0, 0, 1, 0, 0, 1, 1, 0, 0])) [18, 19, 20, 21, 22, 23, 24, 25, 26, 27, 28, 29], .code (cd6 [1, 1, 1, 1, 1, 1, 1, 1, 1, 1, 1, 1, 0, 1, 0, 0, 1, 0, 0, 1, 1, 0, 1]), .code (cd6 [1, 1, 1, 1, 1, 1, 1, 1, 1, 1, 1, 1, 0, 1, 0, 0, 1, 0, 0, 1, 1, 1]), .inBlock 3, .code (cd6 [1, 1, 1, 1, 1, 1, 1, 1, 1, 1, 1, 1, 0, 1, 0, 0, 1, 1]), .inLoop (cd6 [1, 1, 1, 1, 1, 1, 1, 1, 1, 1, 1, 1, 0, 1, 0, 0]), .inBlock 2, .code (cd6 [1, 1, 1, 1, 1, 1, 1, 1, 1, 1, 1, 1, 1])]) (us := [(166, .bool false), (167, .bool false), (168, .slice A342 ((([] : List api_Final) ++ a0) ++ a1).length c343), (169, .int .i64 t363)]) (by kernel_rfl) ?_
                   obtain ⟨g719, hp720⟩ := ite_some hp718
                   obtain ⟨b721, p722, hA723, -⟩ := (hS427.row 5 rfl).at_ len_api_Final (by omega) g719.1 g719.2
                   refine r_indexAddr (c := (cd6 [1, 1, 1, 1, 1, 1, 1, 1, 1, 1, 1, 1, 0, 1, 0, 0, 1, 0, 0, 1, 1, 0, 0])) (i := 18) (d := (some 170)) (ty := 0) (t := 28) (e := 24) (n := ((([] : List api_Final) ++ a0) ++ a1).length) (cp := c343) (sz := 49) (kk := .i64) (x := (.tmp 168)) (y := (.tmp 169)) (b := b721) (o' := p722) (j := t363) (by kernel_rfl) (by kernel_rfl) (slv (by kernel_rfl) hA723) (by kernel_rfl) (by kernel_rfl) (by kernel_rfl) g719.1 g719.2 ?_
                   refine r_load (c := (cd6 [1, 1, 1, 1, 1, 1, 1, 1, 1, 1, 1, 1, 0, 1, 0, 0, 1, 0, 0, 1, 1, 0, 0])) (i := 19) (d := (some 171)) (ty := 24) (t := 24) (x := (.tmp 170)) (p := ⟨b721, p722 + t363.toNat * 49, none⟩) (v := .agg (enc_api_Final (gt ((([] : List api_Final) ++ a0) ++ a1) t363)).toArray) (by kernel_rfl) (by kernel_rfl) (by kernel_rfl) (loads_agg ((hS427.row 5 rfl).at2 hA723 len_api_Final (by omega) g719.1 g719.2) (by kernel_rfl) (lenK (len_api_Final _) (by kernel_rfl))) ?_
                   obtain ⟨t725, hr726, hp727⟩ := bind_some' hp720
                   refine r_call1 (c := (cd6 [1, 1, 1, 1, 1, 1, 1, 1, 1, 1, 1, 1, 0, 1, 0, 0, 1, 0, 0, 1, 1, 0, 0])) (i := 20) (d := (some 172)) (g := 16) (args := #[.agg (enc_api_Final (gt ((([] : List api_Final) ++ a0) ++ a1) t363)).toArray]) (by kernel_rfl) (by kernel_rfl) (by kernel_rfl) (by kernel_rfl) (state_Check.ok (gt ((([] : List api_Final) ++ a0) ++ a1) t363) hS427 hr726) ?_
                   rintro _ w728 ⟨rfl, hS729⟩
                   refine ⟨.int .i64 t725, rfl, ?_⟩
                   obtain ⟨t730, hr731, hp732⟩ := bind_some' hp727
                   refine r_call1 (c := (cd6 [1, 1, 1, 1, 1, 1, 1, 1, 1, 1, 1, 1, 0, 1, 0, 0, 1, 0, 0, 1, 1, 0, 0])) (i := 21) (d := (some 173)) (g := 11) (args := #[.int .i64 t725]) (by kernel_rfl) (by kernel_rfl) (by kernel_rfl) (by kernel_rfl) (weirlaw10_num.ok t725 hS729 hr731) ?_
                   rintro _ w733 ⟨rfl, hS734⟩
                   refine ⟨.int .i64 t730, rfl, ?_⟩
                   refine sx_split 1 (todo' := [.inRegion (opsOf (cd6 [1, 1, 1, 1, 1, 1, 1, 1, 1, 1, 1, 1, 0, 1, 0, 0, 1, 0, 0, 1, 1, 0, 0])) [23, 24, 25, 26, 27, 28, 29], .code (cd6 [1, 1, 1, 1, 1, 1, 1, 1, 1, 1, 1, 1, 0, 1, 0, 0, 1, 0, 0, 1, 1, 0, 1]), .code (cd6 [1, 1, 1, 1, 1, 1, 1, 1, 1, 1, 1, 1, 0, 1, 0, 0, 1, 0, 0, 1, 1, 1]), .inBlock 3, .code (cd6 [1, 1, 1, 1, 1, 1, 1, 1, 1, 1, 1, 1, 0, 1, 0, 0, 1, 1]), .inLoop (cd6 [1, 1, 1, 1, 1, 1, 1, 1, 1, 1, 1, 1, 0, 1, 0, 0]), .inBlock 2, .code (cd6 [1, 1, 1, 1, 1, 1, 1, 1, 1, 1, 1, 1, 1])]) (us := []) (d := 174) (t := (t730 != 0)) (by kernel_rfl) (fun h735 => ?_) (fun h736 => ?_)
                   ·skip
                    have hp737 := ite_t hp732 h735
                    refine sx_run 3 (todo' := [.inRegion (opsOf (cd6 [1, 1, 1, 1, 1, 1, 1, 1, 1, 1, 1, 1, 0, 1, 0, 0, 1, 0, 0, 1, 1, 0, 0])) [26, 27, 28, 29], .code (cd6 [1, 1, 1, 1, 1, 1, 1, 1, 1, 1, 1, 1, 0, 1, 0, 0, 1, 0, 0, 1, 1, 0, 1]), .code (cd6 [1, 1, 1, 1, 1, 1, 1, 1, 1, 1, 1, 1, 0, 1, 0, 0, 1, 0, 0, 1, 1, 1]), .inBlock 3, .code (cd6 [1, 1, 1, 1, 1, 1, 1, 1, 1, 1, 1, 1, 0, 1, 0, 0, 1, 1]), .inLoop (cd6 [1, 1, 1, 1, 1, 1, 1, 1, 1, 1, 1, 1, 0, 1, 0, 0]), .inBlock 2, .code (cd6 [1, 1, 1, 1, 1, 1, 1, 1, 1, 1, 1, 1, 1])]) (us := [(175, .bool true), (176, .bool t383), (177, .bool t383)]) (by kernel_rfl) ?_
                    cases t383
                    ·skip
                     have hp738 := ite_f hp737 rfl
                     refine sx_run 5 (todo' := [.code (cd6 [1, 1, 1, 1, 1, 1, 1, 1, 1, 1, 1, 1, 0, 1, 0, 0, 1, 0, 0, 1, 1, 0, 1]), .code (cd6 [1, 1, 1, 1, 1, 1, 1, 1, 1, 1, 1, 1, 0, 1, 0, 0, 1, 0, 0, 1, 1, 1]), .inBlock 3, .code (cd6 [1, 1, 1, 1, 1, 1, 1, 1, 1, 1, 1, 1, 0, 1, 0, 0, 1, 1]), .inLoop (cd6 [1, 1, 1, 1, 1, 1, 1, 1, 1, 1, 1, 1, 0, 1, 0, 0]), .inBlock 2, .code (cd6 [1, 1, 1, 1, 1, 1, 1, 1, 1, 1, 1, 1, 1])]) (us := [(178, .bool t400), (179, .bool t400), (180, .bool t400), (181, .bool t400)]) (by kernel_rfl) ?_
                     cases t400
                     ·skip
                      have hp739 := ite_f hp738 rfl
                      refine sx_run 2 (todo' := [.code (cd6 [1, 1, 1, 1, 1, 1, 1, 1, 1, 1, 1, 1, 0, 1, 0, 0, 1, 0, 0, 1, 1, 1]), .inBlock 3, .code (cd6 [1, 1, 1, 1, 1, 1, 1, 1, 1, 1, 1, 1, 0, 1, 0, 0, 1, 1]), .inLoop (cd6 [1, 1, 1, 1, 1, 1, 1, 1, 1, 1, 1, 1, 0, 1, 0, 0]), .inBlock 2, .code (cd6 [1, 1, 1, 1, 1, 1, 1, 1, 1, 1, 1, 1, 1])]) (us := []) (by kernel_rfl) ?_
                      have hS740 := hS734.pick5
                      have hS741 := hS740.pick5
                      have hS742 := hS741.pick5
                      have hS743 := hS742.pick5
                      have hS744 := hS743.pick4
                      have hS745 := hS744.pick5
                      refine Runs.fill (m := [none, none, none, none, none, some (.slice Q17 t16.length Q18), some (.slice Q25 t24.length Q26), none, none, some (.slice Q46 t44.length Q47), none, some (.slice Q67 t65.length Q68), none, some (.slice Q88 t86.length Q89), none, some (.slice A342 ((([] : List api_Final) ++ a0) ++ a1).length c343), some (.int .i64 t363), some (.bool false), some (.bool false), none, none, none, none, none, none, none, none, none, none, none, none, none, none, none, none, none, none, none, none, none, none, none, none, none, none, none, none, none, none, none, none, none, none, none, none, none, none, none, none, none, none, none, none, none, none, none, none, none, none, none, none, none, none, none, none, none, none, none, none, none, none, none, none, none, none, none, none, none, none, none, none, none, none, none, none, none, none, none, none, none, none, none, none, none, none, none, none, none, none, none, none, none, none, none, none, none, none, none, none, none, none, none, none, none, none, none, none, none, none, none, none, none, none, none, none, none, none, none, none, none, none, none, none, none, none, none, none, none, none, none, none, none, none, none, none, none, none, none, none, none, none, none, none, none, none, none, none, none, none, none, none, none, none, none, none, none, none, none, none, none, none, none, none, none, none, none, none, none, none, none, none, none, none, none, none, none, none, none, none, none, none, none, none, none, none, none, none, none, none, none, none, none, none, none, none, none, none, none, none, none, none, none, none, none, none, none, none, none, none, none, none, none, none, none, none, none, none, none, none, none, none, none, none, none, none, none]) (by kernel_rfl) ?_
                      exact J436 false false (Option.some.inj hp739) _ _ hS745
                     ·skip
                      have hp746 := ite_t hp738 rfl
                      refine sx_run 5 (todo' := [.code (cd6 [1, 1, 1, 1, 1, 1, 1, 1, 1, 1, 1, 1, 0, 1, 0, 0, 1, 0, 0, 1, 1, 0, 1, 0, 1]), .code (cd6 [1, 1, 1, 1, 1, 1, 1, 1, 1, 1, 1, 1, 0, 1, 0, 0, 1, 0, 0, 1, 1, 1]), .inBlock 3, .code (cd6 [1, 1, 1, 1, 1, 1, 1, 1, 1, 1, 1, 1, 0, 1, 0, 0, 1, 1]), .inLoop (cd6 [1, 1, 1, 1, 1, 1, 1, 1, 1, 1, 1, 1, 0, 1, 0, 0]), .inBlock 2, .code (cd6 [1, 1, 1, 1, 1, 1, 1, 1, 1, 1, 1, 1, 1])]) (us := [(4, .bool false)]) (by kernel_rfl) ?_
                      have hS747 := hS734.drop
                      have hS748 := hS747.drop
                      have hS749 := hS748.drop
                      have hS750 := hS749.drop
                      have hS751 := hS750.drop
                      have hS752 := hS751.drop
                      refine runs_ret (fn := Tryd.f6) (v := .bool false) Tryd.func6 (by kernel_rfl) ?_
                      have hr753 := (hq373 _ (hq435 _ (Option.some.inj hp746)))
                      cases hr753
                      exact hR _ _ ⟨rfl, hS752⟩
                    ·skip
                     have hp754 := ite_t hp737 rfl
                     refine sx_run 10 (todo' := [.code (cd6 [1, 1, 1, 1, 1, 1, 1, 1, 1, 1, 1, 1, 0, 1, 0, 0, 1, 0, 0, 1, 1, 0, 1, 0, 1]), .code (cd6 [1, 1, 1, 1, 1, 1, 1, 1, 1, 1, 1, 1, 0, 1, 0, 0, 1, 0, 0, 1, 1, 1]), .inBlock 3, .code (cd6 [1, 1, 1, 1, 1, 1, 1, 1, 1, 1, 1, 1, 0, 1, 0, 0, 1, 1]), .inLoop (cd6 [1, 1, 1, 1, 1, 1, 1, 1, 1, 1, 1, 1, 0, 1, 0, 0]), .inBlock 2, .code (cd6 [1, 1, 1, 1, 1, 1, 1, 1, 1, 1, 1, 1, 1])]) (us := [(178, undef), (179, .bool true), (180, .bool true), (181, .bool true), (4, .bool false)]) (by kernel_rfl) ?_
                     have hS755 := hS734.drop
                     have hS756 := hS755.drop
                     have hS757 := hS756.drop
                     have hS758 := hS757.drop
                     have hS759 := hS758.drop
                     have hS760 := hS759.drop
                     refine runs_ret (fn := Tryd.f6) (v := .bool false) Tryd.func6 (by kernel_rfl) ?_
                     have hr761 := (hq373 _ (hq435 _ (Option.some.inj hp754)))
                     cases hr761
                     exact hR _ _ ⟨rfl, hS760⟩
                   ·skip
                    have hp762 := ite_f hp732 h736
                    refine sx_run 10 (todo' := [.code (cd6 [1, 1, 1, 1, 1, 1, 1, 1, 1, 1, 1, 1, 0, 1, 0, 0, 1, 0, 0, 1, 1, 1]), .inBlock 3, .code (cd6 [1, 1, 1, 1, 1, 1, 1, 1, 1, 1, 1, 1, 0, 1, 0, 0, 1, 1]), .inLoop (cd6 [1, 1, 1, 1, 1, 1, 1, 1, 1, 1, 1, 1, 0, 1, 0, 0]), .inBlock 2, .code (cd6 [1, 1, 1, 1, 1, 1, 1, 1, 1, 1, 1, 1, 1])]) (us := [(175, .bool false), (176, undef), (177, undef), (178, undef), (179, undef), (180, .bool false), (181, .bool false)]) (by kernel_rfl) ?_
                    have hS763 := hS734.pick5
                    have hS764 := hS763.pick5
                    have hS765 := hS764.pick5
                    have hS766 := hS765.pick5
                    have hS767 := hS766.pick4
                    have hS768 := hS767.pick5
                    refine Runs.fill (m := [none, none, none, none, none, some (.slice Q17 t16.length Q18), some (.slice Q25 t24.length Q26), none, none, some (.slice Q46 t44.length Q47), none, some (.slice Q67 t65.length Q68), none, some (.slice Q88 t86.length Q89), none, some (.slice A342 ((([] : List api_Final) ++ a0) ++ a1).length c343), some (.int .i64 t363), some (.bool t383), some (.bool t400), none, none, none, none, none, none, none, none, none, none, none, none, none, none, none, none, none, none, none, none, none, none, none, none, none, none, none, none, none, none, none, none, none, none, none, none, none, none, none, none, none, none, none, none, none, none, none, none, none, none, none, none, none, none, none, none, none, none, none, none, none, none, none, none, none, none, none, none, none, none, none, none, none, none, none, none, none, none, none, none, none, none, none, none, none, none, none, none, none, none, none, none, none, none, none, none, none, none, none, none, none, none, none, none, none, none, none, none, none, none, none, none, none, none, none, none, none, none, none, none, none, none, none, none, none, none, none, none, none, none, none, none, none, none, none, none, none, none, none, none, none, none, none, none, none, none, none, none, none, none, none, none, none, none, none, none, none, none, none, none, none, none, none, none, none, none, none, none, none, none, none, none, none, none, none, none, none, none, none, none, none, none, none, none, none, none, none, none, none, none, none, none, none, none, none, none, none, none, none, none, none, none, none, none, none, none, none, none, none, none, none, none, none, none, none, none, none, none, none, none, none, none, none, none, none, none, none]) (by kernel_rfl) ?_
                    exact J436 t383 t400 (Option.some.inj hp762) _ _ hS768
                 ·skip
                  have hp769 := ite_f hp704 h706
                  refine sx_run 8 (todo' := [.inRegion (opsOf (cd6 [1, 1, 1, 1, 1, 1, 1, 1, 1, 1, 1, 1, 0, 1, 0, 0, 1, 0, 0, 1, 1, 0, 0])) [18, 19, 20, 21, 22, 23, 24, 25, 26, 27, 28, 29], .code (cd6 [1, 1, 1, 1, 1, 1, 1, 1, 1, 1, 1, 1, 0, 1, 0, 0, 1, 0, 0, 1, 1, 0, 1]), .code (cd6 [1, 1, 1, 1, 1, 1, 1, 1, 1, 1, 1, 1, 0, 1, 0, 0, 1, 0, 0, 1, 1, 1]), .inBlock 3, .code (cd6 [1, 1, 1, 1, 1, 1, 1, 1, 1, 1, 1, 1, 0, 1, 0, 0, 1, 1]), .inLoop (cd6 [1, 1, 1, 1, 1, 1, 1, 1, 1, 1, 1, 1, 0, 1, 0, 0]), .inBlock 2, .code (cd6 [1, 1, 1, 1, 1, 1, 1, 1, 1, 1, 1, 1, 1])]) (us := [(162, .bool false), (163, .bool false), (164, undef), (165, undef), (166, .bool false), (167, .bool false), (168, .slice A342 ((([] : List api_Final) ++ a0) ++ a1).length c343), (169, .int .i64 t363)]) (by kernel_rfl) ?_
                  obtain ⟨g770, hp771⟩ := ite_some hp769
                  obtain ⟨b772, p773, hA774, -⟩ := (hS427.row 5 rfl).at_ len_api_Final (by omega) g770.1 g770.2
                  refine r_indexAddr (c := (cd6 [1, 1, 1, 1, 1, 1, 1, 1, 1, 1, 1, 1, 0, 1, 0, 0, 1, 0, 0, 1, 1, 0, 0])) (i := 18) (d := (some 170)) (ty := 0) (t := 28) (e := 24) (n := ((([] : List api_Final) ++ a0) ++ a1).length) (cp := c343) (sz := 49) (kk := .i64) (x := (.tmp 168)) (y := (.tmp 169)) (b := b772) (o' := p773) (j := t363) (by kernel_rfl) (by kernel_rfl) (slv (by kernel_rfl) hA774) (by kernel_rfl) (by kernel_rfl) (by kernel_rfl) g770.1 g770.2 ?_
                  refine r_load (c := (cd6 [1, 1, 1, 1, 1, 1, 1, 1, 1, 1, 1, 1, 0, 1, 0, 0, 1, 0, 0, 1, 1, 0, 0])) (i := 19) (d := (some 171)) (ty := 24) (t := 24) (x := (.tmp 170)) (p := ⟨b772, p773 + t363.toNat * 49, none⟩) (v := .agg (enc_api_Final (gt ((([] : List api_Final) ++ a0) ++ a1) t363)).toArray) (by kernel_rfl) (by kernel_rfl) (by kernel_rfl) (loads_agg ((hS427.row 5 rfl).at2 hA774 len_api_Final (by omega) g770.1 g770.2) (by kernel_rfl) (lenK (len_api_Final _) (by kernel_rfl))) ?_
                  obtain ⟨t776, hr777, hp778⟩ := bind_some' hp771
                  refine r_call1 (c := (cd6 [1, 1, 1, 1, 1, 1, 1, 1, 1, 1, 1, 1, 0, 1, 0, 0, 1, 0, 0, 1, 1, 0, 0])) (i := 20) (d := (some 172)) (g := 16) (args := #[.agg (enc_api_Final (gt ((([] : List api_Final) ++ a0) ++ a1) t363)).toArray]) (by kernel_rfl) (by kernel_rfl) (by kernel_rfl) (by kernel_rfl) (state_Check.ok (gt ((([] : List api_Final) ++ a0) ++ a1) t363) hS427 hr777) ?_
                  rintro _ w779 ⟨rfl, hS780⟩
                  refine ⟨.int .i64 t776, rfl, ?_⟩
                  obtain ⟨t781, hr782, hp783⟩ := bind_some' hp778
                  refine r_call1 (c := (cd6 [1, 1, 1, 1, 1, 1, 1, 1, 1, 1, 1, 1, 0, 1, 0, 0, 1, 0, 0, 1, 1, 0, 0])) (i := 21) (d := (some 173)) (g := 11) (args := #[.int .i64 t776]) (by kernel_rfl) (by kernel_rfl) (by kernel_rfl) (by kernel_rfl) (weirlaw10_num.ok t776 hS780 hr782) ?_
                  rintro _ w784 ⟨rfl, hS785⟩
                  refine ⟨.int .i64 t781, rfl, ?_⟩
                  refine sx_split 1 (todo' := [.inRegion (opsOf (cd6 [1, 1, 1, 1, 1, 1, 1, 1, 1, 1, 1, 1, 0, 1, 0, 0, 1, 0, 0, 1, 1, 0, 0])) [23, 24, 25, 26, 27, 28, 29], .code (cd6 [1, 1, 1, 1, 1, 1, 1, 1, 1, 1, 1, 1, 0, 1, 0, 0, 1, 0, 0, 1, 1, 0, 1]), .code (cd6 [1, 1, 1, 1, 1, 1, 1, 1, 1, 1, 1, 1, 0, 1, 0, 0, 1, 0, 0, 1, 1, 1]), .inBlock 3, .code (cd6 [1, 1, 1, 1, 1, 1, 1, 1, 1, 1, 1, 1, 0, 1, 0, 0, 1, 1]), .inLoop (cd6 [1, 1, 1, 1, 1, 1, 1, 1, 1, 1, 1, 1, 0, 1, 0, 0]), .inBlock 2, .code (cd6 [1, 1, 1, 1, 1, 1, 1, 1, 1, 1, 1, 1, 1])]) (us := []) (d := 174) (t := (t781 != 0)) (by kernel_rfl) (fun h786 => ?_) (fun h787 => ?_)
                  ·skip
                   have hp788 := ite_t hp783 h786
                   refine sx_run 3 (todo' := [.inRegion (opsOf (cd6 [1, 1, 1, 1, 1, 1, 1, 1, 1, 1, 1, 1, 0, 1, 0, 0, 1, 0, 0, 1, 1, 0, 0])) [26, 27, 28, 29], .code (cd6 [1, 1, 1, 1, 1, 1, 1, 1, 1, 1, 1, 1, 0, 1, 0, 0, 1, 0, 0, 1, 1, 0, 1]), .code (cd6 [1, 1, 1, 1, 1, 1, 1, 1, 1, 1, 1, 1, 0, 1, 0, 0, 1, 0, 0, 1, 1, 1]), .inBlock 3, .code (cd6 [1, 1, 1, 1, 1, 1, 1, 1, 1, 1, 1, 1, 0, 1, 0, 0, 1, 1]), .inLoop (cd6 [1, 1, 1, 1, 1, 1, 1, 1, 1, 1, 1, 1, 0, 1, 0, 0]), .inBlock 2, .code (cd6 [1, 1, 1, 1, 1, 1, 1, 1, 1, 1, 1, 1, 1])]) (us := [(175, .bool true), (176, .bool t383), (177, .bool t383)]) (by kernel_rfl) ?_
                   cases t383
                   ·skip
                    have hp789 := ite_f hp788 rfl
                    refine sx_run 5 (todo' := [.code (cd6 [1, 1, 1, 1, 1, 1, 1, 1, 1, 1, 1, 1, 0, 1, 0, 0, 1, 0, 0, 1, 1, 0, 1]), .code (cd6 [1, 1, 1, 1, 1, 1, 1, 1, 1, 1, 1, 1, 0, 1, 0, 0, 1, 0, 0, 1, 1, 1]), .inBlock 3, .code (cd6 [1, 1, 1, 1, 1, 1, 1, 1, 1, 1, 1, 1, 0, 1, 0, 0, 1, 1]), .inLoop (cd6 [1, 1, 1, 1, 1, 1, 1, 1, 1, 1, 1, 1, 0, 1, 0, 0]), .inBlock 2, .code (cd6 [1, 1, 1, 1, 1, 1, 1, 1, 1, 1, 1, 1, 1])]) (us := [(178, .bool t400), (179, .bool t400), (180, .bool t400), (181, .bool t400)]) (by kernel_rfl) ?_
                    cases t400
                    ·skip
                     have hp790 := ite_f hp789 rfl
                     refine sx_run 2 (todo' := [.code (cd6 [1, 1, 1, 1, 1, 1, 1, 1, 1, 1, 1, 1, 0, 1, 0, 0, 1, 0, 0, 1, 1, 1]), .inBlock 3, .code (cd6 [1, 1, 1, 1, 1, 1, 1, 1, 1, 1, 1, 1, 0, 1, 0, 0, 1, 1]), .inLoop (cd6 [1, 1, 1, 1, 1, 1, 1, 1, 1, 1, 1, 1, 0, 1, 0, 0]), .inBlock 2, .code (cd6 [1, 1, 1, 1, 1, 1, 1, 1, 1, 1, 1, 1, 1])]) (us := []) (by kernel_rfl) ?_
                     have hS791 := hS785.pick5
                     have hS792 := hS791.pick5
                     have hS793 := hS792.pick5
                     have hS794 := hS793.pick5
                     have hS795 := hS794.pick4
                     have hS796 := hS795.pick5
                     refine Runs.fill (m := [none, none, none, none, none, some (.slice Q17 t16.length Q18), some (.slice Q25 t24.length Q26), none, none, some (.slice Q46 t44.length Q47), none, some (.slice Q67 t65.length Q68), none, some (.slice Q88 t86.length Q89), none, some (.slice A342 ((([] : List api_Final) ++ a0) ++ a1).length c343), some (.int .i64 t363), some (.bool false), some (.bool false), none, none, none, none, none, none, none, none, none, none, none, none, none, none, none, none, none, none, none, none, none, none, none, none, none, none, none, none, none, none, none, none, none, none, none, none, none, none, none, none, none, none, none, none, none, none, none, none, none, none, none, none, none, none, none, none, none, none, none, none, none, none, none, none, none, none, none, none, none, none, none, none, none, none, none, none, none, none, none, none, none, none, none, none, none, none, none, none, none, none, none, none, none, none, none, none, none, none, none, none, none, none, none, none, none, none, none, none, none, none, none, none, none, none, none, none, none, none, none, none, none, none, none, none, none, none, none, none, none, none, none, none, none, none, none, none, none, none, none, none, none, none, none, none, none, none, none, none, none, none, none, none, none, none, none, none, none, none, none, none, none, none, none, none, none, none, none, none, none, none, none, none, none, none, none, none, none, none, none, none, none, none, none, none, none, none, none, none, none, none, none, none, none, none, none, none, none, none, none, none, none, none, none, none, none, none, none, none, none, none, none, none, none, none, none, none, none, none, none, none, none, none, none, none, none, none, none]) (by kernel_rfl) ?_
                     exact J436 false false (Option.some.inj hp790) _ _ hS796
                    ·skip
                     have hp797 := ite_t hp789 rfl
                     refine sx_run 5 (todo' := [.code (cd6 [1, 1, 1, 1, 1, 1, 1, 1, 1, 1, 1, 1, 0, 1, 0, 0, 1, 0, 0, 1, 1, 0, 1, 0, 1]), .code (cd6 [1, 1, 1, 1, 1, 1, 1, 1, 1, 1, 1, 1, 0, 1, 0, 0, 1, 0, 0, 1, 1, 1]), .inBlock 3, .code (cd6 [1, 1, 1, 1, 1, 1, 1, 1, 1, 1, 1, 1, 0, 1, 0, 0, 1, 1]), .inLoop (cd6 [1, 1, 1, 1, 1, 1, 1, 1, 1, 1, 1, 1, 0, 1, 0, 0]), .inBlock 2, .code (cd6 [1, 1, 1, 1, 1, 1, 1, 1, 1, 1, 1, 1, 1])]) (us := [(4, .bool false)]) (by kernel_rfl) ?_
                     have hS798 := hS785.drop
                     have hS799 := hS798.drop
                     have hS800 := hS799.drop
                     have hS801 := hS800.drop
                     have hS802 := hS801.drop
                     have hS803 := hS802.drop
                     refine runs_ret (fn := Tryd.f6) (v := .bool false) Tryd.func6 (by kernel_rfl) ?_
                     have hr804 := (hq373 _ (hq435 _ (Option.some.inj hp797)))
                     cases hr804
                     exact hR _ _ ⟨rfl, hS803⟩
                   ·skip
                    have hp805 := ite_t hp788 rfl
                    refine sx_run 10 (todo' := [.code (cd6 [1, 1, 1, 1, 1, 1, 1, 1, 1, 1, 1, 1, 0, 1, 0, 0, 1, 0, 0, 1, 1, 0, 1, 0, 1]), .code (cd6 [1, 1, 1, 1, 1, 1, 1, 1, 1, 1, 1, 1, 0, 1, 0, 0, 1, 0, 0, 1, 1, 1]), .inBlock 3, .code (cd6 [1, 1, 1, 1, 1, 1, 1, 1, 1, 1, 1, 1, 0, 1, 0, 0, 1, 1]), .inLoop (cd6 [1, 1, 1, 1, 1, 1, 1, 1, 1, 1, 1, 1, 0, 1, 0, 0]), .inBlock 2, .code (cd6 [1, 1, 1, 1, 1, 1, 1, 1, 1, 1, 1, 1, 1])]) (us := [(178, undef), (179, .bool true), (180, .bool true), (181, .bool true), (4, .bool false)]) (by kernel_rfl) ?_
                    have hS806 := hS785.drop
                    have hS807 := hS806.drop
                    have hS808 := hS807.drop
                    have hS809 := hS808.drop
                    have hS810 := hS809.drop
                    have hS811 := hS810.drop
                    refine runs_ret (fn := Tryd.f6) (v := .bool false) Tryd.func6 (by kernel_rfl) ?_
                    have hr812 := (hq373 _ (hq435 _ (Option.some.inj hp805)))
                    cases hr812
                    exact hR _ _ ⟨rfl, hS811⟩
                  ·skip
                   have hp813 := ite_f hp783 h787
                   refine sx_run 10 (todo' := [.code (cd6 [1, 1, 1, 1, 1, 1, 1, 1, 1, 1, 1, 1, 0, 1, 0, 0, 1, 0, 0, 1, 1, 1]), .inBlock 3, .code (cd6 [1, 1, 1, 1, 1, 1, 1, 1, 1, 1, 1, 1, 0, 1, 0, 0, 1, 1]), .inLoop (cd6 [1, 1, 1, 1, 1, 1, 1, 1, 1, 1, 1, 1, 0, 1, 0, 0]), .inBlock 2, .code (cd6 [1, 1, 1, 1, 1, 1, 1, 1, 1, 1, 1, 1, 1])]) (us := [(175, .bool false), (176, undef), (177, undef), (178, undef), (179, undef), (180, .bool false), (181, .bool false)]) (by kernel_rfl) ?_
                   have hS814 := hS785.pick5
                   have hS815 := hS814.pick5
                   have hS816 := hS815.pick5
                   have hS817 := hS816.pick5
                   have hS818 := hS817.pick4
                   have hS819 := hS818.pick5
                   refine Runs.fill (m := [none, none, none, none, none, some (.slice Q17 t16.length Q18), some (.slice Q25 t24.length Q26), none, none, some (.slice Q46 t44.length Q47), none, some (.slice Q67 t65.length Q68), none, some (.slice Q88 t86.length Q89), none, some (.slice A342 ((([] : List api_Final) ++ a0) ++ a1).length c343), some (.int .i64 t363), some (.bool t383), some (.bool t400), none, none, none, none, none, none, none, none, none, none, none, none, none, none, none, none, none, none, none, none, none, none, none, none, none, none, none, none, none, none, none, none, none, none, none, none, none, none, none, none, none, none, none, none, none, none, none, none, none, none, none, none, none, none, none, none, none, none, none, none, none, none, none, none, none, none, none, none, none, none, none, none, none, none, none, none, none, none, none, none, none, none, none, none, none, none, none, none, none, none, none, none, none, none, none, none, none, none, none, none, none, none, none, none, none, none, none, none, none, none, none, none, none, none, none, none, none, none, none, none, none, none, none, none, none, none, none, none, none, none, none, none, none, none, none, none, none, none, none, none, none, none, none, none, none, none, none, none, none, none, none, none, none, none, none, none, none, none, none, none, none, none, none, none, none, none, none, none, none, none, none, none, none, none, none, none, none, none, none, none, none, none, none, none, none, none, none, none, none, none, none, none, none, none, none, none, none, none, none, none, none, none, none, none, none, none, none, none, none, none, none, none, none, none, none, none, none, none, none, none, none, none, none, none, none, none, none]) (by kernel_rfl) ?_
                   exact J436 t383 t400 (Option.some.inj hp813) _ _ hS819
                ·skip
                 have hp820 := ite_f hv429 h703
                 refine sx_run 11 (todo' := [.inRegion (opsOf (cd6 [1, 1, 1, 1, 1, 1, 1, 1, 1, 1, 1, 1, 0, 1, 0, 0, 1, 0, 0, 1, 1, 0, 0])) [18, 19, 20, 21, 22, 23, 24, 25, 26, 27, 28, 29], .code (cd6 [1, 1, 1, 1, 1, 1, 1, 1, 1, 1, 1, 1, 0, 1, 0, 0, 1, 0, 0, 1, 1, 0, 1]), .code (cd6 [1, 1, 1, 1, 1, 1, 1, 1, 1, 1, 1, 1, 0, 1, 0, 0, 1, 0, 0, 1, 1, 1]), .inBlock 3, .code (cd6 [1, 1, 1, 1, 1, 1, 1, 1, 1, 1, 1, 1, 0, 1, 0, 0, 1, 1]), .inLoop (cd6 [1, 1, 1, 1, 1, 1, 1, 1, 1, 1, 1, 1, 0, 1, 0, 0]), .inBlock 2, .code (cd6 [1, 1, 1, 1, 1, 1, 1, 1, 1, 1, 1, 1, 1])]) (us := [(159, .bool false), (160, undef), (161, undef), (162, .bool false), (163, .bool false), (164, undef), (165, undef), (166, .bool false), (167, .bool false), (168, .slice A342 ((([] : List api_Final) ++ a0) ++ a1).length c343), (169, .int .i64 t363)]) (by kernel_rfl) ?_
                 obtain ⟨g821, hp822⟩ := ite_some hp820
                 obtain ⟨b823, p824, hA825, -⟩ := (hS427.row 5 rfl).at_ len_api_Final (by omega) g821.1 g821.2
                 refine r_indexAddr (c := (cd6 [1, 1, 1, 1, 1, 1, 1, 1, 1, 1, 1, 1, 0, 1, 0, 0, 1, 0, 0, 1, 1, 0, 0])) (i := 18) (d := (some 170)) (ty := 0) (t := 28) (e := 24) (n := ((([] : List api_Final) ++ a0) ++ a1).length) (cp := c343) (sz := 49) (kk := .i64) (x := (.tmp 168)) (y := (.tmp 169)) (b := b823) (o' := p824) (j := t363) (by kernel_rfl) (by kernel_rfl) (slv (by kernel_rfl) hA825) (by kernel_rfl) (by kernel_rfl) (by kernel_rfl) g821.1 g821.2 ?_
                 refine r_load (c := (cd6 [1, 1, 1, 1, 1, 1, 1, 1, 1, 1, 1, 1, 0, 1, 0, 0, 1, 0, 0, 1, 1, 0, 0])) (i := 19) (d := (some 171)) (ty := 24) (t := 24) (x := (.tmp 170)) (p := ⟨b823, p824 + t363.toNat * 49, none⟩) (v := .agg (enc_api_Final (gt ((([] : List api_Final) ++ a0) ++ a1) t363)).toArray) (by kernel_rfl) (by kernel_rfl) (by kernel_rfl) (loads_agg ((hS427.row 5 rfl).at2 hA825 len_api_Final (by omega) g821.1 g821.2) (by kernel_rfl) (lenK (len_api_Final _) (by kernel_rfl))) ?_
                 obtain ⟨t827, hr828, hp829⟩ := bind_some' hp822
                 refine r_call1 (c := (cd6 [1, 1, 1, 1, 1, 1, 1, 1, 1, 1, 1, 1, 0, 1, 0, 0, 1, 0, 0, 1, 1, 0, 0])) (i := 20) (d := (some 172)) (g := 16) (args := #[.agg (enc_api_Final (gt ((([] : List api_Final) ++ a0) ++ a1) t363)).toArray]) (by kernel_rfl) (by kernel_rfl) (by kernel_rfl) (by kernel_rfl) (state_Check.ok (gt ((([] : List api_Final) ++ a0) ++ a1) t363) hS427 hr828) ?_
                 rintro _ w830 ⟨rfl, hS831⟩
                 refine ⟨.int .i64 t827, rfl, ?_⟩
                 obtain ⟨t832, hr833, hp834⟩ := bind_some' hp829
                 refine r_call1 (c := (cd6 [1, 1, 1, 1, 1, 1, 1, 1, 1, 1, 1, 1, 0, 1, 0, 0, 1, 0, 0, 1, 1, 0, 0])) (i := 21) (d := (some 173)) (g := 11) (args := #[.int .i64 t827]) (by kernel_rfl) (by kernel_rfl) (by kernel_rfl) (by kernel_rfl) (weirlaw10_num.ok t827 hS831 hr833) ?_
                 rintro _ w835 ⟨rfl, hS836⟩
                 refine ⟨.int .i64 t832, rfl, ?_⟩
                 refine sx_split 1 (todo' := [.inRegion (opsOf (cd6 [1, 1, 1, 1, 1, 1, 1, 1, 1, 1, 1, 1, 0, 1, 0, 0, 1, 0, 0, 1, 1, 0, 0])) [23, 24, 25, 26, 27, 28, 29], .code (cd6 [1, 1, 1, 1, 1, 1, 1, 1, 1, 1, 1, 1, 0, 1, 0, 0, 1, 0, 0, 1, 1, 0, 1]), .code (cd6 [1, 1, 1, 1, 1, 1, 1, 1, 1, 1, 1, 1, 0, 1, 0, 0, 1, 0, 0, 1, 1, 1]), .inBlock 3, .code (cd6 [1, 1, 1, 1, 1, 1, 1, 1, 1, 1, 1, 1, 0, 1, 0, 0, 1, 1]), .inLoop (cd6 [1, 1, 1, 1, 1, 1, 1, 1, 1, 1, 1, 1, 0, 1, 0, 0]), .inBlock 2, .code (cd6 [1, 1, 1, 1, 1, 1, 1, 1, 1, 1, 1, 1, 1])]) (us := []) (d := 174) (t := (t832 != 0)) (by kernel_rfl) (fun h837 => ?_) (fun h838 => ?_)
                 ·skip
                  have hp839 := ite_t hp834 h837
                  refine sx_run 3 (todo' := [.inRegion (opsOf (cd6 [1, 1, 1, 1, 1, 1, 1, 1, 1, 1, 1, 1, 0, 1, 0, 0, 1, 0, 0, 1, 1, 0, 0])) [26, 27, 28, 29], .code (cd6 [1, 1, 1, 1, 1, 1, 1, 1, 1, 1, 1, 1, 0, 1, 0, 0, 1, 0, 0, 1, 1, 0, 1]), .code (cd6 [1, 1, 1, 1, 1, 1, 1, 1, 1, 1, 1, 1, 0, 1, 0, 0, 1, 0, 0, 1, 1, 1]), .inBlock 3, .code (cd6 [1, 1, 1, 1, 1, 1, 1, 1, 1, 1, 1, 1, 0, 1, 0, 0, 1, 1]), .inLoop (cd6 [1, 1, 1, 1, 1, 1, 1, 1, 1, 1, 1, 1, 0, 1, 0, 0]), .inBlock 2, .code (cd6 [1, 1, 1, 1, 1, 1, 1, 1, 1, 1, 1, 1, 1])]) (us := [(175, .bool true), (176, .bool t383), (177, .bool t383)]) (by kernel_rfl) ?_
                  cases t383
                  ·skip
                   have hp840 := ite_f hp839 rfl
                   refine sx_run 5 (todo' := [.code (cd6 [1, 1, 1, 1, 1, 1, 1, 1, 1, 1, 1, 1, 0, 1, 0, 0, 1, 0, 0, 1, 1, 0, 1]), .code (cd6 [1, 1, 1, 1, 1, 1, 1, 1, 1, 1, 1, 1, 0, 1, 0, 0, 1, 0, 0, 1, 1, 1]), .inBlock 3, .code (cd6 [1, 1, 1, 1, 1, 1, 1, 1, 1, 1, 1, 1, 0, 1, 0, 0, 1, 1]), .inLoop (cd6 [1, 1, 1, 1, 1, 1, 1, 1, 1, 1, 1, 1, 0, 1, 0, 0]), .inBlock 2, .code (cd6 [1, 1, 1, 1, 1, 1, 1, 1, 1, 1, 1, 1, 1])]) (us := [(178, .bool t400), (179, .bool t400), (180, .bool t400), (181, .bool t400)]) (by kernel_rfl) ?_
                   cases t400
                   ·skip
                    have hp841 := ite_f hp840 rfl
                    refine sx_run 2 (todo' := [.code (cd6 [1, 1, 1, 1, 1, 1, 1, 1, 1, 1, 1, 1, 0, 1, 0, 0, 1, 0, 0, 1, 1, 1]), .inBlock 3, .code (cd6 [1, 1, 1, 1, 1, 1, 1, 1, 1, 1, 1, 1, 0, 1, 0, 0, 1, 1]), .inLoop (cd6 [1, 1, 1, 1, 1, 1, 1, 1, 1, 1, 1, 1, 0, 1, 0, 0]), .inBlock 2, .code (cd6 [1, 1, 1, 1, 1, 1, 1, 1, 1, 1, 1, 1, 1])]) (us := []) (by kernel_rfl) ?_
                    have hS842 := hS836.pick5
                    have hS843 := hS842.pick5
                    have hS844 := hS843.pick5
                    have hS845 := hS844.pick5
                    have hS846 := hS845.pick4
                    have hS847 := hS846.pick5
                    refine Runs.fill (m := [none, none, none, none, none, some (.slice Q17 t16.length Q18), some (.slice Q25 t24.length Q26), none, none, some (.slice Q46 t44.length Q47), none, some (.slice Q67 t65.length Q68), none, some (.slice Q88 t86.length Q89), none, some (.slice A342 ((([] : List api_Final) ++ a0) ++ a1).length c343), some (.int .i64 t363), some (.bool false), some (.bool false), none, none, none, none, none, none, none, none, none, none, none, none, none, none, none, none, none, none, none, none, none, none, none, none, none, none, none, none, none, none, none, none, none, none, none, none, none, none, none, none, none, none, none, none, none, none, none, none, none, none, none, none, none, none, none, none, none, none, none, none, none, none, none, none, none, none, none, none, none, none, none, none, none, none, none, none, none, none, none, none, none, none, none, none, none, none, none, none, none, none, none, none, none, none, none, none, none, none, none, none, none, none, none, none, none, none, none, none, none, none, none, none, none, none, none, none, none, none, none, none, none, none, none, none, none, none, none, none, none, none, none, none, none, none, none, none, none, none, none, none, none, none, none, none, none, none, none, none, none, none, none, none, none, none, none, none, none, none, none, none, none, none, none, none, none, none, none, none, none, none, none, none, none, none, none, none, none, none, none, none, none, none, none, none, none, none, none, none, none, none, none, none, none, none, none, none, none, none, none, none, none, none, none, none, none, none, none, none, none, none, none, none, none, none, none, none, none, none, none, none, none, none, none, none, none, none, none]) (by kernel_rfl) ?_
                    exact J436 false false (Option.some.inj hp841) _ _ hS847
                   ·skip
                    have hp848 := ite_t hp840 rfl
                    refine sx_run 5 (todo' := [.code (cd6 [1, 1, 1, 1, 1, 1, 1, 1, 1, 1, 1, 1, 0, 1, 0, 0, 1, 0, 0, 1, 1, 0, 1, 0, 1]), .code (cd6 [1, 1, 1, 1, 1, 1, 1, 1, 1, 1, 1, 1, 0, 1, 0, 0, 1, 0, 0, 1, 1, 1]), .inBlock 3, .code (cd6 [1, 1, 1, 1, 1, 1, 1, 1, 1, 1, 1, 1, 0, 1, 0, 0, 1, 1]), .inLoop (cd6 [1, 1, 1, 1, 1, 1, 1, 1, 1, 1, 1, 1, 0, 1, 0, 0]), .inBlock 2, .code (cd6 [1, 1, 1, 1, 1, 1, 1, 1, 1, 1, 1, 1, 1])]) (us := [(4, .bool false)]) (by kernel_rfl) ?_
                    have hS849 := hS836.drop
                    have hS850 := hS849.drop
                    have hS851 := hS850.drop
                    have hS852 := hS851.drop
                    have hS853 := hS852.drop
                    have hS854 := hS853.drop
                    refine runs_ret (fn := Tryd.f6) (v := .bool false) Tryd.func6 (by kernel_rfl) ?_
                    have hr855 := (hq373 _ (hq435 _ (Option.some.inj hp848)))
                    cases hr855
                    exact hR _ _ ⟨rfl, hS854⟩
                  ·skip
                   have hp856 := ite_t hp839 rfl
                   refine sx_run 10 (todo' := [.code (cd6 [1, 1, 1, 1, 1, 1, 1, 1, 1, 1, 1, 1, 0, 1, 0, 0, 1, 0, 0, 1, 1, 0, 1, 0, 1]), .code (cd6 [1, 1, 1, 1, 1, 1, 1, 1, 1, 1, 1, 1, 0, 1, 0, 0, 1, 0, 0, 1, 1, 1]), .inBlock 3, .code (cd6 [1, 1, 1, 1, 1, 1, 1, 1, 1, 1, 1, 1, 0, 1, 0, 0, 1, 1]), .inLoop (cd6 [1, 1, 1, 1, 1, 1, 1, 1, 1, 1, 1, 1, 0, 1, 0, 0]), .inBlock 2, .code (cd6 [1, 1, 1, 1, 1, 1, 1, 1, 1, 1, 1, 1, 1])]) (us := [(178, undef), (179, .bool true), (180, .bool true), (181, .bool true), (4, .bool false)]) (by kernel_rfl) ?_
                   have hS857 := hS836.drop
                   have hS858 := hS857.drop
                   have hS859 := hS858.drop
                   have hS860 := hS859.drop
                   have hS861 := hS860.drop
                   have hS862 := hS861.drop
                   refine runs_ret (fn := Tryd.f6) (v := .bool false) Tryd.func6 (by kernel_rfl) ?_
                   have hr863 := (hq373 _ (hq435 _ (Option.some.inj hp856)))
                   cases hr863
                   exact hR _ _ ⟨rfl, hS862⟩
                 ·skip
                  have hp864 := ite_f hp834 h838
                  refine sx_run 10 (todo' := [.code (cd6 [1, 1, 1, 1, 1, 1, 1, 1, 1, 1, 1, 1, 0, 1, 0, 0, 1, 0, 0, 1, 1, 1]), .inBlock 3, .code (cd6 [1, 1, 1, 1, 1, 1, 1, 1, 1, 1, 1, 1, 0, 1, 0, 0, 1, 1]), .inLoop (cd6 [1, 1, 1, 1, 1, 1, 1, 1, 1, 1, 1, 1, 0, 1, 0, 0]), .inBlock 2, .code (cd6 [1, 1, 1, 1, 1, 1, 1, 1, 1, 1, 1, 1, 1])]) (us := [(175, .bool false), (176, undef), (177, undef), (178, undef), (179, undef), (180, .bool false), (181, .bool false)]) (by kernel_rfl) ?_
                  have hS865 := hS836.pick5
                  have hS866 := hS865.pick5
                  have hS867 := hS866.pick5
                  have hS868 := hS867.pick5
                  have hS869 := hS868.pick4
                  have hS870 := hS869.pick5
                  refine Runs.fill (m := [none, none, none, none, none, some (.slice Q17 t16.length Q18), some (.slice Q25 t24.length Q26), none, none, some (.slice Q46 t44.length Q47), none, some (.slice Q67 t65.length Q68), none, some (.slice Q88 t86.length Q89), none, some (.slice A342 ((([] : List api_Final) ++ a0) ++ a1).length c343), some (.int .i64 t363), some (.bool t383), some (.bool t400), none, none, none, none, none, none, none, none, none, none, none, none, none, none, none, none, none, none, none, none, none, none, none, none, none, none, none, none, none, none, none, none, none, none, none, none, none, none, none, none, none, none, none, none, none, none, none, none, none, none, none, none, none, none, none, none, none, none, none, none, none, none, none, none, none, none, none, none, none, none, none, none, none, none, none, none, none, none, none, none, none, none, none, none, none, none, none, none, none, none, none, none, none, none, none, none, none, none, none, none, none, none, none, none, none, none, none, none, none, none, none, none, none, none, none, none, none, none, none, none, none, none, none, none, none, none, none, none, none, none, none, none, none, none, none, none, none, none, none, none, none, none, none, none, none, none, none, none, none, none, none, none, none, none, none, none, none, none, none, none, none, none, none, none, none, none, none, none, none, none, none, none, none, none, none, none, none, none, none, none, none, none, none, none, none, none, none, none, none, none, none, none, none, none, none, none, none, none, none, none, none, none, none, none, none, none, none, none, none, none, none, none, none, none, none, none, none, none, none, none, none, none, none, none, none, none, none]) (by kernel_rfl) ?_
                  exact J436 t383 t400 (Option.some.inj hp864) _ _ hS870
               ·skip
                have hp871 := ite_f hb369 h375
                refine sx_run 3 (todo' := [.code (cd6 [1, 1, 1, 1, 1, 1, 1, 1, 1, 1, 1, 1, 1])]) (us := []) (by kernel_rfl) ?_
                have hS872 := hS365.drop
                have hS873 := hS872.drop
                have hS874 := hS873.drop
                have hS875 := hS874.drop
                have hS876 := hS875.drop
                have hS877 := hS876.drop
                refine Runs.fill (m := [none, none, none, none, none, none, none, none, none, none, none, none, none, none, none, none, none, none, none, none, none, none, none, none, none, none, none, none, none, none, none, none, none, none, none, none, none, none, none, none, none, none, none, none, none, none, none, none, none, none, none, none, none, none, none, none, none, none, none, none, none, none, none, none, none, none, none, none, none, none, none, none, none, none, none, none, none, none, none, none, none, none, none, none, none, none, none, none, none, none, none, none, none, none, none, none, none, none, none, none, none, none, none, none, none, none, none, none, none, none, none, none, none, none, none, none, none, none, none, none, none, none, none, none, none, none, none, none, none, none, none, none, none, none, none, none, none, none, none, none, none, none, none, none, none, none, none, none, none, none, none, none, none, none, none, none, none, none, none, none, none, none, none, none, none, none, none, none, none, none, none, none, none, none, none, none, none, none, none, none, none, none, none, none, none, none, none, none, none, none, none, none, none, none, none, none, none, none, none, none, none, none, none, none, none, none, none, none, none, none, none, none, none, none, none, none, none, none, none, none, none, none, none, none, none, none, none, none, none, none, none, none, none, none, none, none, none, none, none, none, none, none, none, none, none, none]) (by kernel_rfl) ?_
                exact J359 ((Option.some.inj hp871).trans he368) _ _ hS877
              have hS878 := hS352.pick4
              have hS879 := hS878.pick5
              have hS880 := hS879.pick3
              have hS881 := hS880.pick5
              have hS882 := hS881.pick5
              refine Runs.fill (m := [none, none, none, none, none, some (.slice Q17 t16.length Q18), some (.slice Q25 t24.length Q26), none, none, some (.slice Q46 t44.length Q47), none, some (.slice Q67 t65.length Q68), none, some (.slice Q88 t86.length Q89), none, some (.slice A342 ((([] : List api_Final) ++ a0) ++ a1).length c343), some (.int .i64 0), none, none, none, none, none, none, none, none, none, none, none, none, none, none, none, none, none, none, none, none, none, none, none, none, none, none, none, none, none, none, none, none, none, none, none, none, none, none, none, none, none, none, none, none, none, none, none, none, none, none, none, none, none, none, none, none, none, none, none, none, none, none, none, none, none, none, none, none, none, none, none, none, none, none, none, none, none, none, none, none, none, none, none, none, none, none, none, none, none, none, none, none, none, none, none, none, none, none, none, none, none, none, none, none, none, none, none, none, none, none, none, none, none, none, none, none, none, none, none, none, none, none, none, none, none, none, none, none, none, none, none, none, none, none, none, none, none, none, none, none, none, none, none, none, none, none, none, none, none, none, none, none, none, none, none, none, none, none, none, none, none, none, none, none, none, none, none, none, none, none, none, none, none, none, none, none, none, none, none, none, none, none, none, none, none, none, none, none, none, none, none, none, none, none, none, none, none, none, none, none, none, none, none, none, none, none, none, none, none, none, none, none, none, none, none, none, none, none, none, none, none, none, none, none, none, none, none, none, none]) (by kernel_rfl) ?_
              exact L372 0 _ hv354 rfl _ _ hS882
    have L896 : ∀ (t883 : List api_Final) (t887 : Int) (e891 : (List api_Final)), weirlaw10_StateSetLaws.l0 a0 t883 t887 = some e891 → e891 = v32 → ∀ (l890 : List Value) (A884 : Option Addr) (c885 : Nat) (w888 : World) (hS889 : St w0 Z (xrow Q17 Q18 24 49 (t16.flatMap enc_api_Final) :: xrow Q25 Q26 24 49 (t24.flatMap enc_api_Final) :: xrow A884 c885 24 49 (t883.flatMap enc_api_Final) :: fs) w888), Runs Tryd.prog 6 [.code (cd6 [1, 1, 1, 1, 1, 1, 0, 1, 0, 0]), .inLoop (cd6 [1, 1, 1, 1, 1, 1, 0, 1, 0, 0]), .inBlock 0, .code (cd6 [1, 1, 1, 1, 1, 1, 1])] (fill [some (.slice Aa0 a0.length ca0), some (.slice Aa1 a1.length ca1), none, none, none, some (.slice Q17 t16.length Q18), some (.slice Q25 t24.length Q26), some (.slice A884 t883.length c885), some (.int .i64 t887), none, none, none, none, none, none, none, none, none, none, none, none, none, none, none, none, none, none, none, none, none, none, none, none, none, none, none, none, none, none, none, none, none, none, none, none, none, none, none, none, none, none, none, none, none, none, none, none, none, none, none, none, none, none, none, none, none, none, none, none, none, none, none, none, none, none, none, none, none, none, none, none, none, none, none, none, none, none, none, none, none, none, none, none, none, none, none, none, none, none, none, none, none, none, none, none, none, none, none, none, none, none, none, none, none, none, none, none, none, none, none, none, none, none, none, none, none, none, none, none, none, none, none, none, none, none, none, none, none, none, none, none, none, none, none, none, none, none, none, none, none, none, none, none, none, none, none, none, none, none, none, none, none, none, none, none, none, none, none, none, none, none, none, none, none, none, none, none, none, none, none, none, none, none, none, none, none, none, none, none, none, none, none, none, none, none, none, none, none, none, none, none, none, none, none, none, none, none, none, none, none, none, none, none, none, none, none, none, none, none, none, none, none, none, none, none, none, none, none, none, none, none, none, none, none, none, none, none, none, none, none, none, none, none, none, none, none] l890) w888 R := by
     refine weirlaw10_StateSetLaws.l0.partial_correctness a0 (fun t883 t887 e891 => e891 = v32 → ∀ (l890 : List Value) (A884 : Option Addr) (c885 : Nat) (w888 : World) (hS889 : St w0 Z (xrow Q17 Q18 24 49 (t16.flatMap enc_api_Final) :: xrow Q25 Q26 24 49 (t24.flatMap enc_api_Final) :: xrow A884 c885 24 49 (t883.flatMap enc_api_Final) :: fs) w888), Runs Tryd.prog 6 [.code (cd6 [1, 1, 1, 1, 1, 1, 0, 1, 0, 0]), .inLoop (cd6 [1, 1, 1, 1, 1, 1, 0, 1, 0, 0]), .inBlock 0, .code (cd6 [1, 1, 1, 1, 1, 1, 1])] (fill [some (.slice Aa0 a0.length ca0), some (.slice Aa1 a1.length ca1), none, none, none, some (.slice Q17 t16.length Q18), some (.slice Q25 t24.length Q26), some (.slice A884 t883.length c885), some (.int .i64 t887), none, none, none, none, none, none, none, none, none, none, none, none, none, none, none, none, none, none, none, none, none, none, none, none, none, none, none, none, none, none, none, none, none, none, none, none, none, none, none, none, none, none, none, none, none, none, none, none, none, none, none, none, none, none, none, none, none, none, none, none, none, none, none, none, none, none, none, none, none, none, none, none, none, none, none, none, none, none, none, none, none, none, none, none, none, none, none, none, none, none, none, none, none, none, none, none, none, none, none, none, none, none, none, none, none, none, none, none, none, none, none, none, none, none, none, none, none, none, none, none, none, none, none, none, none, none, none, none, none, none, none, none, none, none, none, none, none, none, none, none, none, none, none, none, none, none, none, none, none, none, none, none, none, none, none, none, none, none, none, none, none, none, none, none, none, none, none, none, none, none, none, none, none, none, none, none, none, none, none, none, none, none, none, none, none, none, none, none, none, none, none, none, none, none, none, none, none, none, none, none, none, none, none, none, none, none, none, none, none, none, none, none, none, none, none, none, none, none, none, none, none, none, none, none, none, none, none, none, none, none, none, none, none, none, none, none, none] l890) w888 R) ?_
     intro rec895 ih894 t883 t887 e891 hb893 he892 l890 A884 c885 w888 hS889
     refine sx_split 5 (todo' := [.inRegion (opsOf (cd6 [1, 1, 1, 1, 1, 1, 0, 1, 0, 0, 0, 0])) [], .code (cd6 [1, 1, 1, 1, 1, 1, 0, 1, 0, 0, 0, 1]), .code (cd6 [1, 1, 1, 1, 1, 1, 0, 1, 0, 0, 1]), .inLoop (cd6 [1, 1, 1, 1, 1, 1, 0, 1, 0, 0]), .inBlock 0, .code (cd6 [1, 1, 1, 1, 1, 1, 1])]) (us := [(36, .int .i64 t887)]) (d := 37) (t := (decide (t887 ≥ 0))) (by kernel_rfl) (fun h897 => ?_) (fun h898 => ?_)
     ·skip
      have hp899 := ite_t hb893 h897
      refine sx_run 5 (todo' := [.code (cd6 [1, 1, 1, 1, 1, 1, 0, 1, 0, 0, 1, 0, 0]), .inBlock 1, .code (cd6 [1, 1, 1, 1, 1, 1, 0, 1, 0, 0, 1, 1]), .inLoop (cd6 [1, 1, 1, 1, 1, 1, 0, 1, 0, 0]), .inBlock 0, .code (cd6 [1, 1, 1, 1, 1, 1, 1])]) (us := []) (by kernel_rfl) ?_
      obtain ⟨g900, hp901⟩ := ite_some hp899
      obtain ⟨b902, p903, hA904, hc905⟩ := ha0.atF g900.1 g900.2
      obtain ⟨g906, hp907⟩ := ite_some hp901
      obtain ⟨b908, p909, hA910, hc911⟩ := ha0.atF g906.1 g906.2
      obtain ⟨g914, hp915⟩ := ite_some hp907
      refine r_drawnG (S := Option (Nat × Option (Option Addr × Nat))) (rank := (fun st => match st with | none => 0 | some (b912, none) => 1 | some (b912, some x919) => 2)) (C := (fun st w' => match st with | none => St w0 Z (xrow Q17 Q18 24 49 (t16.flatMap enc_api_Final) :: xrow Q25 Q26 24 49 (t24.flatMap enc_api_Final) :: xrow A884 c885 24 49 (t883.flatMap enc_api_Final) :: fs) w' | some (b912, none) => St w0 Z (xrow (some ⟨b912, 0, none⟩) 2 24 49 (([(gt a0 t887), (gt a0 t887)] : List api_Final).flatMap enc_api_Final) :: xrow Q17 Q18 24 49 (t16.flatMap enc_api_Final) :: xrow Q25 Q26 24 49 (t24.flatMap enc_api_Final) :: xrow A884 c885 24 49 (t883.flatMap enc_api_Final) :: fs) w' | some (b912, some x919) => St w0 Z (xrow x919.1 x919.2 24 49 ((t883 ++ ([(gt a0 t887), (gt a0 t887)] : List api_Final)).flatMap enc_api_Final) :: xrow (some ⟨b912, 0, none⟩) 2 24 49 (([(gt a0 t887), (gt a0 t887)] : List api_Final).flatMap enc_api_Final) :: xrow Q17 Q18 24 49 (t16.flatMap enc_api_Final) :: xrow Q25 Q26 24 49 (t24.flatMap enc_api_Final) :: fs) w')) (v := (fun st => match st with | none => [.slice A884 t883.length c885, .slice Aa0 a0.length ca0, .int .i64 t887, .pointer (some ⟨b902, p903 + t887.toNat * 49, none⟩), .agg (enc_api_Final (gt a0 t887)).toArray, .slice Aa0 a0.length ca0, .int .i64 t887, .pointer (some ⟨b908, p909 + t887.toNat * 49, none⟩), .agg (enc_api_Final (gt a0 t887)).toArray, undef, undef, undef] | some (b912, none) => [.slice A884 t883.length c885, .slice Aa0 a0.length ca0, .int .i64 t887, .pointer (some ⟨b902, p903 + t887.toNat * 49, none⟩), .agg (enc_api_Final (gt a0 t887)).toArray, .slice Aa0 a0.length ca0, .int .i64 t887, .pointer (some ⟨b908, p909 + t887.toNat * 49, none⟩), .agg (enc_api_Final (gt a0 t887)).toArray, .slice (some ⟨b912, 0, none⟩) ([(gt a0 t887), (gt a0 t887)] : List api_Final).length 2, undef, undef] | some (b912, some x919) => [.slice A884 t883.length c885, .slice Aa0 a0.length ca0, .int .i64 t887, .pointer (some ⟨b902, p903 + t887.toNat * 49, none⟩), .agg (enc_api_Final (gt a0 t887)).toArray, .slice Aa0 a0.length ca0, .int .i64 t887, .pointer (some ⟨b908, p909 + t887.toNat * 49, none⟩), .agg (enc_api_Final (gt a0 t887)).toArray, .slice (some ⟨b912, 0, none⟩) ([(gt a0 t887), (gt a0 t887)] : List api_Final).length 2, .slice x919.1 (t883 ++ ([(gt a0 t887), (gt a0 t887)] : List api_Final)).length x919.2, .slice x919.1 (t883 ++ ([(gt a0 t887), (gt a0 t887)] : List api_Final)).length x919.2])) (c := (cd6 [1, 1, 1, 1, 1, 1, 0, 1, 0, 0, 1, 0, 0])) (id := 11) none 0 12 [9, 10] [0, 0, 0, 0, 0, 0, 0, 0, 0, 0, 1, 2] [1, 2, 2, 2, 0, 2, 2, 2, 0, 1, 2, 2] [11] (by kernel_rfl) (by kernel_rfl) (by kernel_rfl) (by kernel_rfl) (by kernel_rfl) (by kernel_rfl) (by kernel_rfl) (by kernel_rfl) (by kernel_rfl) rfl hS889.drew ?_ ?_ ?_ ?_
      ·intro st w hC
       rcases st with _ | ⟨b912, _ | x919⟩
       ·exact Nat.le_of_ble_eq_true rfl
       ·exact Nat.le_of_ble_eq_true rfl
       ·exact Nat.le_of_ble_eq_true rfl
      ·intro i hi he st w hC hr hu
       match i, hi, he with
       | 0, _, _ =>
        rcases st with _ | ⟨b912, _ | x919⟩
        ·replace hC : St w0 Z (xrow Q17 Q18 24 49 (t16.flatMap enc_api_Final) :: xrow Q25 Q26 24 49 (t24.flatMap enc_api_Final) :: xrow A884 c885 24 49 (t883.flatMap enc_api_Final) :: fs) w := hC
         exact does_pure (v := .slice A884 t883.length c885) (by kernel_rfl) rfl hC
        ·replace hC : St w0 Z (xrow (some ⟨b912, 0, none⟩) 2 24 49 (([(gt a0 t887), (gt a0 t887)] : List api_Final).flatMap enc_api_Final) :: xrow Q17 Q18 24 49 (t16.flatMap enc_api_Final) :: xrow Q25 Q26 24 49 (t24.flatMap enc_api_Final) :: xrow A884 c885 24 49 (t883.flatMap enc_api_Final) :: fs) w := hC
         exact does_pure (v := .slice A884 t883.length c885) (by kernel_rfl) rfl hC
        ·exact absurd hu (Nat.not_le_of_gt (Nat.le_of_ble_eq_true rfl))
       | 1, _, _ =>
        rcases st with _ | ⟨b912, _ | x919⟩
        ·replace hC : St w0 Z (xrow Q17 Q18 24 49 (t16.flatMap enc_api_Final) :: xrow Q25 Q26 24 49 (t24.flatMap enc_api_Final) :: xrow A884 c885 24 49 (t883.flatMap enc_api_Final) :: fs) w := hC
         exact does_pure (v := .slice Aa0 a0.length ca0) (by kernel_rfl) rfl hC
        ·replace hC : St w0 Z (xrow (some ⟨b912, 0, none⟩) 2 24 49 (([(gt a0 t887), (gt a0 t887)] : List api_Final).flatMap enc_api_Final) :: xrow Q17 Q18 24 49 (t16.flatMap enc_api_Final) :: xrow Q25 Q26 24 49 (t24.flatMap enc_api_Final) :: xrow A884 c885 24 49 (t883.flatMap enc_api_Final) :: fs) w := hC
         exact does_pure (v := .slice Aa0 a0.length ca0) (by kernel_rfl) rfl hC
        ·replace hC : St w0 Z (xrow x919.1 x919.2 24 49 ((t883 ++ ([(gt a0 t887), (gt a0 t887)] : List api_Final)).flatMap enc_api_Final) :: xrow (some ⟨b912, 0, none⟩) 2 24 49 (([(gt a0 t887), (gt a0 t887)] : List api_Final).flatMap enc_api_Final) :: xrow Q17 Q18 24 49 (t16.flatMap enc_api_Final) :: xrow Q25 Q26 24 49 (t24.flatMap enc_api_Final) :: fs) w := hC
         exact does_pure (v := .slice Aa0 a0.length ca0) (by kernel_rfl) rfl hC
       | 2, _, _ =>
        rcases st with _ | ⟨b912, _ | x919⟩
        ·replace hC : St w0 Z (xrow Q17 Q18 24 49 (t16.flatMap enc_api_Final) :: xrow Q25 Q26 24 49 (t24.flatMap enc_api_Final) :: xrow A884 c885 24 49 (t883.flatMap enc_api_Final) :: fs) w := hC
         exact does_pure (v := .int .i64 t887) (by kernel_rfl) rfl hC
        ·replace hC : St w0 Z (xrow (some ⟨b912, 0, none⟩) 2 24 49 (([(gt a0 t887), (gt a0 t887)] : List api_Final).flatMap enc_api_Final) :: xrow Q17 Q18 24 49 (t16.flatMap enc_api_Final) :: xrow Q25 Q26 24 49 (t24.flatMap enc_api_Final) :: xrow A884 c885 24 49 (t883.flatMap enc_api_Final) :: fs) w := hC
         exact does_pure (v := .int .i64 t887) (by kernel_rfl) rfl hC
        ·replace hC : St w0 Z (xrow x919.1 x919.2 24 49 ((t883 ++ ([(gt a0 t887), (gt a0 t887)] : List api_Final)).flatMap enc_api_Final) :: xrow (some ⟨b912, 0, none⟩) 2 24 49 (([(gt a0 t887), (gt a0 t887)] : List api_Final).flatMap enc_api_Final) :: xrow Q17 Q18 24 49 (t16.flatMap enc_api_Final) :: xrow Q25 Q26 24 49 (t24.flatMap enc_api_Final) :: fs) w := hC
         exact does_pure (v := .int .i64 t887) (by kernel_rfl) rfl hC
       | 3, _, _ =>
        rcases st with _ | ⟨b912, _ | x919⟩
        ·replace hC : St w0 Z (xrow Q17 Q18 24 49 (t16.flatMap enc_api_Final) :: xrow Q25 Q26 24 49 (t24.flatMap enc_api_Final) :: xrow A884 c885 24 49 (t883.flatMap enc_api_Final) :: fs) w := hC
         exact does_run (x_indexAddr (t := 28) (e := 24) (x := (.tmp 41)) (y := (.tmp 42)) (b := b902) (o' := p903) (n := a0.length) (cp := ca0) (sz := 49) (kk := .i64) (j := t887) (slv (by kernel_rfl) hA904) (by kernel_rfl) (by kernel_rfl) (by kernel_rfl) g900.1 g900.2 (by kernel_rfl)) rfl hC
        ·replace hC : St w0 Z (xrow (some ⟨b912, 0, none⟩) 2 24 49 (([(gt a0 t887), (gt a0 t887)] : List api_Final).flatMap enc_api_Final) :: xrow Q17 Q18 24 49 (t16.flatMap enc_api_Final) :: xrow Q25 Q26 24 49 (t24.flatMap enc_api_Final) :: xrow A884 c885 24 49 (t883.flatMap enc_api_Final) :: fs) w := hC
         exact does_run (x_indexAddr (t := 28) (e := 24) (x := (.tmp 41)) (y := (.tmp 42)) (b := b902) (o' := p903) (n := a0.length) (cp := ca0) (sz := 49) (kk := .i64) (j := t887) (slv (by kernel_rfl) hA904) (by kernel_rfl) (by kernel_rfl) (by kernel_rfl) g900.1 g900.2 (by kernel_rfl)) rfl hC
        ·replace hC : St w0 Z (xrow x919.1 x919.2 24 49 ((t883 ++ ([(gt a0 t887), (gt a0 t887)] : List api_Final)).flatMap enc_api_Final) :: xrow (some ⟨b912, 0, none⟩) 2 24 49 (([(gt a0 t887), (gt a0 t887)] : List api_Final).flatMap enc_api_Final) :: xrow Q17 Q18 24 49 (t16.flatMap enc_api_Final) :: xrow Q25 Q26 24 49 (t24.flatMap enc_api_Final) :: fs) w := hC
         exact does_run (x_indexAddr (t := 28) (e := 24) (x := (.tmp 41)) (y := (.tmp 42)) (b := b902) (o' := p903) (n := a0.length) (cp := ca0) (sz := 49) (kk := .i64) (j := t887) (slv (by kernel_rfl) hA904) (by kernel_rfl) (by kernel_rfl) (by kernel_rfl) g900.1 g900.2 (by kernel_rfl)) rfl hC
       | 4, _, _ =>
        rcases st with _ | ⟨b912, _ | x919⟩
        ·replace hC : St w0 Z (xrow Q17 Q18 24 49 (t16.flatMap enc_api_Final) :: xrow Q25 Q26 24 49 (t24.flatMap enc_api_Final) :: xrow A884 c885 24 49 (t883.flatMap enc_api_Final) :: fs) w := hC
         exact does_run (x_load (t := 24) (x := (.tmp 43)) (p := ⟨b902, p903 + t887.toNat * 49, none⟩) (v := .agg (enc_api_Final (gt a0 t887)).toArray) (by kernel_rfl) (loads_agg (hc905.cells hC) (by kernel_rfl) (lenK (len_api_Final _) (by kernel_rfl))) (by kernel_rfl)) rfl hC
        ·exact absurd hu (Nat.not_le_of_gt (Nat.le_of_ble_eq_true rfl))
        ·exact absurd hu (Nat.not_le_of_gt (Nat.le_of_ble_eq_true rfl))
       | 5, _, _ =>
        rcases st with _ | ⟨b912, _ | x919⟩
        ·replace hC : St w0 Z (xrow Q17 Q18 24 49 (t16.flatMap enc_api_Final) :: xrow Q25 Q26 24 49 (t24.flatMap enc_api_Final) :: xrow A884 c885 24 49 (t883.flatMap enc_api_Final) :: fs) w := hC
         exact does_pure (v := .slice Aa0 a0.length ca0) (by kernel_rfl) rfl hC
        ·replace hC : St w0 Z (xrow (some ⟨b912, 0, none⟩) 2 24 49 (([(gt a0 t887), (gt a0 t887)] : List api_Final).flatMap enc_api_Final) :: xrow Q17 Q18 24 49 (t16.flatMap enc_api_Final) :: xrow Q25 Q26 24 49 (t24.flatMap enc_api_Final) :: xrow A884 c885 24 49 (t883.flatMap enc_api_Final) :: fs) w := hC
         exact does_pure (v := .slice Aa0 a0.length ca0) (by kernel_rfl) rfl hC
        ·replace hC : St w0 Z (xrow x919.1 x919.2 24 49 ((t883 ++ ([(gt a0 t887), (gt a0 t887)] : List api_Final)).flatMap enc_api_Final) :: xrow (some ⟨b912, 0, none⟩) 2 24 49 (([(gt a0 t887), (gt a0 t887)] : List api_Final).flatMap enc_api_Final) :: xrow Q17 Q18 24 49 (t16.flatMap enc_api_Final) :: xrow Q25 Q26 24 49 (t24.flatMap enc_api_Final) :: fs) w := hC
         exact does_pure (v := .slice Aa0 a0.length ca0) (by kernel_rfl) rfl hC
       | 6, _, _ =>
        rcases st with _ | ⟨b912, _ | x919⟩
        ·replace hC : St w0 Z (xrow Q17 Q18 24 49 (t16.flatMap enc_api_Final) :: xrow Q25 Q26 24 49 (t24.flatMap enc_api_Final) :: xrow A884 c885 24 49 (t883.flatMap enc_api_Final) :: fs) w := hC
         exact does_pure (v := .int .i64 t887) (by kernel_rfl) rfl hC
        ·replace hC : St w0 Z (xrow (some ⟨b912, 0, none⟩) 2 24 49 (([(gt a0 t887), (gt a0 t887)] : List api_Final).flatMap enc_api_Final) :: xrow Q17 Q18 24 49 (t16.flatMap enc_api_Final) :: xrow Q25 Q26 24 49 (t24.flatMap enc_api_Final) :: xrow A884 c885 24 49 (t883.flatMap enc_api_Final) :: fs) w := hC
         exact does_pure (v := .int .i64 t887) (by kernel_rfl) rfl hC
        ·replace hC : St w0 Z (xrow x919.1 x919.2 24 49 ((t883 ++ ([(gt a0 t887), (gt a0 t887)] : List api_Final)).flatMap enc_api_Final) :: xrow (some ⟨b912, 0, none⟩) 2 24 49 (([(gt a0 t887), (gt a0 t887)] : List api_Final).flatMap enc_api_Final) :: xrow Q17 Q18 24 49 (t16.flatMap enc_api_Final) :: xrow Q25 Q26 24 49 (t24.flatMap enc_api_Final) :: fs) w := hC
         exact does_pure (v := .int .i64 t887) (by kernel_rfl) rfl hC
       | 7, _, _ =>
        rcases st with _ | ⟨b912, _ | x919⟩
        ·replace hC : St w0 Z (xrow Q17 Q18 24 49 (t16.flatMap enc_api_Final) :: xrow Q25 Q26 24 49 (t24.flatMap enc_api_Final) :: xrow A884 c885 24 49 (t883.flatMap enc_api_Final) :: fs) w := hC
         exact does_run (x_indexAddr (t := 28) (e := 24) (x := (.tmp 45)) (y := (.tmp 46)) (b := b908) (o' := p909) (n := a0.length) (cp := ca0) (sz := 49) (kk := .i64) (j := t887) (slv (by kernel_rfl) hA910) (by kernel_rfl) (by kernel_rfl) (by kernel_rfl) g906.1 g906.2 (by kernel_rfl)) rfl hC
        ·replace hC : St w0 Z (xrow (some ⟨b912, 0, none⟩) 2 24 49 (([(gt a0 t887), (gt a0 t887)] : List api_Final).flatMap enc_api_Final) :: xrow Q17 Q18 24 49 (t16.flatMap enc_api_Final) :: xrow Q25 Q26 24 49 (t24.flatMap enc_api_Final) :: xrow A884 c885 24 49 (t883.flatMap enc_api_Final) :: fs) w := hC
         exact does_run (x_indexAddr (t := 28) (e := 24) (x := (.tmp 45)) (y := (.tmp 46)) (b := b908) (o' := p909) (n := a0.length) (cp := ca0) (sz := 49) (kk := .i64) (j := t887) (slv (by kernel_rfl) hA910) (by kernel_rfl) (by kernel_rfl) (by kernel_rfl) g906.1 g906.2 (by kernel_rfl)) rfl hC
        ·replace hC : St w0 Z (xrow x919.1 x919.2 24 49 ((t883 ++ ([(gt a0 t887), (gt a0 t887)] : List api_Final)).flatMap enc_api_Final) :: xrow (some ⟨b912, 0, none⟩) 2 24 49 (([(gt a0 t887), (gt a0 t887)] : List api_Final).flatMap enc_api_Final) :: xrow Q17 Q18 24 49 (t16.flatMap enc_api_Final) :: xrow Q25 Q26 24 49 (t24.flatMap enc_api_Final) :: fs) w := hC
         exact does_run (x_indexAddr (t := 28) (e := 24) (x := (.tmp 45)) (y := (.tmp 46)) (b := b908) (o' := p909) (n := a0.length) (cp := ca0) (sz := 49) (kk := .i64) (j := t887) (slv (by kernel_rfl) hA910) (by kernel_rfl) (by kernel_rfl) (by kernel_rfl) g906.1 g906.2 (by kernel_rfl)) rfl hC
       | 8, _, _ =>
        rcases st with _ | ⟨b912, _ | x919⟩
        ·replace hC : St w0 Z (xrow Q17 Q18 24 49 (t16.flatMap enc_api_Final) :: xrow Q25 Q26 24 49 (t24.flatMap enc_api_Final) :: xrow A884 c885 24 49 (t883.flatMap enc_api_Final) :: fs) w := hC
         exact does_run (x_load (t := 24) (x := (.tmp 47)) (p := ⟨b908, p909 + t887.toNat * 49, none⟩) (v := .agg (enc_api_Final (gt a0 t887)).toArray) (by kernel_rfl) (loads_agg (hc911.cells hC) (by kernel_rfl) (lenK (len_api_Final _) (by kernel_rfl))) (by kernel_rfl)) rfl hC
        ·exact absurd hu (Nat.not_le_of_gt (Nat.le_of_ble_eq_true rfl))
        ·exact absurd hu (Nat.not_le_of_gt (Nat.le_of_ble_eq_true rfl))
       | 9, _, he => exact absurd he (by decide)
       | 10, _, he => exact absurd he (by decide)
       | 11, _, _ =>
        rcases st with _ | ⟨b912, _ | x919⟩
        ·exact absurd hr (Nat.not_le_of_gt (Nat.le_of_ble_eq_true rfl))
        ·exact absurd hr (Nat.not_le_of_gt (Nat.le_of_ble_eq_true rfl))
        ·replace hC : St w0 Z (xrow x919.1 x919.2 24 49 ((t883 ++ ([(gt a0 t887), (gt a0 t887)] : List api_Final)).flatMap enc_api_Final) :: xrow (some ⟨b912, 0, none⟩) 2 24 49 (([(gt a0 t887), (gt a0 t887)] : List api_Final).flatMap enc_api_Final) :: xrow Q17 Q18 24 49 (t16.flatMap enc_api_Final) :: xrow Q25 Q26 24 49 (t24.flatMap enc_api_Final) :: fs) w := hC
         exact does_pure (v := .slice x919.1 (t883 ++ ([(gt a0 t887), (gt a0 t887)] : List api_Final)).length x919.2) (by kernel_rfl) rfl hC
       | i + 12, hi, _ => exact absurd hi (by omega)
      ·intro k hk st w hC hr
       match k, hk with
       | 0, _ =>
        rcases st with _ | ⟨b912, _ | x919⟩
        ·replace hC : St w0 Z (xrow Q17 Q18 24 49 (t16.flatMap enc_api_Final) :: xrow Q25 Q26 24 49 (t24.flatMap enc_api_Final) :: xrow A884 c885 24 49 (t883.flatMap enc_api_Final) :: fs) w := hC
         refine does_lit (t := 28) (e := 24) (sz := 49) (n := 2) (parts := #[(0, (.tmp 44)), (1, (.tmp 48))]) (vs := [(0, .agg (enc_api_Final (gt a0 t887)).toArray), (1, .agg (enc_api_Final (gt a0 t887)).toArray)]) (z := zeroOf Tryd.prog 24) (cs' := ([(gt a0 t887), (gt a0 t887)] : List api_Final).flatMap enc_api_Final) hC (by kernel_rfl) (by kernel_rfl) (by kernel_rfl) (by kernel_rfl) (by decide) (by decide) (by kernel_rfl) rfl (Parts.cons (c := enc_api_Final (gt a0 t887)) (by kernel_rfl) (len_api_Final _) (Parts.cons (c := enc_api_Final (gt a0 t887)) (by kernel_rfl) (len_api_Final _) Parts.nil)) rfl ?_
         intro b912 w2 h2
         refine ⟨some (b912, none), rfl, ?_, .inr rfl, h2⟩
         intro j hj
         match j, hj with
         | 0, _ => exact rfl
         | 1, _ => exact rfl
         | 2, _ => exact rfl
         | 3, _ => exact rfl
         | 4, _ => exact rfl
         | 5, _ => exact rfl
         | 6, _ => exact rfl
         | 7, _ => exact rfl
         | 8, _ => exact rfl
         | 9, hj => exact absurd hj (by decide)
         | 10, hj => exact absurd hj (by decide)
         | 11, hj => exact absurd hj (by decide)
         | j + 12, _ => exact rfl
        ·exact absurd hr (Nat.ne_of_beq_eq_false rfl)
        ·exact absurd hr (Nat.ne_of_beq_eq_false rfl)
       | 1, _ =>
        rcases st with _ | ⟨b912, _ | x919⟩
        ·exact absurd hr (Nat.ne_of_beq_eq_false rfl)
        ·replace hC : St w0 Z (xrow (some ⟨b912, 0, none⟩) 2 24 49 (([(gt a0 t887), (gt a0 t887)] : List api_Final).flatMap enc_api_Final) :: xrow Q17 Q18 24 49 (t16.flatMap enc_api_Final) :: xrow Q25 Q26 24 49 (t24.flatMap enc_api_Final) :: xrow A884 c885 24 49 (t883.flatMap enc_api_Final) :: fs) w := hC
         have hC := hC.pick3
         refine does_append (enc := enc_api_Final) (e := 24) (u := 24) (t := 28) (t2 := 28) (sz := 49) (cp := c885) (A := A884) (bytes := 392) (xs := t883) (ys := ([(gt a0 t887), (gt a0 t887)] : List api_Final)) (s := (.tmp 40)) (x := (.tmp 49)) (xv := .slice (some ⟨b912, 0, none⟩) ([(gt a0 t887), (gt a0 t887)] : List api_Final).length 2) (info := infoOf Tryd.prog 24) (z := zeroOf Tryd.prog 24) (ycs := ([(gt a0 t887), (gt a0 t887)] : List api_Final).flatMap enc_api_Final) hC (by kernel_rfl) (by kernel_rfl) (by kernel_rfl) (by kernel_rfl) (.inl (by kernel_rfl)) (by kernel_rfl) (by kernel_rfl) (by kernel_rfl) (by kernel_rfl) (by kernel_rfl) (by omega) len_api_Final one_api_Final (src_row (hC.row 1 rfl) (by omega) len_api_Final) rfl g914 (by omega) ?_
         intro A916 c917 w2 h2
         refine ⟨some (b912, some (A916, c917)), rfl, ?_, .inr rfl, h2⟩
         intro j hj
         match j, hj with
         | 0, _ => exact rfl
         | 1, _ => exact rfl
         | 2, _ => exact rfl
         | 3, _ => exact rfl
         | 4, _ => exact rfl
         | 5, _ => exact rfl
         | 6, _ => exact rfl
         | 7, _ => exact rfl
         | 8, _ => exact rfl
         | 9, _ => exact rfl
         | 10, hj => exact absurd hj (by decide)
         | 11, hj => exact absurd hj (by decide)
         | j + 12, _ => exact rfl
        ·exact absurd hr (Nat.ne_of_beq_eq_false rfl)
       | k + 2, hk => exact absurd hk (by simp)
      intro st923 w920 hS921 hr922
      rcases st923 with _ | ⟨b912, _ | x919⟩
      ·exact absurd hr922 (Nat.not_le_of_gt (Nat.le_of_ble_eq_true rfl))
      ·exact absurd hr922 (Nat.not_le_of_gt (Nat.le_of_ble_eq_true rfl))
      replace hS921 : St w0 Z (xrow x919.1 x919.2 24 49 ((t883 ++ ([(gt a0 t887), (gt a0 t887)] : List api_Final)).flatMap enc_api_Final) :: xrow (some ⟨b912, 0, none⟩) 2 24 49 (([(gt a0 t887), (gt a0 t887)] : List api_Final).flatMap enc_api_Final) :: xrow Q17 Q18 24 49 (t16.flatMap enc_api_Final) :: xrow Q25 Q26 24 49 (t24.flatMap enc_api_Final) :: fs) w920 := hS921
      refine sx_run 6 (todo' := [.inLoop (cd6 [1, 1, 1, 1, 1, 1, 0, 1, 0, 0]), .inBlock 0, .code (cd6 [1, 1, 1, 1, 1, 1, 1])]) (us := [(38, .int .i64 t887), (39, .int .i64 (IntKind.i64.wrap (t887 - 1))), (8, .int .i64 (IntKind.i64.wrap (t887 - 1)))]) (by kernel_rfl) ?_
      have hS924 := hS921.pick1
      have hS925 := hS924.drop
      have hS926 := hS925.pick2
      have hS927 := hS926.pick2
      refine sx_run 1 (todo' := [.code (cd6 [1, 1, 1, 1, 1, 1, 0, 1, 0, 0]), .inLoop (cd6 [1, 1, 1, 1, 1, 1, 0, 1, 0, 0]), .inBlock 0, .code (cd6 [1, 1, 1, 1, 1, 1, 1])]) (us := []) (by kernel_rfl) ?_
      refine Runs.fill (m := [some (.slice Aa0 a0.length ca0), some (.slice Aa1 a1.length ca1), none, none, none, some (.slice Q17 t16.length Q18), some (.slice Q25 t24.length Q26), some (.slice x919.1 (t883 ++ ([(gt a0 t887), (gt a0 t887)] : List api_Final)).length x919.2), some (.int .i64 (IntKind.i64.wrap (t887 - 1))), none, none, none, none, none, none, none, none, none, none, none, none, none, none, none, none, none, none, none, none, none, none, none, none, none, none, none, none, none, none, none, none, none, none, none, none, none, none, none, none, none, none, none, none, none, none, none, none, none, none, none, none, none, none, none, none, none, none, none, none, none, none, none, none, none, none, none, none, none, none, none, none, none, none, none, none, none, none, none, none, none, none, none, none, none, none, none, none, none, none, none, none, none, none, none, none, none, none, none, none, none, none, none, none, none, none, none, none, none, none, none, none, none, none, none, none, none, none, none, none, none, none, none, none, none, none, none, none, none, none, none, none, none, none, none, none, none, none, none, none, none, none, none, none, none, none, none, none, none, none, none, none, none, none, none, none, none, none, none, none, none, none, none, none, none, none, none, none, none, none, none, none, none, none, none, none, none, none, none, none, none, none, none, none, none, none, none, none, none, none, none, none, none, none, none, none, none, none, none, none, none, none, none, none, none, none, none, none, none, none, none, none, none, none, none, none, none, none, none, none, none, none, none, none, none, none, none, none, none, none, none, none, none, none, none, none, none]) (by kernel_rfl) ?_
      exact ih894 (t883 ++ ([(gt a0 t887), (gt a0 t887)] : List api_Final)) (IntKind.i64.wrap (t887 - 1)) _ hp915 he892 _ x919.1 x919.2 _ hS927
     ·skip
      have hp928 := ite_f hb893 h898
      refine sx_run 3 (todo' := [.code (cd6 [1, 1, 1, 1, 1, 1, 1])]) (us := []) (by kernel_rfl) ?_
      refine Runs.fill (m := [some (.slice Aa0 a0.length ca0), some (.slice Aa1 a1.length ca1), none, none, none, some (.slice Q17 t16.length Q18), some (.slice Q25 t24.length Q26), some (.slice A884 t883.length c885), none, none, none, none, none, none, none, none, none, none, none, none, none, none, none, none, none, none, none, none, none, none, none, none, none, none, none, none, none, none, none, none, none, none, none, none, none, none, none, none, none, none, none, none, none, none, none, none, none, none, none, none, none, none, none, none, none, none, none, none, none, none, none, none, none, none, none, none, none, none, none, none, none, none, none, none, none, none, none, none, none, none, none, none, none, none, none, none, none, none, none, none, none, none, none, none, none, none, none, none, none, none, none, none, none, none, none, none, none, none, none, none, none, none, none, none, none, none, none, none, none, none, none, none, none, none, none, none, none, none, none, none, none, none, none, none, none, none, none, none, none, none, none, none, none, none, none, none, none, none, none, none, none, none, none, none, none, none, none, none, none, none, none, none, none, none, none, none, none, none, none, none, none, none, none, none, none, none, none, none, none, none, none, none, none, none, none, none, none, none, none, none, none, none, none, none, none, none, none, none, none, none, none, none, none, none, none, none, none, none, none, none, none, none, none, none, none, none, none, none, none, none, none, none, none, none, none, none, none, none, none, none, none, none, none, none, none, none]) (by kernel_rfl) ?_
      exact J41 t883 ((Option.some.inj hp928).trans he892) _ A884 c885 _ hS889
    have hS930 := hS31.nilrow none 24 49
    have hS931 := hS930.pick1
    have hS932 := hS931.pick2
    refine Runs.fill (m := [some (.slice Aa0 a0.length ca0), some (.slice Aa1 a1.length ca1), none, none, none, some (.slice Q17 t16.length Q18), some (.slice Q25 t24.length Q26), some (.slice none 0 0), some (.int .i64 (IntKind.i64.wrap ((a0.length : Int) - 1))), none, none, none, none, none, none, none, none, none, none, none, none, none, none, none, none, none, none, none, none, none, none, none, none, none, none, none, none, none, none, none, none, none, none, none, none, none, none, none, none, none, none, none, none, none, none, none, none, none, none, none, none, none, none, none, none, none, none, none, none, none, none, none, none, none, none, none, none, none, none, none, none, none, none, none, none, none, none, none, none, none, none, none, none, none, none, none, none, none, none, none, none, none, none, none, none, none, none, none, none, none, none, none, none, none, none, none, none, none, none, none, none, none, none, none, none, none, none, none, none, none, none, none, none, none, none, none, none, none, none, none, none, none, none, none, none, none, none, none, none, none, none, none, none, none, none, none, none, none, none, none, none, none, none, none, none, none, none, none, none, none, none, none, none, none, none, none, none, none, none, none, none, none, none, none, none, none, none, none, none, none, none, none, none, none, none, none, none, none, none, none, none, none, none, none, none, none, none, none, none, none, none, none, none, none, none, none, none, none, none, none, none, none, none, none, none, none, none, none, none, none, none, none, none, none, none, none, none, none, none, none, none, none, none, none, none, none]) (by kernel_rfl) ?_
    exact L896 [] (IntKind.i64.wrap ((a0.length : Int) - 1)) _ hv33 rfl _ none 0 _ hS932

end
end Go.Proofs.YtjbhgahbaeoinaaDoor.K
