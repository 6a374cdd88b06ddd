/- The walk, part 2: each Go function as a plain Lean function, and that its call answers as that function says. No condition. -/
import Derived.Test.YtjbhgahbaeoinaaDoorE
import Derived.Test.YtjbhgahbaeoinaaDoorNS
import Derived.Test.YtjbhgahbaeoinaaDoorLS
import Derived.Test.YtjbhgahbaeoinaaDoorNG
import Derived.Test.YtjbhgahbaeoinaaDoorNV
import Derived.Test.YtjbhgahbaeoinaaDoorNB
import Derived.Test.YtjbhgahbaeoinaaDoorF1
set_option linter.unusedVariables false
set_option linter.unusedSimpArgs false
set_option maxRecDepth 100000
namespace Go.Proofs.YtjbhgahbaeoinaaDoor.K
open Go Go.RowKit
noncomputable section
noncomputable def cd12 (p : List Nat) : Code := sub (bodyOf Tryd.f12) p
def weirlaw10_Same.l0 (a0 : List api_Final) (a1 : List api_Final) (t16 : Int) : Option (Sum Unit Bool) :=
  (if (decide (t16 < (a0.length : Int))) = true then (if 0 ≤ t16 ∧ t16 < (a0.length : Int) then (if 0 ≤ t16 ∧ t16 < (a1.length : Int) then (if (!(decide ((gt a0 t16) = (gt a1 t16)))) = true then some (.inr (false)) else (weirlaw10_Same.l0 a0 a1 (IntKind.i64.wrap (t16 + 1)))) else none) else none) else some (.inl ()))
 partial_fixpoint
def weirlaw10_Same.f (a0 : List api_Final) (a1 : List api_Final) : Option Bool :=
  (if ((a0.length : Int) != (a1.length : Int)) = true then some (false) else (weirlaw10_Same.l0 a0 a1 0 >>= (fun | .inl () => some (true) | .inr e => some e)))
set_option maxHeartbeats 16000000 in
theorem weirlaw10_Same.ok (a0 : List api_Final) (a1 : List api_Final) (Aa0 : Option Addr) (ca0 : Nat) (Aa1 : Option Addr) (ca1 : Nat) {w0 : World} {Z : Zm} {fs : List XObj} {w : World} (hS0 : St w0 Z (fs) w) (ha0 : SlZ (flat enc_api_Final) 49 Z Aa0 ca0 a0) (ha1 : SlZ (flat enc_api_Final) 49 Z Aa1 ca1 a1) {q0 : Bool} (hp0 : weirlaw10_Same.f a0 a1 = some q0) :
    Calls Tryd.prog 12 #[.slice Aa0 a0.length ca0, .slice Aa1 a1.length ca1] w (fun e w' => e = .returned (.bool q0) ∧ St w0 Z (fs) w') := by
  refine calls_abs ?_; intro R hR
  unfold weirlaw10_Same.f at hp0
  refine calls_of_runs (fn := Tryd.f12) (c := cd12 []) Tryd.func12 (by kernel_rfl) (al := [.slice Aa0 a0.length ca0, .slice Aa1 a1.length ca1]) rfl (n := 24) rfl ?_
  refine sx_split 12 (todo' := [.inRegion (opsOf (cd12 [1, 0, 0])) [], .code (cd12 [1, 0, 1]), .code (cd12 [1, 1])]) (us := [(4, .bool false), (6, .slice Aa0 a0.length ca0), (7, .int .i64 (a0.length : Int)), (8, .slice Aa1 a1.length ca1), (9, .int .i64 (a1.length : Int))]) (d := 10) (t := ((a0.length : Int) != (a1.length : Int))) (by kernel_rfl) (fun h1 => ?_) (fun h2 => ?_)
  ·skip
   have hp3 := ite_t hp0 h1
   refine sx_run 6 (todo' := [.code (cd12 [1, 0, 1, 0, 1]), .code (cd12 [1, 1])]) (us := [(4, .bool false)]) (by kernel_rfl) ?_
   refine runs_ret (fn := Tryd.f12) (v := .bool false) Tryd.func12 (by kernel_rfl) ?_
   have hr4 := (Option.some.inj hp3)
   cases hr4
   exact hR _ _ ⟨rfl, hS0⟩
  ·skip
   have hp5 := ite_f hp0 h2
   refine sx_run 10 (todo' := [.code (cd12 [1, 1, 0, 1, 0, 0]), .inLoop (cd12 [1, 1, 0, 1, 0, 0]), .inBlock 0, .code (cd12 [1, 1, 1])]) (us := [(5, .int .i64 0)]) (by kernel_rfl) ?_
   obtain ⟨v6, hv7, hp8⟩ := bind_some' hp5
   have hq11 : ∀ x, Sum.inr x = v6 → x = q0 := by intro x hx; subst hx; simpa using hp8
   have J12 : ∀ (he14 : Sum.inl () = v6) (l13 : List Value) (w9 : World) (hS10 : St w0 Z (fs) w9), Runs Tryd.prog 12 [.code (cd12 [1, 1, 1])] (fill [none, none, none, none, none, none, none, none, none, none, none, none, none, none, none, none, none, none, none, none, none, none, none, none, none, none] l13) w9 R := by
    intro he14 l13 w9 hS10
    subst he14
    try dsimp only at hp8
    refine sx_run 4 (todo' := [.code (cd12 [1, 1, 1, 1])]) (us := [(4, .bool true)]) (by kernel_rfl) ?_
    refine runs_ret (fn := Tryd.f12) (v := .bool true) Tryd.func12 (by kernel_rfl) ?_
    have hr15 := (Option.some.inj hp8)
    cases hr15
    exact hR _ _ ⟨rfl, hS10⟩
   have L25 : ∀ (t16 : Int) (e20 : Sum Unit Bool), weirlaw10_Same.l0 a0 a1 t16 = some e20 → e20 = v6 → ∀ (l19 : List Value) (w17 : World) (hS18 : St w0 Z (fs) w17), Runs Tryd.prog 12 [.code (cd12 [1, 1, 0, 1, 0, 0]), .inLoop (cd12 [1, 1, 0, 1, 0, 0]), .inBlock 0, .code (cd12 [1, 1, 1])] (fill [some (.slice Aa0 a0.length ca0), some (.slice Aa1 a1.length ca1), none, none, none, some (.int .i64 t16), none, none, none, none, none, none, none, none, none, none, none, none, none, none, none, none, none, none, none, none] l19) w17 R := by
    refine weirlaw10_Same.l0.partial_correctness a0 a1 (fun t16 e20 => e20 = v6 → ∀ (l19 : List Value) (w17 : World) (hS18 : St w0 Z (fs) w17), Runs Tryd.prog 12 [.code (cd12 [1, 1, 0, 1, 0, 0]), .inLoop (cd12 [1, 1, 0, 1, 0, 0]), .inBlock 0, .code (cd12 [1, 1, 1])] (fill [some (.slice Aa0 a0.length ca0), some (.slice Aa1 a1.length ca1), none, none, none, some (.int .i64 t16), none, none, none, none, none, none, none, none, none, none, none, none, none, none, none, none, none, none, none, none] l19) w17 R) ?_
    intro rec24 ih23 t16 e20 hb22 he21 l19 w17 hS18
    have hq26 : ∀ x, Sum.inr x = e20 → x = q0 := fun x hx => hq11 x (hx.trans he21)
    refine sx_split 7 (todo' := [.inRegion (opsOf (cd12 [1, 1, 0, 1, 0, 0, 0, 0])) [], .code (cd12 [1, 1, 0, 1, 0, 0, 0, 1]), .code (cd12 [1, 1, 0, 1, 0, 0, 1]), .inLoop (cd12 [1, 1, 0, 1, 0, 0]), .inBlock 0, .code (cd12 [1, 1, 1])]) (us := [(11, .int .i64 t16), (12, .slice Aa0 a0.length ca0), (13, .int .i64 (a0.length : Int))]) (d := 14) (t := (decide (t16 < (a0.length : Int)))) (by kernel_rfl) (fun h27 => ?_) (fun h28 => ?_)
    ·skip
     have hp29 := ite_t hb22 h27
     refine sx_run 6 (todo' := [.code (cd12 [1, 1, 0, 1, 0, 0, 1, 0, 0, 0]), .code (cd12 [1, 1, 0, 1, 0, 0, 1, 0, 0, 1]), .inBlock 1, .code (cd12 [1, 1, 0, 1, 0, 0, 1, 1]), .inLoop (cd12 [1, 1, 0, 1, 0, 0]), .inBlock 0, .code (cd12 [1, 1, 1])]) (us := []) (by kernel_rfl) ?_
     refine r_quiet hS18 (c := (cd12 [1, 1, 0, 1, 0, 0, 1, 0, 0, 0])) (id := 6) (by kernel_rfl) (by kernel_rfl) (by kernel_rfl) (is := [0, 1, 2, 3, 4, 5, 6, 7, 8]) (by kernel_rfl) ?_
     refine q_run 2 (is' := [2, 3, 4, 5, 6, 7, 8]) (us := [(17, .slice Aa0 a0.length ca0), (18, .int .i64 t16)]) (by kernel_rfl) ?_
     obtain ⟨g30, hp31⟩ := ite_some hp29
     obtain ⟨b32, p33, hA34, hc35⟩ := ha0.atF g30.1 g30.2
     refine q_indexAddr (c := (cd12 [1, 1, 0, 1, 0, 0, 1, 0, 0, 0])) (i := 2) (d := (some 19)) (ty := 0) (t := 28) (e := 24) (n := a0.length) (cp := ca0) (sz := 49) (kk := .i64) (x := (.tmp 17)) (y := (.tmp 18)) (b := b32) (o' := p33) (j := t16) (by kernel_rfl) (by kernel_rfl) (slv (by kernel_rfl) hA34) (by kernel_rfl) (by kernel_rfl) (by kernel_rfl) g30.1 g30.2 ?_
     refine q_load (c := (cd12 [1, 1, 0, 1, 0, 0, 1, 0, 0, 0])) (i := 3) (d := (some 20)) (ty := 24) (t := 24) (x := (.tmp 19)) (p := ⟨b32, p33 + t16.toNat * 49, none⟩) (v := .agg (enc_api_Final (gt a0 t16)).toArray) (by kernel_rfl) (by kernel_rfl) (by kernel_rfl) (fun w hC => (loads_agg (hc35.cells hC) (by kernel_rfl) (lenK (len_api_Final _) (by kernel_rfl)))) ?_
     refine q_run 2 (is' := [6, 7, 8]) (us := [(21, .slice Aa1 a1.length ca1), (22, .int .i64 t16)]) (by kernel_rfl) ?_
     obtain ⟨g36, hp37⟩ := ite_some hp31
     obtain ⟨b38, p39, hA40, hc41⟩ := ha1.atF g36.1 g36.2
     refine q_indexAddr (c := (cd12 [1, 1, 0, 1, 0, 0, 1, 0, 0, 0])) (i := 6) (d := (some 23)) (ty := 0) (t := 28) (e := 24) (n := a1.length) (cp := ca1) (sz := 49) (kk := .i64) (x := (.tmp 21)) (y := (.tmp 22)) (b := b38) (o' := p39) (j := t16) (by kernel_rfl) (by kernel_rfl) (slv (by kernel_rfl) hA40) (by kernel_rfl) (by kernel_rfl) (by kernel_rfl) g36.1 g36.2 ?_
     refine q_load (c := (cd12 [1, 1, 0, 1, 0, 0, 1, 0, 0, 0])) (i := 7) (d := (some 24)) (ty := 24) (t := 24) (x := (.tmp 23)) (p := ⟨b38, p39 + t16.toNat * 49, none⟩) (v := .agg (enc_api_Final (gt a1 t16)).toArray) (by kernel_rfl) (by kernel_rfl) (by kernel_rfl) (fun w hC => (loads_agg (hc41.cells hC) (by kernel_rfl) (lenK (len_api_Final _) (by kernel_rfl)))) ?_
     refine q_val (c := (cd12 [1, 1, 0, 1, 0, 0, 1, 0, 0, 0])) (i := 8) (d := (some 25)) (ty := 4) (op := .binOp .neq 24 (.tmp 20) (.tmp 24) 24) (v := .bool (!(decide ((gt a0 t16) = (gt a1 t16))))) (by kernel_rfl) (by kernel_rfl) (fun w hC o ho _ => x_neq_api_Final (by kernel_rfl) (by kernel_rfl) ho) ?_
     refine q_split (!(decide ((gt a0 t16) = (gt a1 t16)))) (fun h42 => ?_) (fun h43 => ?_)
     ·skip
      have hp44 := ite_t hp37 h42
      refine Qs.nil ?_
      intro w45 hS46
      refine sx_run 5 (todo' := [.code (cd12 [1, 1, 0, 1, 0, 0, 1, 0, 0, 1, 0, 1]), .inBlock 1, .code (cd12 [1, 1, 0, 1, 0, 0, 1, 1]), .inLoop (cd12 [1, 1, 0, 1, 0, 0]), .inBlock 0, .code (cd12 [1, 1, 1])]) (us := [(4, .bool false)]) (by kernel_rfl) ?_
      refine runs_ret (fn := Tryd.f12) (v := .bool false) Tryd.func12 (by kernel_rfl) ?_
      have hr47 := (hq26 _ (Option.some.inj hp44))
      cases hr47
      exact hR _ _ ⟨rfl, hS46⟩
     ·skip
      have hp48 := ite_f hp37 h43
      refine Qs.nil ?_
      intro w49 hS50
      refine sx_run 8 (todo' := [.inLoop (cd12 [1, 1, 0, 1, 0, 0]), .inBlock 0, .code (cd12 [1, 1, 1])]) (us := [(15, .int .i64 t16), (16, .int .i64 (IntKind.i64.wrap (t16 + 1))), (5, .int .i64 (IntKind.i64.wrap (t16 + 1)))]) (by kernel_rfl) ?_
      refine sx_run 1 (todo' := [.code (cd12 [1, 1, 0, 1, 0, 0]), .inLoop (cd12 [1, 1, 0, 1, 0, 0]), .inBlock 0, .code (cd12 [1, 1, 1])]) (us := []) (by kernel_rfl) ?_
      refine Runs.fill (m := [some (.slice Aa0 a0.length ca0), some (.slice Aa1 a1.length ca1), none, none, none, some (.int .i64 (IntKind.i64.wrap (t16 + 1))), none, none, none, none, none, none, none, none, none, none, none, none, none, none, none, none, none, none, none, none]) (by kernel_rfl) ?_
      exact ih23 (IntKind.i64.wrap (t16 + 1)) _ hp48 he21 _ _ hS50
    ·skip
     have hp51 := ite_f hb22 h28
     refine sx_run 3 (todo' := [.code (cd12 [1, 1, 1])]) (us := []) (by kernel_rfl) ?_
     refine Runs.fill (m := [none, none, none, none, none, none, none, none, none, none, none, none, none, none, none, none, none, none, none, none, none, none, none, none, none, none]) (by kernel_rfl) ?_
     exact J12 ((Option.some.inj hp51).trans he21) _ _ hS18
   refine Runs.fill (m := [some (.slice Aa0 a0.length ca0), some (.slice Aa1 a1.length ca1), none, none, none, some (.int .i64 0), none, none, none, none, none, none, none, none, none, none, none, none, none, none, none, none, none, none, none, none]) (by kernel_rfl) ?_
   exact L25 0 _ hv7 rfl _ _ hS0

noncomputable def cd4 (p : List Nat) : Code := sub (bodyOf Tryd.f4) p
def weirlaw10_StateProjected.l2 (a2 : List Int) (a3 : List Int) (t332 : List Int) (t336 : Int) : Option (Sum (List Int) Bool) :=
  (if (decide (t336 < (a3.length : Int))) = true then (if 0 ≤ t336 ∧ t336 < (a3.length : Int) then (if (decide ((gt a3 t336) < 0)) = true then some (.inr (false)) else (if 0 ≤ t336 ∧ t336 < (a3.length : Int) then (if (decide ((gt a3 t336) ≥ (a2.length : Int))) = true then some (.inr (false)) else (if 0 ≤ t336 ∧ t336 < (a3.length : Int) then (if 0 ≤ (gt a3 t336) ∧ (gt a3 t336) < (a2.length : Int) then (if (t332.length + ([(gt a2 (gt a3 t336))] : List Int).length) * 8 ≤ 140737488355328 then (weirlaw10_StateProjected.l2 a2 a3 (t332 ++ ([(gt a2 (gt a3 t336))] : List Int)) (IntKind.i64.wrap (t336 + 1))) else none) else none) else none)) else none)) else none) else some (.inl t332))
 partial_fixpoint
def weirlaw10_StateProjected.l1 (a1 : Int) (t411 : List Int) (t415 : Int) : Option (List Int) :=
  (if (decide (t415 < a1)) = true then (if (t411.length + ([t415] : List Int).length) * 8 ≤ 140737488355328 then (weirlaw10_StateProjected.l1 a1 (t411 ++ ([t415] : List Int)) (IntKind.i64.wrap (t415 + 1))) else none) else some (t411))
 partial_fixpoint
def weirlaw10_StateProjected.l0 (a0 : List api_Final) (a1 : Int) (t447 : List api_Final) (t451 : Int) : Option (List api_Final) :=
  (if (decide (t451 < (a0.length : Int))) = true then (if 0 ≤ t451 ∧ t451 < (a0.length : Int) then (if (((gt a0 t451).N) == a1) = true then (if 0 ≤ t451 ∧ t451 < (a0.length : Int) then (if (t447.length + ([(gt a0 t451)] : List api_Final).length) * 392 ≤ 140737488355328 then (weirlaw10_StateProjected.l0 a0 a1 (t447 ++ ([(gt a0 t451)] : List api_Final)) (IntKind.i64.wrap (t451 + 1))) else none) else none) else (weirlaw10_StateProjected.l0 a0 a1 t447 (IntKind.i64.wrap (t451 + 1)))) else none) else some (t447))
 partial_fixpoint
def weirlaw10_StateProjected.f (a0 : List api_Final) (a1 : Int) (a2 : List Int) (a3 : List Int) : Option Bool :=
  (weirlaw10_works.f >>= (fun t1 => (if (!t1) = true then some (false) else (if (decide ((a0.length : Int) > 300)) = true then some (true) else (if (decide (a1 < 0)) = true then some (true) else (if (decide (a1 > 48)) = true then some (true) else (weirlaw10_StateProjected.l0 a0 a1 [] 0 >>= (fun t29 => (state_Sort.f t29 >>= (fun t38 => (weirlaw10_StateProjected.l1 a1 [] 0 >>= (fun t56 => (state_Project.f t38 t56 >>= (fun (t65, t66) => (weirlaw10_num.f t66 >>= (fun t86 => (if (t86 != 0) = true then some (false) else (weirlaw10_Same.f t65 t38 >>= (fun t99 => (if (!t99) = true then some (false) else (state_Project.f t38 a2 >>= (fun (t125, t126) => (weirlaw10_num.f t126 >>= (fun t141 => (if (t141 != 0) = true then (if ((t125.length : Int) == 0) = true then some (true) else some (false)) else (if (decide ((t125.length : Int) > (t38.length : Int))) = true then some (false) else (state_Rises.f t125 >>= (fun t173 => (if (!t173) = true then some (false) else (state_Project.f t125 a3 >>= (fun (t194, t195) => (weirlaw10_num.f t195 >>= (fun t209 => (if (t209 != 0) = true then (if ((t194.length : Int) == 0) = true then some (true) else some (false)) else (if ((t38.length : Int) == 0) = true then (if ((t194.length : Int) == 0) = true then some (true) else some (false)) else (weirlaw10_StateProjected.l2 a2 a3 [] 0 >>= (fun | .inl t262 => (state_Project.f t38 t262 >>= (fun (t272, t273) => (weirlaw10_num.f t273 >>= (fun t294 => (if (t294 == 0) = true then (weirlaw10_Same.f t194 t272 >>= (fun t302 => some (t302))) else some (false)))))) | .inr e => some e)))))))))))))))))))))))))))))))))))))
set_option maxHeartbeats 16000000 in
theorem weirlaw10_StateProjected.ok (a0 : List api_Final) (a1 : Int) (a2 : List Int) (a3 : List Int) (Aa0 : Option Addr) (ca0 : Nat) (Aa2 : Option Addr) (ca2 : Nat) (Aa3 : Option Addr) (ca3 : Nat) {w0 : World} {Z : Zm} {fs : List XObj} {w : World} (hS0 : St w0 Z (fs) w) (ha0 : SlZ (flat enc_api_Final) 49 Z Aa0 ca0 a0) (ha2 : SlZ (flat (encI .i64)) 1 Z Aa2 ca2 a2) (ha3 : SlZ (flat (encI .i64)) 1 Z Aa3 ca3 a3) (hE : Env Z) {q0 : Bool} (hp0 : weirlaw10_StateProjected.f a0 a1 a2 a3 = some q0) :
    Calls Tryd.prog 4 #[.slice Aa0 a0.length ca0, .int .i64 a1, .slice Aa2 a2.length ca2, .slice Aa3 a3.length ca3] w (fun e w' => e = .returned (.bool q0) ∧ St w0 Z (fs) w') := by
  refine calls_abs ?_; intro R hR
  unfold weirlaw10_StateProjected.f at hp0
  refine calls_of_runs (fn := Tryd.f4) (c := cd4 []) Tryd.func4 (by kernel_rfl) (al := [.slice Aa0 a0.length ca0, .int .i64 a1, .slice Aa2 a2.length ca2, .slice Aa3 a3.length ca3]) rfl (n := 162) rfl ?_
  refine sx_run 7 (todo' := [.inRegion (opsOf (cd4 [1, 0, 0])) [0, 1], .code (cd4 [1, 0, 1]), .code (cd4 [1, 1])]) (us := [(8, .bool false)]) (by kernel_rfl) ?_
  obtain ⟨t1, hr2, hp3⟩ := bind_some' hp0
  refine r_call1 (c := (cd4 [1, 0, 0])) (i := 0) (d := (some 24)) (g := 7) (args := #[]) (by kernel_rfl) (by kernel_rfl) (by kernel_rfl) (by kernel_rfl) (weirlaw10_works.ok hS0 hE hr2) ?_
  rintro _ w4 ⟨rfl, hS5⟩
  refine ⟨.bool t1, rfl, ?_⟩
  refine sx_split 1 (todo' := [.inRegion (opsOf (cd4 [1, 0, 0])) [], .code (cd4 [1, 0, 1]), .code (cd4 [1, 1])]) (us := []) (d := 25) (t := (!t1)) (by kernel_rfl) (fun h6 => ?_) (fun h7 => ?_)
  ·skip
   have hp8 := ite_t hp3 h6
   refine sx_run 6 (todo' := [.code (cd4 [1, 0, 1, 0, 1]), .code (cd4 [1, 1])]) (us := [(8, .bool false)]) (by kernel_rfl) ?_
   refine runs_ret (fn := Tryd.f4) (v := .bool false) Tryd.func4 (by kernel_rfl) ?_
   have hr9 := (Option.some.inj hp8)
   cases hr9
   exact hR _ _ ⟨rfl, hS5⟩
  ·skip
   have hp10 := ite_f hp3 h7
   refine sx_split 9 (todo' := [.inRegion (opsOf (cd4 [1, 1, 0, 0])) [3, 4, 5, 6, 7, 8, 9, 10], .code (cd4 [1, 1, 0, 1]), .code (cd4 [1, 1, 1])]) (us := [(26, .slice Aa0 a0.length ca0), (27, .int .i64 (a0.length : Int))]) (d := 28) (t := (decide ((a0.length : Int) > 300))) (by kernel_rfl) (fun h11 => ?_) (fun h12 => ?_)
   ·skip
    have hp13 := ite_t hp10 h11
    refine sx_run 14 (todo' := [.code (cd4 [1, 1, 0, 1, 0, 1]), .code (cd4 [1, 1, 1])]) (us := [(29, .bool true), (30, undef), (31, undef), (32, .bool true), (33, .bool true), (34, undef), (35, undef), (36, .bool true), (8, .bool true)]) (by kernel_rfl) ?_
    refine runs_ret (fn := Tryd.f4) (v := .bool true) Tryd.func4 (by kernel_rfl) ?_
    have hr14 := (Option.some.inj hp13)
    cases hr14
    exact hR _ _ ⟨rfl, hS5⟩
   ·skip
    have hp15 := ite_f hp10 h12
    refine sx_split 3 (todo' := [.inRegion (opsOf (cd4 [1, 1, 0, 0])) [6, 7, 8, 9, 10], .code (cd4 [1, 1, 0, 1]), .code (cd4 [1, 1, 1])]) (us := [(29, .bool false), (30, .int .i64 a1)]) (d := 31) (t := (decide (a1 < 0))) (by kernel_rfl) (fun h16 => ?_) (fun h17 => ?_)
    ·skip
     have hp18 := ite_t hp15 h16
     refine sx_run 11 (todo' := [.code (cd4 [1, 1, 0, 1, 0, 1]), .code (cd4 [1, 1, 1])]) (us := [(32, .bool true), (33, .bool true), (34, undef), (35, undef), (36, .bool true), (8, .bool true)]) (by kernel_rfl) ?_
     refine runs_ret (fn := Tryd.f4) (v := .bool true) Tryd.func4 (by kernel_rfl) ?_
     have hr19 := (Option.some.inj hp18)
     cases hr19
     exact hR _ _ ⟨rfl, hS5⟩
    ·skip
     have hp20 := ite_f hp15 h17
     refine sx_split 4 (todo' := [.inRegion (opsOf (cd4 [1, 1, 0, 0])) [10], .code (cd4 [1, 1, 0, 1]), .code (cd4 [1, 1, 1])]) (us := [(32, .bool false), (33, .bool false), (34, .int .i64 a1)]) (d := 35) (t := (decide (a1 > 48))) (by kernel_rfl) (fun h21 => ?_) (fun h22 => ?_)
     ·skip
      have hp23 := ite_t hp20 h21
      refine sx_run 7 (todo' := [.code (cd4 [1, 1, 0, 1, 0, 1]), .code (cd4 [1, 1, 1])]) (us := [(36, .bool true), (8, .bool true)]) (by kernel_rfl) ?_
      refine runs_ret (fn := Tryd.f4) (v := .bool true) Tryd.func4 (by kernel_rfl) ?_
      have hr24 := (Option.some.inj hp23)
      cases hr24
      exact hR _ _ ⟨rfl, hS5⟩
     ·skip
      have hp25 := ite_f hp20 h22
      refine sx_run 15 (todo' := [.code (cd4 [1, 1, 1, 1, 0, 1, 0, 0]), .inLoop (cd4 [1, 1, 1, 1, 0, 1, 0, 0]), .inBlock 0, .code (cd4 [1, 1, 1, 1, 1])]) (us := [(36, .bool false), (9, .slice none 0 0), (10, .int .i64 0)]) (by kernel_rfl) ?_
      obtain ⟨v26, hv27, hp28⟩ := bind_some' hp25
      have J35 : ∀ (t29 : List api_Final) (he37 : t29 = v26) (l36 : List Value) (A30 : Option Addr) (c31 : Nat) (w33 : World) (hS34 : St w0 Z (xrow A30 c31 24 49 (t29.flatMap enc_api_Final) :: fs) w33), Runs Tryd.prog 4 [.code (cd4 [1, 1, 1, 1, 1])] (fill [none, some (.int .i64 a1), some (.slice Aa2 a2.length ca2), some (.slice Aa3 a3.length ca3), none, none, none, none, none, some (.slice A30 t29.length c31), none, none, none, none, none, none, none, none, none, none, none, none, none, none, none, none, none, none, none, none, none, none, none, none, none, none, none, none, none, none, none, none, none, none, none, none, none, none, none, none, none, none, none, none, none, none, none, none, none, none, none, none, none, none, none, none, none, none, none, none, none, none, none, none, none, none, none, none, none, none, none, none, none, none, none, none, none, none, none, none, none, none, none, none, none, none, none, none, none, none, none, none, none, none, none, none, none, none, none, none, none, none, none, none, none, none, none, none, none, none, none, none, none, none, none, none, none, none, none, none, none, none, none, none, none, none, none, none, none, none, none, none, none, none, none, none, none, none, none, none, none, none, none, none, none, none, none, none, none, none, none, none, none, none, none, none] l36) w33 R := by
       intro t29 he37 l36 A30 c31 w33 hS34
       subst he37
       try dsimp only at hp28
       refine sx_run 3 (todo' := [.inRegion (opsOf (cd4 [1, 1, 1, 1, 1, 0])) [1, 2], .code (cd4 [1, 1, 1, 1, 1, 1])]) (us := [(57, .slice A30 t29.length c31)]) (by kernel_rfl) ?_
       obtain ⟨t38, hr41, hp42⟩ := bind_some' hp28
       obtain ⟨Z44, hz45, hS46, hs47, hb48⟩ := hS34.lendrow len_api_Final (by omega)
       refine r_call1 (c := (cd4 [1, 1, 1, 1, 1, 0])) (i := 1) (d := (some 58)) (g := 9) (args := #[.slice A30 t29.length c31]) (by kernel_rfl) (by kernel_rfl) (by kernel_rfl) (by kernel_rfl) (state_Sort.ok t29 A30 c31 hS46 hs47 hr41) ?_
       rintro _ w49 ⟨Q39, Q40, rfl, hS50⟩
       refine ⟨.slice Q39 t38.length Q40, rfl, ?_⟩
       have hS51 := hb48 _ _ hS50
       refine sx_run 13 (todo' := [.code (cd4 [1, 1, 1, 1, 1, 1, 1, 0, 1, 0, 0]), .inLoop (cd4 [1, 1, 1, 1, 1, 1, 1, 0, 1, 0, 0]), .inBlock 2, .code (cd4 [1, 1, 1, 1, 1, 1, 1, 1])]) (us := [(11, .slice Q39 t38.length Q40), (12, .slice none 0 0), (13, .int .i64 0)]) (by kernel_rfl) ?_
       have hS52 := hS51.drop
       obtain ⟨v53, hv54, hp55⟩ := bind_some' hp42
       have J62 : ∀ (t56 : List Int) (he64 : t56 = v53) (l63 : List Value) (A57 : Option Addr) (c58 : Nat) (w60 : World) (hS61 : St w0 Z (xrow Q39 Q40 24 49 (t38.flatMap enc_api_Final) :: xrow A57 c58 3 1 (t56.flatMap (encI .i64)) :: fs) w60), Runs Tryd.prog 4 [.code (cd4 [1, 1, 1, 1, 1, 1, 1, 1])] (fill [none, none, some (.slice Aa2 a2.length ca2), some (.slice Aa3 a3.length ca3), none, none, none, none, none, none, none, some (.slice Q39 t38.length Q40), some (.slice A57 t56.length c58), none, none, none, none, none, none, none, none, none, none, none, none, none, none, none, none, none, none, none, none, none, none, none, none, none, none, none, none, none, none, none, none, none, none, none, none, none, none, none, none, none, none, none, none, none, none, none, none, none, none, none, none, none, none, none, none, none, none, none, none, none, none, none, none, none, none, none, none, none, none, none, none, none, none, none, none, none, none, none, none, none, none, none, none, none, none, none, none, none, none, none, none, none, none, none, none, none, none, none, none, none, none, none, none, none, none, none, none, none, none, none, none, none, none, none, none, none, none, none, none, none, none, none, none, none, none, none, none, none, none, none, none, none, none, none, none, none, none, none, none, none, none, none, none, none, none, none, none, none, none, none, none, none] l63) w60 R := by
        intro t56 he64 l63 A57 c58 w60 hS61
        subst he64
        try dsimp only at hp55
        refine sx_run 4 (todo' := [.inRegion (opsOf (cd4 [1, 1, 1, 1, 1, 1, 1, 1, 0])) [2, 3, 4, 5, 6, 7], .code (cd4 [1, 1, 1, 1, 1, 1, 1, 1, 1])]) (us := [(69, .slice Q39 t38.length Q40), (70, .slice A57 t56.length c58)]) (by kernel_rfl) ?_
        obtain ⟨⟨t65, t66⟩, hr69, hp70⟩ := bind_some' hp55
        try dsimp only at hp70
        obtain ⟨Z72, hz73, hS74, hs75, hb76⟩ := hS61.lendrow len_api_Final (by omega)
        obtain ⟨Z77, hz78, hS79, hs80, hb81⟩ := hS74.lendrow (len_encI .i64) (by omega)
        refine r_call1 (c := (cd4 [1, 1, 1, 1, 1, 1, 1, 1, 0])) (i := 2) (d := (some 71)) (g := 10) (args := #[.slice Q39 t38.length Q40, .slice A57 t56.length c58]) (by kernel_rfl) (by kernel_rfl) (by kernel_rfl) (by kernel_rfl) (state_Project.ok t38 t56 Q39 Q40 A57 c58 hS79 (hs75.up hz78) hs80 hr69) ?_
        rintro _ w82 ⟨Q67, Q68, rfl, hS83⟩
        refine ⟨.tuple #[.slice Q67 t65.length Q68, .int .i64 t66], rfl, ?_⟩
        have hS84 := hb81 _ _ hS83
        have hS85 := hb76 _ _ hS84
        refine sx_run 10 (todo' := [.inRegion (opsOf (cd4 [1, 1, 1, 1, 1, 1, 1, 1, 1, 0, 0])) [1, 2, 3, 4, 5, 6, 7, 8], .code (cd4 [1, 1, 1, 1, 1, 1, 1, 1, 1, 0, 1]), .code (cd4 [1, 1, 1, 1, 1, 1, 1, 1, 1, 1])]) (us := [(68, .tuple #[.slice Q67 t65.length Q68, .int .i64 t66]), (72, .slice Q67 t65.length Q68), (73, .int .i64 t66), (14, .slice Q67 t65.length Q68), (15, .int .i64 t66), (74, .int .i64 t66)]) (by kernel_rfl) ?_
        obtain ⟨t86, hr87, hp88⟩ := bind_some' hp70
        refine r_call1 (c := (cd4 [1, 1, 1, 1, 1, 1, 1, 1, 1, 0, 0])) (i := 1) (d := (some 75)) (g := 11) (args := #[.int .i64 t66]) (by kernel_rfl) (by kernel_rfl) (by kernel_rfl) (by kernel_rfl) (weirlaw10_num.ok t66 hS85 hr87) ?_
        rintro _ w89 ⟨rfl, hS90⟩
        refine ⟨.int .i64 t86, rfl, ?_⟩
        refine sx_split 1 (todo' := [.inRegion (opsOf (cd4 [1, 1, 1, 1, 1, 1, 1, 1, 1, 0, 0])) [3, 4, 5, 6, 7, 8], .code (cd4 [1, 1, 1, 1, 1, 1, 1, 1, 1, 0, 1]), .code (cd4 [1, 1, 1, 1, 1, 1, 1, 1, 1, 1])]) (us := []) (d := 76) (t := (t86 != 0)) (by kernel_rfl) (fun h91 => ?_) (fun h92 => ?_)
        ·skip
         have hp93 := ite_t hp88 h91
         refine sx_run 12 (todo' := [.code (cd4 [1, 1, 1, 1, 1, 1, 1, 1, 1, 0, 1, 0, 1]), .code (cd4 [1, 1, 1, 1, 1, 1, 1, 1, 1, 1])]) (us := [(77, .bool true), (78, undef), (79, undef), (80, undef), (81, undef), (82, .bool true), (8, .bool false)]) (by kernel_rfl) ?_
         have hS94 := hS90.drop
         have hS95 := hS94.drop
         have hS96 := hS95.drop
         refine runs_ret (fn := Tryd.f4) (v := .bool false) Tryd.func4 (by kernel_rfl) ?_
         have hr97 := (Option.some.inj hp93)
         cases hr97
         exact hR _ _ ⟨rfl, hS96⟩
        ·skip
         have hp98 := ite_f hp88 h92
         refine sx_run 3 (todo' := [.inRegion (opsOf (cd4 [1, 1, 1, 1, 1, 1, 1, 1, 1, 0, 0])) [6, 7, 8], .code (cd4 [1, 1, 1, 1, 1, 1, 1, 1, 1, 0, 1]), .code (cd4 [1, 1, 1, 1, 1, 1, 1, 1, 1, 1])]) (us := [(77, .bool false), (78, .slice Q67 t65.length Q68), (79, .slice Q39 t38.length Q40)]) (by kernel_rfl) ?_
         obtain ⟨t99, hr100, hp101⟩ := bind_some' hp98
         have hS102 := hS90.pick2
         obtain ⟨Z103, hz104, hS105, hs106, hb107⟩ := hS102.lendrow len_api_Final (by omega)
         obtain ⟨Z108, hz109, hS110, hs111, hb112⟩ := hS105.lendrow len_api_Final (by omega)
         refine r_call1 (c := (cd4 [1, 1, 1, 1, 1, 1, 1, 1, 1, 0, 0])) (i := 6) (d := (some 80)) (g := 12) (args := #[.slice Q67 t65.length Q68, .slice Q39 t38.length Q40]) (by kernel_rfl) (by kernel_rfl) (by kernel_rfl) (by kernel_rfl) (weirlaw10_Same.ok t65 t38 Q67 Q68 Q39 Q40 hS110 (hs106.up hz109) hs111 hr100) ?_
         rintro _ w113 ⟨rfl, hS114⟩
         refine ⟨.bool t99, rfl, ?_⟩
         have hS115 := hb112 _ _ hS114
         have hS116 := hb107 _ _ hS115
         refine sx_split 1 (todo' := [.inRegion (opsOf (cd4 [1, 1, 1, 1, 1, 1, 1, 1, 1, 0, 0])) [8], .code (cd4 [1, 1, 1, 1, 1, 1, 1, 1, 1, 0, 1]), .code (cd4 [1, 1, 1, 1, 1, 1, 1, 1, 1, 1])]) (us := []) (d := 81) (t := (!t99)) (by kernel_rfl) (fun h117 => ?_) (fun h118 => ?_)
         ·skip
          have hp119 := ite_t hp101 h117
          refine sx_run 7 (todo' := [.code (cd4 [1, 1, 1, 1, 1, 1, 1, 1, 1, 0, 1, 0, 1]), .code (cd4 [1, 1, 1, 1, 1, 1, 1, 1, 1, 1])]) (us := [(82, .bool true), (8, .bool false)]) (by kernel_rfl) ?_
          have hS120 := hS116.drop
          have hS121 := hS120.drop
          have hS122 := hS121.drop
          refine runs_ret (fn := Tryd.f4) (v := .bool false) Tryd.func4 (by kernel_rfl) ?_
          have hr123 := (Option.some.inj hp119)
          cases hr123
          exact hR _ _ ⟨rfl, hS122⟩
         ·skip
          have hp124 := ite_f hp101 h118
          refine sx_run 8 (todo' := [.inRegion (opsOf (cd4 [1, 1, 1, 1, 1, 1, 1, 1, 1, 1, 0])) [2, 3, 4, 5, 6, 7], .code (cd4 [1, 1, 1, 1, 1, 1, 1, 1, 1, 1, 1])]) (us := [(82, .bool false), (84, .slice Q39 t38.length Q40), (85, .slice Aa2 a2.length ca2)]) (by kernel_rfl) ?_
          obtain ⟨⟨t125, t126⟩, hr129, hp130⟩ := bind_some' hp124
          try dsimp only at hp130
          have hS132 := hS116.pick1
          obtain ⟨Z133, hz134, hS135, hs136, hb137⟩ := hS132.lendrow len_api_Final (by omega)
          refine r_call1 (c := (cd4 [1, 1, 1, 1, 1, 1, 1, 1, 1, 1, 0])) (i := 2) (d := (some 86)) (g := 10) (args := #[.slice Q39 t38.length Q40, .slice Aa2 a2.length ca2]) (by kernel_rfl) (by kernel_rfl) (by kernel_rfl) (by kernel_rfl) (state_Project.ok t38 a2 Q39 Q40 Aa2 ca2 hS135 hs136 (ha2.up hz134) hr129) ?_
          rintro _ w138 ⟨Q127, Q128, rfl, hS139⟩
          refine ⟨.tuple #[.slice Q127 t125.length Q128, .int .i64 t126], rfl, ?_⟩
          have hS140 := hb137 _ _ hS139
          refine sx_run 10 (todo' := [.inRegion (opsOf (cd4 [1, 1, 1, 1, 1, 1, 1, 1, 1, 1, 1, 0, 0])) [1, 2], .code (cd4 [1, 1, 1, 1, 1, 1, 1, 1, 1, 1, 1, 0, 1]), .code (cd4 [1, 1, 1, 1, 1, 1, 1, 1, 1, 1, 1, 1])]) (us := [(83, .tuple #[.slice Q127 t125.length Q128, .int .i64 t126]), (87, .slice Q127 t125.length Q128), (88, .int .i64 t126), (16, .slice Q127 t125.length Q128), (17, .int .i64 t126), (89, .int .i64 t126)]) (by kernel_rfl) ?_
          obtain ⟨t141, hr142, hp143⟩ := bind_some' hp130
          refine r_call1 (c := (cd4 [1, 1, 1, 1, 1, 1, 1, 1, 1, 1, 1, 0, 0])) (i := 1) (d := (some 90)) (g := 11) (args := #[.int .i64 t126]) (by kernel_rfl) (by kernel_rfl) (by kernel_rfl) (by kernel_rfl) (weirlaw10_num.ok t126 hS140 hr142) ?_
          rintro _ w144 ⟨rfl, hS145⟩
          refine ⟨.int .i64 t141, rfl, ?_⟩
          refine sx_split 1 (todo' := [.inRegion (opsOf (cd4 [1, 1, 1, 1, 1, 1, 1, 1, 1, 1, 1, 0, 0])) [], .code (cd4 [1, 1, 1, 1, 1, 1, 1, 1, 1, 1, 1, 0, 1]), .code (cd4 [1, 1, 1, 1, 1, 1, 1, 1, 1, 1, 1, 1])]) (us := []) (d := 91) (t := (t141 != 0)) (by kernel_rfl) (fun h146 => ?_) (fun h147 => ?_)
          ·skip
           have hp148 := ite_t hp143 h146
           refine sx_split 7 (todo' := [.inRegion (opsOf (cd4 [1, 1, 1, 1, 1, 1, 1, 1, 1, 1, 1, 0, 1, 0, 0])) [3], .code (cd4 [1, 1, 1, 1, 1, 1, 1, 1, 1, 1, 1, 0, 1, 0, 1]), .code (cd4 [1, 1, 1, 1, 1, 1, 1, 1, 1, 1, 1, 1])]) (us := [(92, .slice Q127 t125.length Q128), (93, .int .i64 (t125.length : Int))]) (d := 94) (t := ((t125.length : Int) == 0)) (by kernel_rfl) (fun h149 => ?_) (fun h150 => ?_)
           ·skip
            have hp151 := ite_t hp148 h149
            refine sx_run 2 (todo' := [.code (cd4 [1, 1, 1, 1, 1, 1, 1, 1, 1, 1, 1, 0, 1, 0, 1]), .code (cd4 [1, 1, 1, 1, 1, 1, 1, 1, 1, 1, 1, 1])]) (us := [(8, .bool true)]) (by kernel_rfl) ?_
            have hS152 := hS145.drop
            have hS153 := hS152.drop
            have hS154 := hS153.drop
            have hS155 := hS154.drop
            refine runs_ret (fn := Tryd.f4) (v := .bool true) Tryd.func4 (by kernel_rfl) ?_
            have hr156 := (Option.some.inj hp151)
            cases hr156
            exact hR _ _ ⟨rfl, hS155⟩
           ·skip
            have hp157 := ite_f hp148 h150
            refine sx_run 2 (todo' := [.code (cd4 [1, 1, 1, 1, 1, 1, 1, 1, 1, 1, 1, 0, 1, 0, 1]), .code (cd4 [1, 1, 1, 1, 1, 1, 1, 1, 1, 1, 1, 1])]) (us := [(8, .bool false)]) (by kernel_rfl) ?_
            have hS158 := hS145.drop
            have hS159 := hS158.drop
            have hS160 := hS159.drop
            have hS161 := hS160.drop
            refine runs_ret (fn := Tryd.f4) (v := .bool false) Tryd.func4 (by kernel_rfl) ?_
            have hr162 := (Option.some.inj hp157)
            cases hr162
            exact hR _ _ ⟨rfl, hS161⟩
          ·skip
           have hp163 := ite_f hp143 h147
           refine sx_split 11 (todo' := [.inRegion (opsOf (cd4 [1, 1, 1, 1, 1, 1, 1, 1, 1, 1, 1, 1, 0, 0])) [5, 6, 7, 8, 9], .code (cd4 [1, 1, 1, 1, 1, 1, 1, 1, 1, 1, 1, 1, 0, 1]), .code (cd4 [1, 1, 1, 1, 1, 1, 1, 1, 1, 1, 1, 1, 1])]) (us := [(95, .slice Q127 t125.length Q128), (96, .int .i64 (t125.length : Int)), (97, .slice Q39 t38.length Q40), (98, .int .i64 (t38.length : Int))]) (d := 99) (t := (decide ((t125.length : Int) > (t38.length : Int)))) (by kernel_rfl) (fun h164 => ?_) (fun h165 => ?_)
           ·skip
            have hp166 := ite_t hp163 h164
            refine sx_run 11 (todo' := [.code (cd4 [1, 1, 1, 1, 1, 1, 1, 1, 1, 1, 1, 1, 0, 1, 0, 1]), .code (cd4 [1, 1, 1, 1, 1, 1, 1, 1, 1, 1, 1, 1, 1])]) (us := [(100, .bool true), (101, undef), (102, undef), (103, undef), (104, .bool true), (8, .bool false)]) (by kernel_rfl) ?_
            have hS167 := hS145.drop
            have hS168 := hS167.drop
            have hS169 := hS168.drop
            have hS170 := hS169.drop
            refine runs_ret (fn := Tryd.f4) (v := .bool false) Tryd.func4 (by kernel_rfl) ?_
            have hr171 := (Option.some.inj hp166)
            cases hr171
            exact hR _ _ ⟨rfl, hS170⟩
           ·skip
            have hp172 := ite_f hp163 h165
            refine sx_run 2 (todo' := [.inRegion (opsOf (cd4 [1, 1, 1, 1, 1, 1, 1, 1, 1, 1, 1, 1, 0, 0])) [7, 8, 9], .code (cd4 [1, 1, 1, 1, 1, 1, 1, 1, 1, 1, 1, 1, 0, 1]), .code (cd4 [1, 1, 1, 1, 1, 1, 1, 1, 1, 1, 1, 1, 1])]) (us := [(100, .bool false), (101, .slice Q127 t125.length Q128)]) (by kernel_rfl) ?_
            obtain ⟨t173, hr174, hp175⟩ := bind_some' hp172
            have hS176 := hS145.pick1
            obtain ⟨Z177, hz178, hS179, hs180, hb181⟩ := hS176.lendrow len_api_Final (by omega)
            refine r_call1 (c := (cd4 [1, 1, 1, 1, 1, 1, 1, 1, 1, 1, 1, 1, 0, 0])) (i := 7) (d := (some 102)) (g := 13) (args := #[.slice Q127 t125.length Q128]) (by kernel_rfl) (by kernel_rfl) (by kernel_rfl) (by kernel_rfl) (state_Rises.ok t125 Q127 Q128 hS179 hs180 hr174) ?_
            rintro _ w182 ⟨rfl, hS183⟩
            refine ⟨.bool t173, rfl, ?_⟩
            have hS184 := hb181 _ _ hS183
            refine sx_split 1 (todo' := [.inRegion (opsOf (cd4 [1, 1, 1, 1, 1, 1, 1, 1, 1, 1, 1, 1, 0, 0])) [9], .code (cd4 [1, 1, 1, 1, 1, 1, 1, 1, 1, 1, 1, 1, 0, 1]), .code (cd4 [1, 1, 1, 1, 1, 1, 1, 1, 1, 1, 1, 1, 1])]) (us := []) (d := 103) (t := (!t173)) (by kernel_rfl) (fun h185 => ?_) (fun h186 => ?_)
            ·skip
             have hp187 := ite_t hp175 h185
             refine sx_run 7 (todo' := [.code (cd4 [1, 1, 1, 1, 1, 1, 1, 1, 1, 1, 1, 1, 0, 1, 0, 1]), .code (cd4 [1, 1, 1, 1, 1, 1, 1, 1, 1, 1, 1, 1, 1])]) (us := [(104, .bool true), (8, .bool false)]) (by kernel_rfl) ?_
             have hS188 := hS184.drop
             have hS189 := hS188.drop
             have hS190 := hS189.drop
             have hS191 := hS190.drop
             refine runs_ret (fn := Tryd.f4) (v := .bool false) Tryd.func4 (by kernel_rfl) ?_
             have hr192 := (Option.some.inj hp187)
             cases hr192
             exact hR _ _ ⟨rfl, hS191⟩
            ·skip
             have hp193 := ite_f hp175 h186
             refine sx_run 8 (todo' := [.inRegion (opsOf (cd4 [1, 1, 1, 1, 1, 1, 1, 1, 1, 1, 1, 1, 1, 0])) [2, 3, 4, 5, 6, 7], .code (cd4 [1, 1, 1, 1, 1, 1, 1, 1, 1, 1, 1, 1, 1, 1])]) (us := [(104, .bool false), (106, .slice Q127 t125.length Q128), (107, .slice Aa3 a3.length ca3)]) (by kernel_rfl) ?_
             obtain ⟨⟨t194, t195⟩, hr198, hp199⟩ := bind_some' hp193
             try dsimp only at hp199
             obtain ⟨Z201, hz202, hS203, hs204, hb205⟩ := hS184.lendrow len_api_Final (by omega)
             refine r_call1 (c := (cd4 [1, 1, 1, 1, 1, 1, 1, 1, 1, 1, 1, 1, 1, 0])) (i := 2) (d := (some 108)) (g := 10) (args := #[.slice Q127 t125.length Q128, .slice Aa3 a3.length ca3]) (by kernel_rfl) (by kernel_rfl) (by kernel_rfl) (by kernel_rfl) (state_Project.ok t125 a3 Q127 Q128 Aa3 ca3 hS203 hs204 (ha3.up hz202) hr198) ?_
             rintro _ w206 ⟨Q196, Q197, rfl, hS207⟩
             refine ⟨.tuple #[.slice Q196 t194.length Q197, .int .i64 t195], rfl, ?_⟩
             have hS208 := hb205 _ _ hS207
             refine sx_run 10 (todo' := [.inRegion (opsOf (cd4 [1, 1, 1, 1, 1, 1, 1, 1, 1, 1, 1, 1, 1, 1, 0, 0])) [1, 2, 3, 4, 5, 6, 7], .code (cd4 [1, 1, 1, 1, 1, 1, 1, 1, 1, 1, 1, 1, 1, 1, 0, 1]), .code (cd4 [1, 1, 1, 1, 1, 1, 1, 1, 1, 1, 1, 1, 1, 1, 1])]) (us := [(105, .tuple #[.slice Q196 t194.length Q197, .int .i64 t195]), (109, .slice Q196 t194.length Q197), (110, .int .i64 t195), (18, .slice Q196 t194.length Q197), (19, .int .i64 t195), (111, .int .i64 t195)]) (by kernel_rfl) ?_
             obtain ⟨t209, hr210, hp211⟩ := bind_some' hp199
             refine r_call1 (c := (cd4 [1, 1, 1, 1, 1, 1, 1, 1, 1, 1, 1, 1, 1, 1, 0, 0])) (i := 1) (d := (some 112)) (g := 11) (args := #[.int .i64 t195]) (by kernel_rfl) (by kernel_rfl) (by kernel_rfl) (by kernel_rfl) (weirlaw10_num.ok t195 hS208 hr210) ?_
             rintro _ w212 ⟨rfl, hS213⟩
             refine ⟨.int .i64 t209, rfl, ?_⟩
             refine sx_split 1 (todo' := [.inRegion (opsOf (cd4 [1, 1, 1, 1, 1, 1, 1, 1, 1, 1, 1, 1, 1, 1, 0, 0])) [3, 4, 5, 6, 7], .code (cd4 [1, 1, 1, 1, 1, 1, 1, 1, 1, 1, 1, 1, 1, 1, 0, 1]), .code (cd4 [1, 1, 1, 1, 1, 1, 1, 1, 1, 1, 1, 1, 1, 1, 1])]) (us := []) (d := 113) (t := (t209 != 0)) (by kernel_rfl) (fun h214 => ?_) (fun h215 => ?_)
             ·skip
              have hp216 := ite_t hp211 h214
              refine sx_split 12 (todo' := [.inRegion (opsOf (cd4 [1, 1, 1, 1, 1, 1, 1, 1, 1, 1, 1, 1, 1, 1, 0, 1, 0, 0])) [3], .code (cd4 [1, 1, 1, 1, 1, 1, 1, 1, 1, 1, 1, 1, 1, 1, 0, 1, 0, 1]), .code (cd4 [1, 1, 1, 1, 1, 1, 1, 1, 1, 1, 1, 1, 1, 1, 1])]) (us := [(114, .bool true), (115, undef), (116, undef), (117, undef), (118, .bool true), (119, .slice Q196 t194.length Q197), (120, .int .i64 (t194.length : Int))]) (d := 121) (t := ((t194.length : Int) == 0)) (by kernel_rfl) (fun h217 => ?_) (fun h218 => ?_)
              ·skip
               have hp219 := ite_t hp216 h217
               refine sx_run 2 (todo' := [.code (cd4 [1, 1, 1, 1, 1, 1, 1, 1, 1, 1, 1, 1, 1, 1, 0, 1, 0, 1]), .code (cd4 [1, 1, 1, 1, 1, 1, 1, 1, 1, 1, 1, 1, 1, 1, 1])]) (us := [(8, .bool true)]) (by kernel_rfl) ?_
               have hS220 := hS213.drop
               have hS221 := hS220.drop
               have hS222 := hS221.drop
               have hS223 := hS222.drop
               have hS224 := hS223.drop
               refine runs_ret (fn := Tryd.f4) (v := .bool true) Tryd.func4 (by kernel_rfl) ?_
               have hr225 := (Option.some.inj hp219)
               cases hr225
               exact hR _ _ ⟨rfl, hS224⟩
              ·skip
               have hp226 := ite_f hp216 h218
               refine sx_run 2 (todo' := [.code (cd4 [1, 1, 1, 1, 1, 1, 1, 1, 1, 1, 1, 1, 1, 1, 0, 1, 0, 1]), .code (cd4 [1, 1, 1, 1, 1, 1, 1, 1, 1, 1, 1, 1, 1, 1, 1])]) (us := [(8, .bool false)]) (by kernel_rfl) ?_
               have hS227 := hS213.drop
               have hS228 := hS227.drop
               have hS229 := hS228.drop
               have hS230 := hS229.drop
               have hS231 := hS230.drop
               refine runs_ret (fn := Tryd.f4) (v := .bool false) Tryd.func4 (by kernel_rfl) ?_
               have hr232 := (Option.some.inj hp226)
               cases hr232
               exact hR _ _ ⟨rfl, hS231⟩
             ·skip
              have hp233 := ite_f hp211 h215
              refine sx_split 4 (todo' := [.inRegion (opsOf (cd4 [1, 1, 1, 1, 1, 1, 1, 1, 1, 1, 1, 1, 1, 1, 0, 0])) [7], .code (cd4 [1, 1, 1, 1, 1, 1, 1, 1, 1, 1, 1, 1, 1, 1, 0, 1]), .code (cd4 [1, 1, 1, 1, 1, 1, 1, 1, 1, 1, 1, 1, 1, 1, 1])]) (us := [(114, .bool false), (115, .slice Q39 t38.length Q40), (116, .int .i64 (t38.length : Int))]) (d := 117) (t := ((t38.length : Int) == 0)) (by kernel_rfl) (fun h234 => ?_) (fun h235 => ?_)
              ·skip
               have hp236 := ite_t hp233 h234
               refine sx_split 8 (todo' := [.inRegion (opsOf (cd4 [1, 1, 1, 1, 1, 1, 1, 1, 1, 1, 1, 1, 1, 1, 0, 1, 0, 0])) [3], .code (cd4 [1, 1, 1, 1, 1, 1, 1, 1, 1, 1, 1, 1, 1, 1, 0, 1, 0, 1]), .code (cd4 [1, 1, 1, 1, 1, 1, 1, 1, 1, 1, 1, 1, 1, 1, 1])]) (us := [(118, .bool true), (119, .slice Q196 t194.length Q197), (120, .int .i64 (t194.length : Int))]) (d := 121) (t := ((t194.length : Int) == 0)) (by kernel_rfl) (fun h237 => ?_) (fun h238 => ?_)
               ·skip
                have hp239 := ite_t hp236 h237
                refine sx_run 2 (todo' := [.code (cd4 [1, 1, 1, 1, 1, 1, 1, 1, 1, 1, 1, 1, 1, 1, 0, 1, 0, 1]), .code (cd4 [1, 1, 1, 1, 1, 1, 1, 1, 1, 1, 1, 1, 1, 1, 1])]) (us := [(8, .bool true)]) (by kernel_rfl) ?_
                have hS240 := hS213.drop
                have hS241 := hS240.drop
                have hS242 := hS241.drop
                have hS243 := hS242.drop
                have hS244 := hS243.drop
                refine runs_ret (fn := Tryd.f4) (v := .bool true) Tryd.func4 (by kernel_rfl) ?_
                have hr245 := (Option.some.inj hp239)
                cases hr245
                exact hR _ _ ⟨rfl, hS244⟩
               ·skip
                have hp246 := ite_f hp236 h238
                refine sx_run 2 (todo' := [.code (cd4 [1, 1, 1, 1, 1, 1, 1, 1, 1, 1, 1, 1, 1, 1, 0, 1, 0, 1]), .code (cd4 [1, 1, 1, 1, 1, 1, 1, 1, 1, 1, 1, 1, 1, 1, 1])]) (us := [(8, .bool false)]) (by kernel_rfl) ?_
                have hS247 := hS213.drop
                have hS248 := hS247.drop
                have hS249 := hS248.drop
                have hS250 := hS249.drop
                have hS251 := hS250.drop
                refine runs_ret (fn := Tryd.f4) (v := .bool false) Tryd.func4 (by kernel_rfl) ?_
                have hr252 := (Option.some.inj hp246)
                cases hr252
                exact hR _ _ ⟨rfl, hS251⟩
              ·skip
               have hp253 := ite_f hp233 h235
               refine sx_run 15 (todo' := [.code (cd4 [1, 1, 1, 1, 1, 1, 1, 1, 1, 1, 1, 1, 1, 1, 1, 1, 0, 1, 0, 0]), .inLoop (cd4 [1, 1, 1, 1, 1, 1, 1, 1, 1, 1, 1, 1, 1, 1, 1, 1, 0, 1, 0, 0]), .inBlock 4, .code (cd4 [1, 1, 1, 1, 1, 1, 1, 1, 1, 1, 1, 1, 1, 1, 1, 1, 1])]) (us := [(118, .bool false), (20, .slice none 0 0), (21, .int .i64 0)]) (by kernel_rfl) ?_
               have hS254 := hS213.drop
               have hS255 := hS254.pick2
               have hS256 := hS255.drop
               have hS257 := hS256.pick2
               have hS258 := hS257.drop
               obtain ⟨v259, hv260, hp261⟩ := bind_some' hp253
               have hq268 : ∀ x, Sum.inr x = v259 → x = q0 := by intro x hx; subst hx; simpa using hp261
               have J269 : ∀ (t262 : List Int) (he271 : Sum.inl t262 = v259) (l270 : List Value) (A263 : Option Addr) (c264 : Nat) (w266 : World) (hS267 : St w0 Z (xrow Q39 Q40 24 49 (t38.flatMap enc_api_Final) :: xrow Q196 Q197 24 49 (t194.flatMap enc_api_Final) :: xrow A263 c264 3 1 (t262.flatMap (encI .i64)) :: fs) w266), Runs Tryd.prog 4 [.code (cd4 [1, 1, 1, 1, 1, 1, 1, 1, 1, 1, 1, 1, 1, 1, 1, 1, 1])] (fill [none, none, none, none, none, none, none, none, none, none, none, some (.slice Q39 t38.length Q40), none, none, none, none, none, none, some (.slice Q196 t194.length Q197), none, some (.slice A263 t262.length c264), none, none, none, none, none, none, none, none, none, none, none, none, none, none, none, none, none, none, none, none, none, none, none, none, none, none, none, none, none, none, none, none, none, none, none, none, none, none, none, none, none, none, none, none, none, none, none, none, none, none, none, none, none, none, none, none, none, none, none, none, none, none, none, none, none, none, none, none, none, none, none, none, none, none, none, none, none, none, none, none, none, none, none, none, none, none, none, none, none, none, none, none, none, none, none, none, none, none, none, none, none, none, none, none, none, none, none, none, none, none, none, none, none, none, none, none, none, none, none, none, none, none, none, none, none, none, none, none, none, none, none, none, none, none, none, none, none, none, none, none, none, none, none, none, none] l270) w266 R := by
                intro t262 he271 l270 A263 c264 w266 hS267
                subst he271
                try dsimp only at hp261
                refine sx_run 4 (todo' := [.inRegion (opsOf (cd4 [1, 1, 1, 1, 1, 1, 1, 1, 1, 1, 1, 1, 1, 1, 1, 1, 1, 0])) [2, 3, 4, 5, 6, 7], .code (cd4 [1, 1, 1, 1, 1, 1, 1, 1, 1, 1, 1, 1, 1, 1, 1, 1, 1, 1])]) (us := [(153, .slice Q39 t38.length Q40), (154, .slice A263 t262.length c264)]) (by kernel_rfl) ?_
                obtain ⟨⟨t272, t273⟩, hr276, hp277⟩ := bind_some' hp261
                try dsimp only at hp277
                obtain ⟨Z279, hz280, hS281, hs282, hb283⟩ := hS267.lendrow len_api_Final (by omega)
                have hS284 := hS281.pick1
                obtain ⟨Z285, hz286, hS287, hs288, hb289⟩ := hS284.lendrow (len_encI .i64) (by omega)
                refine r_call1 (c := (cd4 [1, 1, 1, 1, 1, 1, 1, 1, 1, 1, 1, 1, 1, 1, 1, 1, 1, 0])) (i := 2) (d := (some 155)) (g := 10) (args := #[.slice Q39 t38.length Q40, .slice A263 t262.length c264]) (by kernel_rfl) (by kernel_rfl) (by kernel_rfl) (by kernel_rfl) (state_Project.ok t38 t262 Q39 Q40 A263 c264 hS287 (hs282.up hz286) hs288 hr276) ?_
                rintro _ w290 ⟨Q274, Q275, rfl, hS291⟩
                refine ⟨.tuple #[.slice Q274 t272.length Q275, .int .i64 t273], rfl, ?_⟩
                have hS292 := hb289 _ _ hS291
                have hS293 := hb283 _ _ hS292
                refine sx_run 9 (todo' := [.inRegion (opsOf (cd4 [1, 1, 1, 1, 1, 1, 1, 1, 1, 1, 1, 1, 1, 1, 1, 1, 1, 1, 0])) [1, 2, 3, 4, 5, 6, 7, 8], .code (cd4 [1, 1, 1, 1, 1, 1, 1, 1, 1, 1, 1, 1, 1, 1, 1, 1, 1, 1, 1])]) (us := [(152, .tuple #[.slice Q274 t272.length Q275, .int .i64 t273]), (156, .slice Q274 t272.length Q275), (157, .int .i64 t273), (22, .slice Q274 t272.length Q275), (23, .int .i64 t273), (158, .int .i64 t273)]) (by kernel_rfl) ?_
                obtain ⟨t294, hr295, hp296⟩ := bind_some' hp277
                refine r_call1 (c := (cd4 [1, 1, 1, 1, 1, 1, 1, 1, 1, 1, 1, 1, 1, 1, 1, 1, 1, 1, 0])) (i := 1) (d := (some 159)) (g := 11) (args := #[.int .i64 t273]) (by kernel_rfl) (by kernel_rfl) (by kernel_rfl) (by kernel_rfl) (weirlaw10_num.ok t273 hS293 hr295) ?_
                rintro _ w297 ⟨rfl, hS298⟩
                refine ⟨.int .i64 t294, rfl, ?_⟩
                refine sx_split 1 (todo' := [.inRegion (opsOf (cd4 [1, 1, 1, 1, 1, 1, 1, 1, 1, 1, 1, 1, 1, 1, 1, 1, 1, 1, 0])) [3, 4, 5, 6, 7, 8], .code (cd4 [1, 1, 1, 1, 1, 1, 1, 1, 1, 1, 1, 1, 1, 1, 1, 1, 1, 1, 1])]) (us := []) (d := 160) (t := (t294 == 0)) (by kernel_rfl) (fun h299 => ?_) (fun h300 => ?_)
                ·skip
                 have hp301 := ite_t hp296 h299
                 refine sx_run 3 (todo' := [.inRegion (opsOf (cd4 [1, 1, 1, 1, 1, 1, 1, 1, 1, 1, 1, 1, 1, 1, 1, 1, 1, 1, 0])) [6, 7, 8], .code (cd4 [1, 1, 1, 1, 1, 1, 1, 1, 1, 1, 1, 1, 1, 1, 1, 1, 1, 1, 1])]) (us := [(161, .bool true), (162, .slice Q196 t194.length Q197), (163, .slice Q274 t272.length Q275)]) (by kernel_rfl) ?_
                 obtain ⟨t302, hr303, hp304⟩ := bind_some' hp301
                 have hS305 := hS298.pick3
                 obtain ⟨Z306, hz307, hS308, hs309, hb310⟩ := hS305.lendrow len_api_Final (by omega)
                 have hS311 := hS308.pick2
                 obtain ⟨Z312, hz313, hS314, hs315, hb316⟩ := hS311.lendrow len_api_Final (by omega)
                 refine r_call1 (c := (cd4 [1, 1, 1, 1, 1, 1, 1, 1, 1, 1, 1, 1, 1, 1, 1, 1, 1, 1, 0])) (i := 6) (d := (some 164)) (g := 12) (args := #[.slice Q196 t194.length Q197, .slice Q274 t272.length Q275]) (by kernel_rfl) (by kernel_rfl) (by kernel_rfl) (by kernel_rfl) (weirlaw10_Same.ok t194 t272 Q196 Q197 Q274 Q275 hS314 (hs309.up hz313) hs315 hr303) ?_
                 rintro _ w317 ⟨rfl, hS318⟩
                 refine ⟨.bool t302, rfl, ?_⟩
                 have hS319 := hb316 _ _ hS318
                 have hS320 := hb310 _ _ hS319
                 refine sx_run 3 (todo' := [.code (cd4 [1, 1, 1, 1, 1, 1, 1, 1, 1, 1, 1, 1, 1, 1, 1, 1, 1, 1, 1])]) (us := [(165, .bool t302), (8, .bool t302)]) (by kernel_rfl) ?_
                 have hS321 := hS320.drop
                 have hS322 := hS321.drop
                 have hS323 := hS322.drop
                 have hS324 := hS323.drop
                 refine runs_ret (fn := Tryd.f4) (v := .bool t302) Tryd.func4 (by kernel_rfl) ?_
                 have hr325 := (Option.some.inj hp304)
                 cases hr325
                 exact hR _ _ ⟨rfl, hS324⟩
                ·skip
                 have hp326 := ite_f hp296 h300
                 refine sx_run 7 (todo' := [.code (cd4 [1, 1, 1, 1, 1, 1, 1, 1, 1, 1, 1, 1, 1, 1, 1, 1, 1, 1, 1])]) (us := [(161, .bool false), (162, undef), (163, undef), (164, undef), (165, .bool false), (8, .bool false)]) (by kernel_rfl) ?_
                 have hS327 := hS298.drop
                 have hS328 := hS327.drop
                 have hS329 := hS328.drop
                 have hS330 := hS329.drop
                 refine runs_ret (fn := Tryd.f4) (v := .bool false) Tryd.func4 (by kernel_rfl) ?_
                 have hr331 := (Option.some.inj hp326)
                 cases hr331
                 exact hR _ _ ⟨rfl, hS330⟩
               have L345 : ∀ (t332 : List Int) (t336 : Int) (e340 : Sum (List Int) Bool), weirlaw10_StateProjected.l2 a2 a3 t332 t336 = some e340 → e340 = v259 → ∀ (l339 : List Value) (A333 : Option Addr) (c334 : Nat) (w337 : World) (hS338 : St w0 Z (xrow Q39 Q40 24 49 (t38.flatMap enc_api_Final) :: xrow Q196 Q197 24 49 (t194.flatMap enc_api_Final) :: xrow A333 c334 3 1 (t332.flatMap (encI .i64)) :: fs) w337), Runs Tryd.prog 4 [.code (cd4 [1, 1, 1, 1, 1, 1, 1, 1, 1, 1, 1, 1, 1, 1, 1, 1, 0, 1, 0, 0]), .inLoop (cd4 [1, 1, 1, 1, 1, 1, 1, 1, 1, 1, 1, 1, 1, 1, 1, 1, 0, 1, 0, 0]), .inBlock 4, .code (cd4 [1, 1, 1, 1, 1, 1, 1, 1, 1, 1, 1, 1, 1, 1, 1, 1, 1])] (fill [none, none, some (.slice Aa2 a2.length ca2), some (.slice Aa3 a3.length ca3), none, none, none, none, none, none, none, some (.slice Q39 t38.length Q40), none, none, none, none, none, none, some (.slice Q196 t194.length Q197), none, some (.slice A333 t332.length c334), some (.int .i64 t336), none, none, none, none, none, none, none, none, none, none, none, none, none, none, none, none, none, none, none, none, none, none, none, none, none, none, none, none, none, none, none, none, none, none, none, none, none, none, none, none, none, none, none, none, none, none, none, none, none, none, none, none, none, none, none, none, none, none, none, none, none, none, none, none, none, none, none, none, none, none, none, none, none, none, none, none, none, none, none, none, none, none, none, none, none, none, none, none, none, none, none, none, none, none, none, none, none, none, none, none, none, none, none, none, none, none, none, none, none, none, none, none, none, none, none, none, none, none, none, none, none, none, none, none, none, none, none, none, none, none, none, none, none, none, none, none, none, none, none, none, none, none, none, none] l339) w337 R := by
                refine weirlaw10_StateProjected.l2.partial_correctness a2 a3 (fun t332 t336 e340 => e340 = v259 → ∀ (l339 : List Value) (A333 : Option Addr) (c334 : Nat) (w337 : World) (hS338 : St w0 Z (xrow Q39 Q40 24 49 (t38.flatMap enc_api_Final) :: xrow Q196 Q197 24 49 (t194.flatMap enc_api_Final) :: xrow A333 c334 3 1 (t332.flatMap (encI .i64)) :: fs) w337), Runs Tryd.prog 4 [.code (cd4 [1, 1, 1, 1, 1, 1, 1, 1, 1, 1, 1, 1, 1, 1, 1, 1, 0, 1, 0, 0]), .inLoop (cd4 [1, 1, 1, 1, 1, 1, 1, 1, 1, 1, 1, 1, 1, 1, 1, 1, 0, 1, 0, 0]), .inBlock 4, .code (cd4 [1, 1, 1, 1, 1, 1, 1, 1, 1, 1, 1, 1, 1, 1, 1, 1, 1])] (fill [none, none, some (.slice Aa2 a2.length ca2), some (.slice Aa3 a3.length ca3), none, none, none, none, none, none, none, some (.slice Q39 t38.length Q40), none, none, none, none, none, none, some (.slice Q196 t194.length Q197), none, some (.slice A333 t332.length c334), some (.int .i64 t336), none, none, none, none, none, none, none, none, none, none, none, none, none, none, none, none, none, none, none, none, none, none, none, none, none, none, none, none, none, none, none, none, none, none, none, none, none, none, none, none, none, none, none, none, none, none, none, none, none, none, none, none, none, none, none, none, none, none, none, none, none, none, none, none, none, none, none, none, none, none, none, none, none, none, none, none, none, none, none, none, none, none, none, none, none, none, none, none, none, none, none, none, none, none, none, none, none, none, none, none, none, none, none, none, none, none, none, none, none, none, none, none, none, none, none, none, none, none, none, none, none, none, none, none, none, none, none, none, none, none, none, none, none, none, none, none, none, none, none, none, none, none, none, none] l339) w337 R) ?_
                intro rec344 ih343 t332 t336 e340 hb342 he341 l339 A333 c334 w337 hS338
                have hq346 : ∀ x, Sum.inr x = e340 → x = q0 := fun x hx => hq268 x (hx.trans he341)
                refine sx_split 7 (todo' := [.inRegion (opsOf (cd4 [1, 1, 1, 1, 1, 1, 1, 1, 1, 1, 1, 1, 1, 1, 1, 1, 0, 1, 0, 0, 0, 0])) [], .code (cd4 [1, 1, 1, 1, 1, 1, 1, 1, 1, 1, 1, 1, 1, 1, 1, 1, 0, 1, 0, 0, 0, 1]), .code (cd4 [1, 1, 1, 1, 1, 1, 1, 1, 1, 1, 1, 1, 1, 1, 1, 1, 0, 1, 0, 0, 1]), .inLoop (cd4 [1, 1, 1, 1, 1, 1, 1, 1, 1, 1, 1, 1, 1, 1, 1, 1, 0, 1, 0, 0]), .inBlock 4, .code (cd4 [1, 1, 1, 1, 1, 1, 1, 1, 1, 1, 1, 1, 1, 1, 1, 1, 1])]) (us := [(122, .int .i64 t336), (123, .slice Aa3 a3.length ca3), (124, .int .i64 (a3.length : Int))]) (d := 125) (t := (decide (t336 < (a3.length : Int)))) (by kernel_rfl) (fun h347 => ?_) (fun h348 => ?_)
                ·skip
                 have hp349 := ite_t hb342 h347
                 refine sx_run 10 (todo' := [.inRegion (opsOf (cd4 [1, 1, 1, 1, 1, 1, 1, 1, 1, 1, 1, 1, 1, 1, 1, 1, 0, 1, 0, 0, 1, 0, 0, 0, 0])) [2, 3, 4, 5, 6, 7, 8, 9, 10, 11, 12, 13], .code (cd4 [1, 1, 1, 1, 1, 1, 1, 1, 1, 1, 1, 1, 1, 1, 1, 1, 0, 1, 0, 0, 1, 0, 0, 0, 1]), .code (cd4 [1, 1, 1, 1, 1, 1, 1, 1, 1, 1, 1, 1, 1, 1, 1, 1, 0, 1, 0, 0, 1, 0, 0, 1]), .inBlock 5, .code (cd4 [1, 1, 1, 1, 1, 1, 1, 1, 1, 1, 1, 1, 1, 1, 1, 1, 0, 1, 0, 0, 1, 1]), .inLoop (cd4 [1, 1, 1, 1, 1, 1, 1, 1, 1, 1, 1, 1, 1, 1, 1, 1, 0, 1, 0, 0]), .inBlock 4, .code (cd4 [1, 1, 1, 1, 1, 1, 1, 1, 1, 1, 1, 1, 1, 1, 1, 1, 1])]) (us := [(128, .slice Aa3 a3.length ca3), (129, .int .i64 t336)]) (by kernel_rfl) ?_
                 obtain ⟨g350, hp351⟩ := ite_some hp349
                 obtain ⟨b352, p353, hA354, hc355⟩ := ha3.atF g350.1 g350.2
                 refine r_indexAddr (c := (cd4 [1, 1, 1, 1, 1, 1, 1, 1, 1, 1, 1, 1, 1, 1, 1, 1, 0, 1, 0, 0, 1, 0, 0, 0, 0])) (i := 2) (d := (some 130)) (ty := 0) (t := 29) (e := 3) (n := a3.length) (cp := ca3) (sz := 1) (kk := .i64) (x := (.tmp 128)) (y := (.tmp 129)) (b := b352) (o' := p353) (j := t336) (by kernel_rfl) (by kernel_rfl) (slv (by kernel_rfl) hA354) (by kernel_rfl) (by kernel_rfl) (by kernel_rfl) g350.1 g350.2 ?_
                 refine r_load (c := (cd4 [1, 1, 1, 1, 1, 1, 1, 1, 1, 1, 1, 1, 1, 1, 1, 1, 0, 1, 0, 0, 1, 0, 0, 0, 0])) (i := 3) (d := (some 131)) (ty := 3) (t := 3) (x := (.tmp 130)) (p := ⟨b352, p353 + t336.toNat * 1, none⟩) (v := .int .i64 (gt a3 t336)) (by kernel_rfl) (by kernel_rfl) (by kernel_rfl) (loads_at 0 (hc355.cells hS338) (by kernel_rfl) (by kernel_rfl)) ?_
                 refine sx_split 1 (todo' := [.inRegion (opsOf (cd4 [1, 1, 1, 1, 1, 1, 1, 1, 1, 1, 1, 1, 1, 1, 1, 1, 0, 1, 0, 0, 1, 0, 0, 0, 0])) [5, 6, 7, 8, 9, 10, 11, 12, 13], .code (cd4 [1, 1, 1, 1, 1, 1, 1, 1, 1, 1, 1, 1, 1, 1, 1, 1, 0, 1, 0, 0, 1, 0, 0, 0, 1]), .code (cd4 [1, 1, 1, 1, 1, 1, 1, 1, 1, 1, 1, 1, 1, 1, 1, 1, 0, 1, 0, 0, 1, 0, 0, 1]), .inBlock 5, .code (cd4 [1, 1, 1, 1, 1, 1, 1, 1, 1, 1, 1, 1, 1, 1, 1, 1, 0, 1, 0, 0, 1, 1]), .inLoop (cd4 [1, 1, 1, 1, 1, 1, 1, 1, 1, 1, 1, 1, 1, 1, 1, 1, 0, 1, 0, 0]), .inBlock 4, .code (cd4 [1, 1, 1, 1, 1, 1, 1, 1, 1, 1, 1, 1, 1, 1, 1, 1, 1])]) (us := []) (d := 132) (t := (decide ((gt a3 t336) < 0))) (by kernel_rfl) (fun h356 => ?_) (fun h357 => ?_)
                 ·skip
                  have hp358 := ite_t hp351 h356
                  refine sx_run 15 (todo' := [.code (cd4 [1, 1, 1, 1, 1, 1, 1, 1, 1, 1, 1, 1, 1, 1, 1, 1, 0, 1, 0, 0, 1, 0, 0, 0, 1, 0, 1]), .code (cd4 [1, 1, 1, 1, 1, 1, 1, 1, 1, 1, 1, 1, 1, 1, 1, 1, 0, 1, 0, 0, 1, 0, 0, 1]), .inBlock 5, .code (cd4 [1, 1, 1, 1, 1, 1, 1, 1, 1, 1, 1, 1, 1, 1, 1, 1, 0, 1, 0, 0, 1, 1]), .inLoop (cd4 [1, 1, 1, 1, 1, 1, 1, 1, 1, 1, 1, 1, 1, 1, 1, 1, 0, 1, 0, 0]), .inBlock 4, .code (cd4 [1, 1, 1, 1, 1, 1, 1, 1, 1, 1, 1, 1, 1, 1, 1, 1, 1])]) (us := [(133, .bool true), (134, undef), (135, undef), (136, undef), (137, undef), (138, undef), (139, undef), (140, undef), (141, .bool true), (8, .bool false)]) (by kernel_rfl) ?_
                  have hS359 := hS338.drop
                  have hS360 := hS359.drop
                  have hS361 := hS360.drop
                  refine runs_ret (fn := Tryd.f4) (v := .bool false) Tryd.func4 (by kernel_rfl) ?_
                  have hr362 := (hq346 _ (Option.some.inj hp358))
                  cases hr362
                  exact hR _ _ ⟨rfl, hS361⟩
                 ·skip
                  have hp363 := ite_f hp351 h357
                  refine sx_run 3 (todo' := [.inRegion (opsOf (cd4 [1, 1, 1, 1, 1, 1, 1, 1, 1, 1, 1, 1, 1, 1, 1, 1, 0, 1, 0, 0, 1, 0, 0, 0, 0])) [8, 9, 10, 11, 12, 13], .code (cd4 [1, 1, 1, 1, 1, 1, 1, 1, 1, 1, 1, 1, 1, 1, 1, 1, 0, 1, 0, 0, 1, 0, 0, 0, 1]), .code (cd4 [1, 1, 1, 1, 1, 1, 1, 1, 1, 1, 1, 1, 1, 1, 1, 1, 0, 1, 0, 0, 1, 0, 0, 1]), .inBlock 5, .code (cd4 [1, 1, 1, 1, 1, 1, 1, 1, 1, 1, 1, 1, 1, 1, 1, 1, 0, 1, 0, 0, 1, 1]), .inLoop (cd4 [1, 1, 1, 1, 1, 1, 1, 1, 1, 1, 1, 1, 1, 1, 1, 1, 0, 1, 0, 0]), .inBlock 4, .code (cd4 [1, 1, 1, 1, 1, 1, 1, 1, 1, 1, 1, 1, 1, 1, 1, 1, 1])]) (us := [(133, .bool false), (134, .slice Aa3 a3.length ca3), (135, .int .i64 t336)]) (by kernel_rfl) ?_
                  obtain ⟨g364, hp365⟩ := ite_some hp363
                  obtain ⟨b366, p367, hA368, hc369⟩ := ha3.atF g364.1 g364.2
                  refine r_indexAddr (c := (cd4 [1, 1, 1, 1, 1, 1, 1, 1, 1, 1, 1, 1, 1, 1, 1, 1, 0, 1, 0, 0, 1, 0, 0, 0, 0])) (i := 8) (d := (some 136)) (ty := 0) (t := 29) (e := 3) (n := a3.length) (cp := ca3) (sz := 1) (kk := .i64) (x := (.tmp 134)) (y := (.tmp 135)) (b := b366) (o' := p367) (j := t336) (by kernel_rfl) (by kernel_rfl) (slv (by kernel_rfl) hA368) (by kernel_rfl) (by kernel_rfl) (by kernel_rfl) g364.1 g364.2 ?_
                  refine r_load (c := (cd4 [1, 1, 1, 1, 1, 1, 1, 1, 1, 1, 1, 1, 1, 1, 1, 1, 0, 1, 0, 0, 1, 0, 0, 0, 0])) (i := 9) (d := (some 137)) (ty := 3) (t := 3) (x := (.tmp 136)) (p := ⟨b366, p367 + t336.toNat * 1, none⟩) (v := .int .i64 (gt a3 t336)) (by kernel_rfl) (by kernel_rfl) (by kernel_rfl) (loads_at 0 (hc369.cells hS338) (by kernel_rfl) (by kernel_rfl)) ?_
                  refine sx_split 3 (todo' := [.inRegion (opsOf (cd4 [1, 1, 1, 1, 1, 1, 1, 1, 1, 1, 1, 1, 1, 1, 1, 1, 0, 1, 0, 0, 1, 0, 0, 0, 0])) [13], .code (cd4 [1, 1, 1, 1, 1, 1, 1, 1, 1, 1, 1, 1, 1, 1, 1, 1, 0, 1, 0, 0, 1, 0, 0, 0, 1]), .code (cd4 [1, 1, 1, 1, 1, 1, 1, 1, 1, 1, 1, 1, 1, 1, 1, 1, 0, 1, 0, 0, 1, 0, 0, 1]), .inBlock 5, .code (cd4 [1, 1, 1, 1, 1, 1, 1, 1, 1, 1, 1, 1, 1, 1, 1, 1, 0, 1, 0, 0, 1, 1]), .inLoop (cd4 [1, 1, 1, 1, 1, 1, 1, 1, 1, 1, 1, 1, 1, 1, 1, 1, 0, 1, 0, 0]), .inBlock 4, .code (cd4 [1, 1, 1, 1, 1, 1, 1, 1, 1, 1, 1, 1, 1, 1, 1, 1, 1])]) (us := [(138, .slice Aa2 a2.length ca2), (139, .int .i64 (a2.length : Int))]) (d := 140) (t := (decide ((gt a3 t336) ≥ (a2.length : Int)))) (by kernel_rfl) (fun h370 => ?_) (fun h371 => ?_)
                  ·skip
                   have hp372 := ite_t hp365 h370
                   refine sx_run 7 (todo' := [.code (cd4 [1, 1, 1, 1, 1, 1, 1, 1, 1, 1, 1, 1, 1, 1, 1, 1, 0, 1, 0, 0, 1, 0, 0, 0, 1, 0, 1]), .code (cd4 [1, 1, 1, 1, 1, 1, 1, 1, 1, 1, 1, 1, 1, 1, 1, 1, 0, 1, 0, 0, 1, 0, 0, 1]), .inBlock 5, .code (cd4 [1, 1, 1, 1, 1, 1, 1, 1, 1, 1, 1, 1, 1, 1, 1, 1, 0, 1, 0, 0, 1, 1]), .inLoop (cd4 [1, 1, 1, 1, 1, 1, 1, 1, 1, 1, 1, 1, 1, 1, 1, 1, 0, 1, 0, 0]), .inBlock 4, .code (cd4 [1, 1, 1, 1, 1, 1, 1, 1, 1, 1, 1, 1, 1, 1, 1, 1, 1])]) (us := [(141, .bool true), (8, .bool false)]) (by kernel_rfl) ?_
                   have hS373 := hS338.drop
                   have hS374 := hS373.drop
                   have hS375 := hS374.drop
                   refine runs_ret (fn := Tryd.f4) (v := .bool false) Tryd.func4 (by kernel_rfl) ?_
                   have hr376 := (hq346 _ (Option.some.inj hp372))
                   cases hr376
                   exact hR _ _ ⟨rfl, hS375⟩
                  ·skip
                   have hp377 := ite_f hp365 h371
                   refine sx_run 9 (todo' := [.inRegion (opsOf (cd4 [1, 1, 1, 1, 1, 1, 1, 1, 1, 1, 1, 1, 1, 1, 1, 1, 0, 1, 0, 0, 1, 0, 0, 1])) [4, 5, 6, 7, 8, 9, 10], .inBlock 5, .code (cd4 [1, 1, 1, 1, 1, 1, 1, 1, 1, 1, 1, 1, 1, 1, 1, 1, 0, 1, 0, 0, 1, 1]), .inLoop (cd4 [1, 1, 1, 1, 1, 1, 1, 1, 1, 1, 1, 1, 1, 1, 1, 1, 0, 1, 0, 0]), .inBlock 4, .code (cd4 [1, 1, 1, 1, 1, 1, 1, 1, 1, 1, 1, 1, 1, 1, 1, 1, 1])]) (us := [(141, .bool false), (142, .slice A333 t332.length c334), (143, .slice Aa2 a2.length ca2), (144, .slice Aa3 a3.length ca3), (145, .int .i64 t336)]) (by kernel_rfl) ?_
                   obtain ⟨g378, hp379⟩ := ite_some hp377
                   obtain ⟨b380, p381, hA382, hc383⟩ := ha3.atF g378.1 g378.2
                   refine r_indexAddr (c := (cd4 [1, 1, 1, 1, 1, 1, 1, 1, 1, 1, 1, 1, 1, 1, 1, 1, 0, 1, 0, 0, 1, 0, 0, 1])) (i := 4) (d := (some 146)) (ty := 0) (t := 29) (e := 3) (n := a3.length) (cp := ca3) (sz := 1) (kk := .i64) (x := (.tmp 144)) (y := (.tmp 145)) (b := b380) (o' := p381) (j := t336) (by kernel_rfl) (by kernel_rfl) (slv (by kernel_rfl) hA382) (by kernel_rfl) (by kernel_rfl) (by kernel_rfl) g378.1 g378.2 ?_
                   refine r_load (c := (cd4 [1, 1, 1, 1, 1, 1, 1, 1, 1, 1, 1, 1, 1, 1, 1, 1, 0, 1, 0, 0, 1, 0, 0, 1])) (i := 5) (d := (some 147)) (ty := 3) (t := 3) (x := (.tmp 146)) (p := ⟨b380, p381 + t336.toNat * 1, none⟩) (v := .int .i64 (gt a3 t336)) (by kernel_rfl) (by kernel_rfl) (by kernel_rfl) (loads_at 0 (hc383.cells hS338) (by kernel_rfl) (by kernel_rfl)) ?_
                   obtain ⟨g384, hp385⟩ := ite_some hp379
                   obtain ⟨b386, p387, hA388, hc389⟩ := ha2.atF g384.1 g384.2
                   refine r_indexAddr (c := (cd4 [1, 1, 1, 1, 1, 1, 1, 1, 1, 1, 1, 1, 1, 1, 1, 1, 0, 1, 0, 0, 1, 0, 0, 1])) (i := 6) (d := (some 148)) (ty := 0) (t := 29) (e := 3) (n := a2.length) (cp := ca2) (sz := 1) (kk := .i64) (x := (.tmp 143)) (y := (.tmp 147)) (b := b386) (o' := p387) (j := (gt a3 t336)) (by kernel_rfl) (by kernel_rfl) (slv (by kernel_rfl) hA388) (by kernel_rfl) (by kernel_rfl) (by kernel_rfl) g384.1 g384.2 ?_
                   refine r_load (c := (cd4 [1, 1, 1, 1, 1, 1, 1, 1, 1, 1, 1, 1, 1, 1, 1, 1, 0, 1, 0, 0, 1, 0, 0, 1])) (i := 7) (d := (some 149)) (ty := 3) (t := 3) (x := (.tmp 148)) (p := ⟨b386, p387 + (gt a3 t336).toNat * 1, none⟩) (v := .int .i64 (gt a2 (gt a3 t336))) (by kernel_rfl) (by kernel_rfl) (by kernel_rfl) (loads_at 0 (hc389.cells hS338) (by kernel_rfl) (by kernel_rfl)) ?_
                   refine r_lit (c := (cd4 [1, 1, 1, 1, 1, 1, 1, 1, 1, 1, 1, 1, 1, 1, 1, 1, 0, 1, 0, 0, 1, 0, 0, 1])) (i := 8) (d := (some 150)) (ty := 29) (t := 29) (e := 3) (sz := 1) (n := 1) (parts := #[(0, (.tmp 149))]) (vs := [(0, .int .i64 (gt a2 (gt a3 t336)))]) (z := zeroOf Tryd.prog 3) (cs' := ([(gt a2 (gt a3 t336))] : List Int).flatMap (encI .i64)) hS338 (by kernel_rfl) (by kernel_rfl) (by kernel_rfl) (by kernel_rfl) (by kernel_rfl) (by decide) (by decide) (by kernel_rfl) rfl (Parts.cons (c := [.int .i64 (gt a2 (gt a3 t336))]) (by kernel_rfl) rfl Parts.nil) rfl ?_
                   intro b391 w392 hS393
                   have hS394 := hS393.pick3
                   obtain ⟨g395, hp396⟩ := ite_some hp385
                   refine r_append (c := (cd4 [1, 1, 1, 1, 1, 1, 1, 1, 1, 1, 1, 1, 1, 1, 1, 1, 0, 1, 0, 0, 1, 0, 0, 1])) (i := 9) (d := (some 151)) (ty := 29) (enc := (encI .i64)) (e := 3) (u := 3) (t := 29) (t2 := 29) (sz := 1) (cp := c334) (A := A333) (bytes := 8) (xs := t332) (ys := ([(gt a2 (gt a3 t336))] : List Int)) (s := (.tmp 142)) (x := (.tmp 150)) (xv := .slice (some ⟨b391, 0, none⟩) ([(gt a2 (gt a3 t336))] : List Int).length 1) (info := infoOf Tryd.prog 3) (z := zeroOf Tryd.prog 3) (ycs := ([(gt a2 (gt a3 t336))] : List Int).flatMap (encI .i64)) hS394 (by kernel_rfl) (by kernel_rfl) (by kernel_rfl) (by kernel_rfl) (by kernel_rfl) (.inl (by kernel_rfl)) (by kernel_rfl) (by kernel_rfl) (by kernel_rfl) (by kernel_rfl) (by kernel_rfl) (by omega) (len_encI .i64) (one_encI .i64) (src_row (hS394.row 1 rfl) (by omega) (len_encI .i64)) rfl g395 (by omega) ?_
                   intro A397 c398 w399 hS400
                   refine sx_run 8 (todo' := [.inLoop (cd4 [1, 1, 1, 1, 1, 1, 1, 1, 1, 1, 1, 1, 1, 1, 1, 1, 0, 1, 0, 0]), .inBlock 4, .code (cd4 [1, 1, 1, 1, 1, 1, 1, 1, 1, 1, 1, 1, 1, 1, 1, 1, 1])]) (us := [(20, .slice A397 (t332 ++ ([(gt a2 (gt a3 t336))] : List Int)).length c398), (126, .int .i64 t336), (127, .int .i64 (IntKind.i64.wrap (t336 + 1))), (21, .int .i64 (IntKind.i64.wrap (t336 + 1)))]) (by kernel_rfl) ?_
                   have hS402 := hS400.pick1
                   have hS403 := hS402.drop
                   have hS404 := hS403.pick2
                   have hS405 := hS404.pick2
                   refine sx_run 1 (todo' := [.code (cd4 [1, 1, 1, 1, 1, 1, 1, 1, 1, 1, 1, 1, 1, 1, 1, 1, 0, 1, 0, 0]), .inLoop (cd4 [1, 1, 1, 1, 1, 1, 1, 1, 1, 1, 1, 1, 1, 1, 1, 1, 0, 1, 0, 0]), .inBlock 4, .code (cd4 [1, 1, 1, 1, 1, 1, 1, 1, 1, 1, 1, 1, 1, 1, 1, 1, 1])]) (us := []) (by kernel_rfl) ?_
                   refine Runs.fill (m := [none, none, some (.slice Aa2 a2.length ca2), some (.slice Aa3 a3.length ca3), none, none, none, none, none, none, none, some (.slice Q39 t38.length Q40), none, none, none, none, none, none, some (.slice Q196 t194.length Q197), none, some (.slice A397 (t332 ++ ([(gt a2 (gt a3 t336))] : List Int)).length c398), some (.int .i64 (IntKind.i64.wrap (t336 + 1))), none, none, none, none, none, none, none, none, none, none, none, none, none, none, none, none, none, none, none, none, none, none, none, none, none, none, none, none, none, none, none, none, none, none, none, none, none, none, none, none, none, none, none, none, none, none, none, none, none, none, none, none, none, none, none, none, none, none, none, none, none, none, none, none, none, none, none, none, none, none, none, none, none, none, none, none, none, none, none, none, none, none, none, none, none, none, none, none, none, none, none, none, none, none, none, none, none, none, none, none, none, none, none, none, none, none, none, none, none, none, none, none, none, none, none, none, none, none, none, none, none, none, none, none, none, none, none, none, none, none, none, none, none, none, none, none, none, none, none, none, none, none, none, none]) (by kernel_rfl) ?_
                   exact ih343 (t332 ++ ([(gt a2 (gt a3 t336))] : List Int)) (IntKind.i64.wrap (t336 + 1)) _ hp396 he341 _ A397 c398 _ hS405
                ·skip
                 have hp406 := ite_f hb342 h348
                 refine sx_run 3 (todo' := [.code (cd4 [1, 1, 1, 1, 1, 1, 1, 1, 1, 1, 1, 1, 1, 1, 1, 1, 1])]) (us := []) (by kernel_rfl) ?_
                 refine Runs.fill (m := [none, none, none, none, none, none, none, none, none, none, none, some (.slice Q39 t38.length Q40), none, none, none, none, none, none, some (.slice Q196 t194.length Q197), none, some (.slice A333 t332.length c334), none, none, none, none, none, none, none, none, none, none, none, none, none, none, none, none, none, none, none, none, none, none, none, none, none, none, none, none, none, none, none, none, none, none, none, none, none, none, none, none, none, none, none, none, none, none, none, none, none, none, none, none, none, none, none, none, none, none, none, none, none, none, none, none, none, none, none, none, none, none, none, none, none, none, none, none, none, none, none, none, none, none, none, none, none, none, none, none, none, none, none, none, none, none, none, none, none, none, none, none, none, none, none, none, none, none, none, none, none, none, none, none, none, none, none, none, none, none, none, none, none, none, none, none, none, none, none, none, none, none, none, none, none, none, none, none, none, none, none, none, none, none, none, none, none]) (by kernel_rfl) ?_
                 exact J269 t332 ((Option.some.inj hp406).trans he341) _ A333 c334 _ hS338
               have hS408 := hS258.nilrow none 3 1
               have hS409 := hS408.pick1
               have hS410 := hS409.pick2
               refine Runs.fill (m := [none, none, some (.slice Aa2 a2.length ca2), some (.slice Aa3 a3.length ca3), none, none, none, none, none, none, none, some (.slice Q39 t38.length Q40), none, none, none, none, none, none, some (.slice Q196 t194.length Q197), none, some (.slice none 0 0), some (.int .i64 0), none, none, none, none, none, none, none, none, none, none, none, none, none, none, none, none, none, none, none, none, none, none, none, none, none, none, none, none, none, none, none, none, none, none, none, none, none, none, none, none, none, none, none, none, none, none, none, none, none, none, none, none, none, none, none, none, none, none, none, none, none, none, none, none, none, none, none, none, none, none, none, none, none, none, none, none, none, none, none, none, none, none, none, none, none, none, none, none, none, none, none, none, none, none, none, none, none, none, none, none, none, none, none, none, none, none, none, none, none, none, none, none, none, none, none, none, none, none, none, none, none, none, none, none, none, none, none, none, none, none, none, none, none, none, none, none, none, none, none, none, none, none, none, none]) (by kernel_rfl) ?_
               exact L345 [] 0 _ hv260 rfl _ none 0 _ hS410
       have L424 : ∀ (t411 : List Int) (t415 : Int) (e419 : (List Int)), weirlaw10_StateProjected.l1 a1 t411 t415 = some e419 → e419 = v53 → ∀ (l418 : List Value) (A412 : Option Addr) (c413 : Nat) (w416 : World) (hS417 : St w0 Z (xrow Q39 Q40 24 49 (t38.flatMap enc_api_Final) :: xrow A412 c413 3 1 (t411.flatMap (encI .i64)) :: fs) w416), Runs Tryd.prog 4 [.code (cd4 [1, 1, 1, 1, 1, 1, 1, 0, 1, 0, 0]), .inLoop (cd4 [1, 1, 1, 1, 1, 1, 1, 0, 1, 0, 0]), .inBlock 2, .code (cd4 [1, 1, 1, 1, 1, 1, 1, 1])] (fill [none, some (.int .i64 a1), some (.slice Aa2 a2.length ca2), some (.slice Aa3 a3.length ca3), none, none, none, none, none, none, none, some (.slice Q39 t38.length Q40), some (.slice A412 t411.length c413), some (.int .i64 t415), none, none, none, none, none, none, none, none, none, none, none, none, none, none, none, none, none, none, none, none, none, none, none, none, none, none, none, none, none, none, none, none, none, none, none, none, none, none, none, none, none, none, none, none, none, none, none, none, none, none, none, none, none, none, none, none, none, none, none, none, none, none, none, none, none, none, none, none, none, none, none, none, none, none, none, none, none, none, none, none, none, none, none, none, none, none, none, none, none, none, none, none, none, none, none, none, none, none, none, none, none, none, none, none, none, none, none, none, none, none, none, none, none, none, none, none, none, none, none, none, none, none, none, none, none, none, none, none, none, none, none, none, none, none, none, none, none, none, none, none, none, none, none, none, none, none, none, none, none, none, none, none] l418) w416 R := by
        refine weirlaw10_StateProjected.l1.partial_correctness a1 (fun t411 t415 e419 => e419 = v53 → ∀ (l418 : List Value) (A412 : Option Addr) (c413 : Nat) (w416 : World) (hS417 : St w0 Z (xrow Q39 Q40 24 49 (t38.flatMap enc_api_Final) :: xrow A412 c413 3 1 (t411.flatMap (encI .i64)) :: fs) w416), Runs Tryd.prog 4 [.code (cd4 [1, 1, 1, 1, 1, 1, 1, 0, 1, 0, 0]), .inLoop (cd4 [1, 1, 1, 1, 1, 1, 1, 0, 1, 0, 0]), .inBlock 2, .code (cd4 [1, 1, 1, 1, 1, 1, 1, 1])] (fill [none, some (.int .i64 a1), some (.slice Aa2 a2.length ca2), some (.slice Aa3 a3.length ca3), none, none, none, none, none, none, none, some (.slice Q39 t38.length Q40), some (.slice A412 t411.length c413), some (.int .i64 t415), none, none, none, none, none, none, none, none, none, none, none, none, none, none, none, none, none, none, none, none, none, none, none, none, none, none, none, none, none, none, none, none, none, none, none, none, none, none, none, none, none, none, none, none, none, none, none, none, none, none, none, none, none, none, none, none, none, none, none, none, none, none, none, none, none, none, none, none, none, none, none, none, none, none, none, none, none, none, none, none, none, none, none, none, none, none, none, none, none, none, none, none, none, none, none, none, none, none, none, none, none, none, none, none, none, none, none, none, none, none, none, none, none, none, none, none, none, none, none, none, none, none, none, none, none, none, none, none, none, none, none, none, none, none, none, none, none, none, none, none, none, none, none, none, none, none, none, none, none, none, none, none] l418) w416 R) ?_
        intro rec423 ih422 t411 t415 e419 hb421 he420 l418 A412 c413 w416 hS417
        refine sx_split 6 (todo' := [.inRegion (opsOf (cd4 [1, 1, 1, 1, 1, 1, 1, 0, 1, 0, 0, 0, 0])) [], .code (cd4 [1, 1, 1, 1, 1, 1, 1, 0, 1, 0, 0, 0, 1]), .code (cd4 [1, 1, 1, 1, 1, 1, 1, 0, 1, 0, 0, 1]), .inLoop (cd4 [1, 1, 1, 1, 1, 1, 1, 0, 1, 0, 0]), .inBlock 2, .code (cd4 [1, 1, 1, 1, 1, 1, 1, 1])]) (us := [(59, .int .i64 t415), (60, .int .i64 a1)]) (d := 61) (t := (decide (t415 < a1))) (by kernel_rfl) (fun h425 => ?_) (fun h426 => ?_)
        ·skip
         have hp427 := ite_t hb421 h425
         refine sx_run 8 (todo' := [.inRegion (opsOf (cd4 [1, 1, 1, 1, 1, 1, 1, 0, 1, 0, 0, 1, 0, 0])) [2, 3, 4], .inBlock 3, .code (cd4 [1, 1, 1, 1, 1, 1, 1, 0, 1, 0, 0, 1, 1]), .inLoop (cd4 [1, 1, 1, 1, 1, 1, 1, 0, 1, 0, 0]), .inBlock 2, .code (cd4 [1, 1, 1, 1, 1, 1, 1, 1])]) (us := [(64, .slice A412 t411.length c413), (65, .int .i64 t415)]) (by kernel_rfl) ?_
         refine r_lit (c := (cd4 [1, 1, 1, 1, 1, 1, 1, 0, 1, 0, 0, 1, 0, 0])) (i := 2) (d := (some 66)) (ty := 29) (t := 29) (e := 3) (sz := 1) (n := 1) (parts := #[(0, (.tmp 65))]) (vs := [(0, .int .i64 t415)]) (z := zeroOf Tryd.prog 3) (cs' := ([t415] : List Int).flatMap (encI .i64)) hS417 (by kernel_rfl) (by kernel_rfl) (by kernel_rfl) (by kernel_rfl) (by kernel_rfl) (by decide) (by decide) (by kernel_rfl) rfl (Parts.cons (c := [.int .i64 t415]) (by kernel_rfl) rfl Parts.nil) rfl ?_
         intro b429 w430 hS431
         have hS432 := hS431.pick2
         obtain ⟨g433, hp434⟩ := ite_some hp427
         refine r_append (c := (cd4 [1, 1, 1, 1, 1, 1, 1, 0, 1, 0, 0, 1, 0, 0])) (i := 3) (d := (some 67)) (ty := 29) (enc := (encI .i64)) (e := 3) (u := 3) (t := 29) (t2 := 29) (sz := 1) (cp := c413) (A := A412) (bytes := 8) (xs := t411) (ys := ([t415] : List Int)) (s := (.tmp 64)) (x := (.tmp 66)) (xv := .slice (some ⟨b429, 0, none⟩) ([t415] : List Int).length 1) (info := infoOf Tryd.prog 3) (z := zeroOf Tryd.prog 3) (ycs := ([t415] : List Int).flatMap (encI .i64)) hS432 (by kernel_rfl) (by kernel_rfl) (by kernel_rfl) (by kernel_rfl) (by kernel_rfl) (.inl (by kernel_rfl)) (by kernel_rfl) (by kernel_rfl) (by kernel_rfl) (by kernel_rfl) (by kernel_rfl) (by omega) (len_encI .i64) (one_encI .i64) (src_row (hS432.row 1 rfl) (by omega) (len_encI .i64)) rfl g433 (by omega) ?_
         intro A435 c436 w437 hS438
         refine sx_run 8 (todo' := [.inLoop (cd4 [1, 1, 1, 1, 1, 1, 1, 0, 1, 0, 0]), .inBlock 2, .code (cd4 [1, 1, 1, 1, 1, 1, 1, 1])]) (us := [(12, .slice A435 (t411 ++ ([t415] : List Int)).length c436), (62, .int .i64 t415), (63, .int .i64 (IntKind.i64.wrap (t415 + 1))), (13, .int .i64 (IntKind.i64.wrap (t415 + 1)))]) (by kernel_rfl) ?_
         have hS440 := hS438.pick1
         have hS441 := hS440.drop
         have hS442 := hS441.pick1
         refine sx_run 1 (todo' := [.code (cd4 [1, 1, 1, 1, 1, 1, 1, 0, 1, 0, 0]), .inLoop (cd4 [1, 1, 1, 1, 1, 1, 1, 0, 1, 0, 0]), .inBlock 2, .code (cd4 [1, 1, 1, 1, 1, 1, 1, 1])]) (us := []) (by kernel_rfl) ?_
         refine Runs.fill (m := [none, some (.int .i64 a1), some (.slice Aa2 a2.length ca2), some (.slice Aa3 a3.length ca3), none, none, none, none, none, none, none, some (.slice Q39 t38.length Q40), some (.slice A435 (t411 ++ ([t415] : List Int)).length c436), some (.int .i64 (IntKind.i64.wrap (t415 + 1))), none, none, none, none, none, none, none, none, none, none, none, none, none, none, none, none, none, none, none, none, none, none, none, none, none, none, none, none, none, none, none, none, none, none, none, none, none, none, none, none, none, none, none, none, none, none, none, none, none, none, none, none, none, none, none, none, none, none, none, none, none, none, none, none, none, none, none, none, none, none, none, none, none, none, none, none, none, none, none, none, none, none, none, none, none, none, none, none, none, none, none, none, none, none, none, none, none, none, none, none, none, none, none, none, none, none, none, none, none, none, none, none, none, none, none, none, none, none, none, none, none, none, none, none, none, none, none, none, none, none, none, none, none, none, none, none, none, none, none, none, none, none, none, none, none, none, none, none, none, none, none, none]) (by kernel_rfl) ?_
         exact ih422 (t411 ++ ([t415] : List Int)) (IntKind.i64.wrap (t415 + 1)) _ hp434 he420 _ A435 c436 _ hS442
        ·skip
         have hp443 := ite_f hb421 h426
         refine sx_run 3 (todo' := [.code (cd4 [1, 1, 1, 1, 1, 1, 1, 1])]) (us := []) (by kernel_rfl) ?_
         refine Runs.fill (m := [none, none, some (.slice Aa2 a2.length ca2), some (.slice Aa3 a3.length ca3), none, none, none, none, none, none, none, some (.slice Q39 t38.length Q40), some (.slice A412 t411.length c413), none, none, none, none, none, none, none, none, none, none, none, none, none, none, none, none, none, none, none, none, none, none, none, none, none, none, none, none, none, none, none, none, none, none, none, none, none, none, none, none, none, none, none, none, none, none, none, none, none, none, none, none, none, none, none, none, none, none, none, none, none, none, none, none, none, none, none, none, none, none, none, none, none, none, none, none, none, none, none, none, none, none, none, none, none, none, none, none, none, none, none, none, none, none, none, none, none, none, none, none, none, none, none, none, none, none, none, none, none, none, none, none, none, none, none, none, none, none, none, none, none, none, none, none, none, none, none, none, none, none, none, none, none, none, none, none, none, none, none, none, none, none, none, none, none, none, none, none, none, none, none, none, none]) (by kernel_rfl) ?_
         exact J62 t411 ((Option.some.inj hp443).trans he420) _ A412 c413 _ hS417
       have hS445 := hS52.nilrow none 3 1
       have hS446 := hS445.pick1
       refine Runs.fill (m := [none, some (.int .i64 a1), some (.slice Aa2 a2.length ca2), some (.slice Aa3 a3.length ca3), none, none, none, none, none, none, none, some (.slice Q39 t38.length Q40), some (.slice none 0 0), some (.int .i64 0), none, none, none, none, none, none, none, none, none, none, none, none, none, none, none, none, none, none, none, none, none, none, none, none, none, none, none, none, none, none, none, none, none, none, none, none, none, none, none, none, none, none, none, none, none, none, none, none, none, none, none, none, none, none, none, none, none, none, none, none, none, none, none, none, none, none, none, none, none, none, none, none, none, none, none, none, none, none, none, none, none, none, none, none, none, none, none, none, none, none, none, none, none, none, none, none, none, none, none, none, none, none, none, none, none, none, none, none, none, none, none, none, none, none, none, none, none, none, none, none, none, none, none, none, none, none, none, none, none, none, none, none, none, none, none, none, none, none, none, none, none, none, none, none, none, none, none, none, none, none, none, none]) (by kernel_rfl) ?_
       exact L424 [] 0 _ hv54 rfl _ none 0 _ hS446
      have L460 : ∀ (t447 : List api_Final) (t451 : Int) (e455 : (List api_Final)), weirlaw10_StateProjected.l0 a0 a1 t447 t451 = some e455 → e455 = v26 → ∀ (l454 : List Value) (A448 : Option Addr) (c449 : Nat) (w452 : World) (hS453 : St w0 Z (xrow A448 c449 24 49 (t447.flatMap enc_api_Final) :: fs) w452), Runs Tryd.prog 4 [.code (cd4 [1, 1, 1, 1, 0, 1, 0, 0]), .inLoop (cd4 [1, 1, 1, 1, 0, 1, 0, 0]), .inBlock 0, .code (cd4 [1, 1, 1, 1, 1])] (fill [some (.slice Aa0 a0.length ca0), some (.int .i64 a1), some (.slice Aa2 a2.length ca2), some (.slice Aa3 a3.length ca3), none, none, none, none, none, some (.slice A448 t447.length c449), some (.int .i64 t451), none, none, none, none, none, none, none, none, none, none, none, none, none, none, none, none, none, none, none, none, none, none, none, none, none, none, none, none, none, none, none, none, none, none, none, none, none, none, none, none, none, none, none, none, none, none, none, none, none, none, none, none, none, none, none, none, none, none, none, none, none, none, none, none, none, none, none, none, none, none, none, none, none, none, none, none, none, none, none, none, none, none, none, none, none, none, none, none, none, none, none, none, none, none, none, none, none, none, none, none, none, none, none, none, none, none, none, none, none, none, none, none, none, none, none, none, none, none, none, none, none, none, none, none, none, none, none, none, none, none, none, none, none, none, none, none, none, none, none, none, none, none, none, none, none, none, none, none, none, none, none, none, none, none, none] l454) w452 R := by
       refine weirlaw10_StateProjected.l0.partial_correctness a0 a1 (fun t447 t451 e455 => e455 = v26 → ∀ (l454 : List Value) (A448 : Option Addr) (c449 : Nat) (w452 : World) (hS453 : St w0 Z (xrow A448 c449 24 49 (t447.flatMap enc_api_Final) :: fs) w452), Runs Tryd.prog 4 [.code (cd4 [1, 1, 1, 1, 0, 1, 0, 0]), .inLoop (cd4 [1, 1, 1, 1, 0, 1, 0, 0]), .inBlock 0, .code (cd4 [1, 1, 1, 1, 1])] (fill [some (.slice Aa0 a0.length ca0), some (.int .i64 a1), some (.slice Aa2 a2.length ca2), some (.slice Aa3 a3.length ca3), none, none, none, none, none, some (.slice A448 t447.length c449), some (.int .i64 t451), none, none, none, none, none, none, none, none, none, none, none, none, none, none, none, none, none, none, none, none, none, none, none, none, none, none, none, none, none, none, none, none, none, none, none, none, none, none, none, none, none, none, none, none, none, none, none, none, none, none, none, none, none, none, none, none, none, none, none, none, none, none, none, none, none, none, none, none, none, none, none, none, none, none, none, none, none, none, none, none, none, none, none, none, none, none, none, none, none, none, none, none, none, none, none, none, none, none, none, none, none, none, none, none, none, none, none, none, none, none, none, none, none, none, none, none, none, none, none, none, none, none, none, none, none, none, none, none, none, none, none, none, none, none, none, none, none, none, none, none, none, none, none, none, none, none, none, none, none, none, none, none, none, none, none] l454) w452 R) ?_
       intro rec459 ih458 t447 t451 e455 hb457 he456 l454 A448 c449 w452 hS453
       refine sx_split 7 (todo' := [.inRegion (opsOf (cd4 [1, 1, 1, 1, 0, 1, 0, 0, 0, 0])) [], .code (cd4 [1, 1, 1, 1, 0, 1, 0, 0, 0, 1]), .code (cd4 [1, 1, 1, 1, 0, 1, 0, 0, 1]), .inLoop (cd4 [1, 1, 1, 1, 0, 1, 0, 0]), .inBlock 0, .code (cd4 [1, 1, 1, 1, 1])]) (us := [(37, .int .i64 t451), (38, .slice Aa0 a0.length ca0), (39, .int .i64 (a0.length : Int))]) (d := 40) (t := (decide (t451 < (a0.length : Int)))) (by kernel_rfl) (fun h461 => ?_) (fun h462 => ?_)
       ·skip
        have hp463 := ite_t hb457 h461
        refine sx_run 9 (todo' := [.inRegion (opsOf (cd4 [1, 1, 1, 1, 0, 1, 0, 0, 1, 0, 0, 0])) [2, 3, 4, 5, 6], .code (cd4 [1, 1, 1, 1, 0, 1, 0, 0, 1, 0, 0, 1]), .inBlock 1, .code (cd4 [1, 1, 1, 1, 0, 1, 0, 0, 1, 1]), .inLoop (cd4 [1, 1, 1, 1, 0, 1, 0, 0]), .inBlock 0, .code (cd4 [1, 1, 1, 1, 1])]) (us := [(43, .slice Aa0 a0.length ca0), (44, .int .i64 t451)]) (by kernel_rfl) ?_
        obtain ⟨g464, hp465⟩ := ite_some hp463
        obtain ⟨b466, p467, hA468, hc469⟩ := ha0.atF g464.1 g464.2
        refine r_indexAddr (c := (cd4 [1, 1, 1, 1, 0, 1, 0, 0, 1, 0, 0, 0])) (i := 2) (d := (some 45)) (ty := 0) (t := 28) (e := 24) (n := a0.length) (cp := ca0) (sz := 49) (kk := .i64) (x := (.tmp 43)) (y := (.tmp 44)) (b := b466) (o' := p467) (j := t451) (by kernel_rfl) (by kernel_rfl) (slv (by kernel_rfl) hA468) (by kernel_rfl) (by kernel_rfl) (by kernel_rfl) g464.1 g464.2 ?_
        refine sx_run 1 (todo' := [.inRegion (opsOf (cd4 [1, 1, 1, 1, 0, 1, 0, 0, 1, 0, 0, 0])) [4, 5, 6], .code (cd4 [1, 1, 1, 1, 0, 1, 0, 0, 1, 0, 0, 1]), .inBlock 1, .code (cd4 [1, 1, 1, 1, 0, 1, 0, 0, 1, 1]), .inLoop (cd4 [1, 1, 1, 1, 0, 1, 0, 0]), .inBlock 0, .code (cd4 [1, 1, 1, 1, 1])]) (us := [(46, .pointer (some ⟨b466, p467 + t451.toNat * 49, none⟩))]) (by kernel_rfl) ?_
        refine r_load (c := (cd4 [1, 1, 1, 1, 0, 1, 0, 0, 1, 0, 0, 0])) (i := 4) (d := (some 47)) (ty := 3) (t := 3) (x := (.tmp 46)) (p := ⟨b466, p467 + t451.toNat * 49, none⟩) (v := .int .i64 ((gt a0 t451).N)) (by kernel_rfl) (by kernel_rfl) (by kernel_rfl) (loads_at 0 (hc469.cells hS453) (by kernel_rfl) (by kernel_rfl)) ?_
        refine sx_split 2 (todo' := [.inRegion (opsOf (cd4 [1, 1, 1, 1, 0, 1, 0, 0, 1, 0, 0, 0])) [], .code (cd4 [1, 1, 1, 1, 0, 1, 0, 0, 1, 0, 0, 1]), .inBlock 1, .code (cd4 [1, 1, 1, 1, 0, 1, 0, 0, 1, 1]), .inLoop (cd4 [1, 1, 1, 1, 0, 1, 0, 0]), .inBlock 0, .code (cd4 [1, 1, 1, 1, 1])]) (us := [(48, .int .i64 a1)]) (d := 49) (t := (((gt a0 t451).N) == a1)) (by kernel_rfl) (fun h470 => ?_) (fun h471 => ?_)
        ·skip
         have hp472 := ite_t hp465 h470
         refine sx_run 6 (todo' := [.inRegion (opsOf (cd4 [1, 1, 1, 1, 0, 1, 0, 0, 1, 0, 0, 1, 0])) [3, 4, 5, 6, 7], .inBlock 1, .code (cd4 [1, 1, 1, 1, 0, 1, 0, 0, 1, 1]), .inLoop (cd4 [1, 1, 1, 1, 0, 1, 0, 0]), .inBlock 0, .code (cd4 [1, 1, 1, 1, 1])]) (us := [(50, .slice A448 t447.length c449), (51, .slice Aa0 a0.length ca0), (52, .int .i64 t451)]) (by kernel_rfl) ?_
         obtain ⟨g473, hp474⟩ := ite_some hp472
         obtain ⟨b475, p476, hA477, hc478⟩ := ha0.atF g473.1 g473.2
         refine r_indexAddr (c := (cd4 [1, 1, 1, 1, 0, 1, 0, 0, 1, 0, 0, 1, 0])) (i := 3) (d := (some 53)) (ty := 0) (t := 28) (e := 24) (n := a0.length) (cp := ca0) (sz := 49) (kk := .i64) (x := (.tmp 51)) (y := (.tmp 52)) (b := b475) (o' := p476) (j := t451) (by kernel_rfl) (by kernel_rfl) (slv (by kernel_rfl) hA477) (by kernel_rfl) (by kernel_rfl) (by kernel_rfl) g473.1 g473.2 ?_
         refine r_load (c := (cd4 [1, 1, 1, 1, 0, 1, 0, 0, 1, 0, 0, 1, 0])) (i := 4) (d := (some 54)) (ty := 24) (t := 24) (x := (.tmp 53)) (p := ⟨b475, p476 + t451.toNat * 49, none⟩) (v := .agg (enc_api_Final (gt a0 t451)).toArray) (by kernel_rfl) (by kernel_rfl) (by kernel_rfl) (loads_agg (hc478.cells hS453) (by kernel_rfl) (lenK (len_api_Final _) (by kernel_rfl))) ?_
         refine r_lit (c := (cd4 [1, 1, 1, 1, 0, 1, 0, 0, 1, 0, 0, 1, 0])) (i := 5) (d := (some 55)) (ty := 28) (t := 28) (e := 24) (sz := 49) (n := 1) (parts := #[(0, (.tmp 54))]) (vs := [(0, .agg (enc_api_Final (gt a0 t451)).toArray)]) (z := zeroOf Tryd.prog 24) (cs' := ([(gt a0 t451)] : List api_Final).flatMap enc_api_Final) hS453 (by kernel_rfl) (by kernel_rfl) (by kernel_rfl) (by kernel_rfl) (by kernel_rfl) (by decide) (by decide) (by kernel_rfl) rfl (Parts.cons (c := enc_api_Final (gt a0 t451)) (by kernel_rfl) (len_api_Final _) Parts.nil) rfl ?_
         intro b480 w481 hS482
         have hS483 := hS482.pick1
         obtain ⟨g484, hp485⟩ := ite_some hp474
         refine r_append (c := (cd4 [1, 1, 1, 1, 0, 1, 0, 0, 1, 0, 0, 1, 0])) (i := 6) (d := (some 56)) (ty := 28) (enc := enc_api_Final) (e := 24) (u := 24) (t := 28) (t2 := 28) (sz := 49) (cp := c449) (A := A448) (bytes := 392) (xs := t447) (ys := ([(gt a0 t451)] : List api_Final)) (s := (.tmp 50)) (x := (.tmp 55)) (xv := .slice (some ⟨b480, 0, none⟩) ([(gt a0 t451)] : List api_Final).length 1) (info := infoOf Tryd.prog 24) (z := zeroOf Tryd.prog 24) (ycs := ([(gt a0 t451)] : List api_Final).flatMap enc_api_Final) hS483 (by kernel_rfl) (by kernel_rfl) (by kernel_rfl) (by kernel_rfl) (by kernel_rfl) (.inl (by kernel_rfl)) (by kernel_rfl) (by kernel_rfl) (by kernel_rfl) (by kernel_rfl) (by kernel_rfl) (by omega) len_api_Final one_api_Final (src_row (hS483.row 1 rfl) (by omega) len_api_Final) rfl g484 (by omega) ?_
         intro A486 c487 w488 hS489
         refine sx_run 8 (todo' := [.inLoop (cd4 [1, 1, 1, 1, 0, 1, 0, 0]), .inBlock 0, .code (cd4 [1, 1, 1, 1, 1])]) (us := [(9, .slice A486 (t447 ++ ([(gt a0 t451)] : List api_Final)).length c487), (41, .int .i64 t451), (42, .int .i64 (IntKind.i64.wrap (t451 + 1))), (10, .int .i64 (IntKind.i64.wrap (t451 + 1)))]) (by kernel_rfl) ?_
         have hS491 := hS489.pick1
         have hS492 := hS491.drop
         refine sx_run 1 (todo' := [.code (cd4 [1, 1, 1, 1, 0, 1, 0, 0]), .inLoop (cd4 [1, 1, 1, 1, 0, 1, 0, 0]), .inBlock 0, .code (cd4 [1, 1, 1, 1, 1])]) (us := []) (by kernel_rfl) ?_
         refine Runs.fill (m := [some (.slice Aa0 a0.length ca0), some (.int .i64 a1), some (.slice Aa2 a2.length ca2), some (.slice Aa3 a3.length ca3), none, none, none, none, none, some (.slice A486 (t447 ++ ([(gt a0 t451)] : List api_Final)).length c487), some (.int .i64 (IntKind.i64.wrap (t451 + 1))), none, none, none, none, none, none, none, none, none, none, none, none, none, none, none, none, none, none, none, none, none, none, none, none, none, none, none, none, none, none, none, none, none, none, none, none, none, none, none, none, none, none, none, none, none, none, none, none, none, none, none, none, none, none, none, none, none, none, none, none, none, none, none, none, none, none, none, none, none, none, none, none, none, none, none, none, none, none, none, none, none, none, none, none, none, none, none, none, none, none, none, none, none, none, none, none, none, none, none, none, none, none, none, none, none, none, none, none, none, none, none, none, none, none, none, none, none, none, none, none, none, none, none, none, none, none, none, none, none, none, none, none, none, none, none, none, none, none, none, none, none, none, none, none, none, none, none, none, none, none, none, none, none, none, none]) (by kernel_rfl) ?_
         exact ih458 (t447 ++ ([(gt a0 t451)] : List api_Final)) (IntKind.i64.wrap (t451 + 1)) _ hp485 he456 _ A486 c487 _ hS492
        ·skip
         have hp493 := ite_f hp465 h471
         refine sx_run 9 (todo' := [.inLoop (cd4 [1, 1, 1, 1, 0, 1, 0, 0]), .inBlock 0, .code (cd4 [1, 1, 1, 1, 1])]) (us := [(41, .int .i64 t451), (42, .int .i64 (IntKind.i64.wrap (t451 + 1))), (10, .int .i64 (IntKind.i64.wrap (t451 + 1)))]) (by kernel_rfl) ?_
         refine sx_run 1 (todo' := [.code (cd4 [1, 1, 1, 1, 0, 1, 0, 0]), .inLoop (cd4 [1, 1, 1, 1, 0, 1, 0, 0]), .inBlock 0, .code (cd4 [1, 1, 1, 1, 1])]) (us := []) (by kernel_rfl) ?_
         refine Runs.fill (m := [some (.slice Aa0 a0.length ca0), some (.int .i64 a1), some (.slice Aa2 a2.length ca2), some (.slice Aa3 a3.length ca3), none, none, none, none, none, some (.slice A448 t447.length c449), some (.int .i64 (IntKind.i64.wrap (t451 + 1))), none, none, none, none, none, none, none, none, none, none, none, none, none, none, none, none, none, none, none, none, none, none, none, none, none, none, none, none, none, none, none, none, none, none, none, none, none, none, none, none, none, none, none, none, none, none, none, none, none, none, none, none, none, none, none, none, none, none, none, none, none, none, none, none, none, none, none, none, none, none, none, none, none, none, none, none, none, none, none, none, none, none, none, none, none, none, none, none, none, none, none, none, none, none, none, none, none, none, none, none, none, none, none, none, none, none, none, none, none, none, none, none, none, none, none, none, none, none, none, none, none, none, none, none, none, none, none, none, none, none, none, none, none, none, none, none, none, none, none, none, none, none, none, none, none, none, none, none, none, none, none, none, none, none, none]) (by kernel_rfl) ?_
         exact ih458 t447 (IntKind.i64.wrap (t451 + 1)) _ hp493 he456 _ A448 c449 _ hS453
       ·skip
        have hp494 := ite_f hb457 h462
        refine sx_run 3 (todo' := [.code (cd4 [1, 1, 1, 1, 1])]) (us := []) (by kernel_rfl) ?_
        refine Runs.fill (m := [none, some (.int .i64 a1), some (.slice Aa2 a2.length ca2), some (.slice Aa3 a3.length ca3), none, none, none, none, none, some (.slice A448 t447.length c449), none, none, none, none, none, none, none, none, none, none, none, none, none, none, none, none, none, none, none, none, none, none, none, none, none, none, none, none, none, none, none, none, none, none, none, none, none, none, none, none, none, none, none, none, none, none, none, none, none, none, none, none, none, none, none, none, none, none, none, none, none, none, none, none, none, none, none, none, none, none, none, none, none, none, none, none, none, none, none, none, none, none, none, none, none, none, none, none, none, none, none, none, none, none, none, none, none, none, none, none, none, none, none, none, none, none, none, none, none, none, none, none, none, none, none, none, none, none, none, none, none, none, none, none, none, none, none, none, none, none, none, none, none, none, none, none, none, none, none, none, none, none, none, none, none, none, none, none, none, none, none, none, none, none, none, none]) (by kernel_rfl) ?_
        exact J35 t447 ((Option.some.inj hp494).trans he456) _ A448 c449 _ hS453
      have hS496 := hS5.nilrow none 24 49
      refine Runs.fill (m := [some (.slice Aa0 a0.length ca0), some (.int .i64 a1), some (.slice Aa2 a2.length ca2), some (.slice Aa3 a3.length ca3), none, none, none, none, none, some (.slice none 0 0), some (.int .i64 0), none, none, none, none, none, none, none, none, none, none, none, none, none, none, none, none, none, none, none, none, none, none, none, none, none, none, none, none, none, none, none, none, none, none, none, none, none, none, none, none, none, none, none, none, none, none, none, none, none, none, none, none, none, none, none, none, none, none, none, none, none, none, none, none, none, none, none, none, none, none, none, none, none, none, none, none, none, none, none, none, none, none, none, none, none, none, none, none, none, none, none, none, none, none, none, none, none, none, none, none, none, none, none, none, none, none, none, none, none, none, none, none, none, none, none, none, none, none, none, none, none, none, none, none, none, none, none, none, none, none, none, none, none, none, none, none, none, none, none, none, none, none, none, none, none, none, none, none, none, none, none, none, none, none, none]) (by kernel_rfl) ?_
      exact L460 [] 0 _ hv27 rfl _ none 0 _ hS496

end
end Go.Proofs.YtjbhgahbaeoinaaDoor.K
