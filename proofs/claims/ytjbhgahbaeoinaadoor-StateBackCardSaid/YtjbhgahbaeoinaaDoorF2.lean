/- The walk, part 2: each Go function as a plain Lean function, and that its call answers as that function says. No condition. -/
import Derived.Test.YtjbhgahbaeoinaaDoorE
import Derived.Test.YtjbhgahbaeoinaaDoorNS
import Derived.Test.YtjbhgahbaeoinaaDoorLS
import Derived.Test.YtjbhgahbaeoinaaDoorNG
import Derived.Test.YtjbhgahbaeoinaaDoorNV
import Derived.Test.YtjbhgahbaeoinaaDoorNB
import Derived.Test.YtjbhgahbaeoinaaDoorF1
set_option linter.unusedVariables false
set_option linter.unusedSimpArgs false
set_option maxRecDepth 100000
namespace Go.Proofs.YtjbhgahbaeoinaaDoor.K
open Go Go.RowKit
noncomputable section
noncomputable def cd3 (p : List Nat) : Code := sub (bodyOf Tryd.f3) p
def weirlaw10_StateTotal.f (a0 : api_Final) (a1 : api_Final) (a2 : api_Final) : Option Bool :=
  (weirlaw10_works.f >>= (fun t13 => (if (!t13) = true then some (false) else (state_Compare.f a0 a1 >>= (fun t26 => (state_Compare.f a1 a2 >>= (fun t31 => (state_Compare.f a0 a2 >>= (fun t36 => (((if (decide (t26 < (-1))) = true then some (.inr (false)) else (if (decide (t26 > 1)) = true then some (.inr (false)) else (state_Compare.f a1 a0 >>= (fun t127 => (if (t26 != (IntKind.i64.wrap (0 - t127))) = true then some (.inr (false)) else (if (t26 == 0) = true then (if (decide (a0 = a1)) = true then some (.inl ()) else some (.inr (false))) else (if (decide (a0 = a1)) = true then some (.inr (false)) else some (.inl ())))))))) : Option (Sum Unit Bool)) >>= (fun | .inl () => (if (decide (t26 ≤ 0)) = true then (if (decide (t31 ≤ 0)) = true then (if (decide (t36 > 0)) = true then some (false) else (if (decide (t26 ≥ 0)) = true then (if (decide (t31 ≥ 0)) = true then (if (decide (t36 < 0)) = true then some (false) else some (true)) else some (true)) else some (true))) else (if (decide (t26 ≥ 0)) = true then (if (decide (t31 ≥ 0)) = true then (if (decide (t36 < 0)) = true then some (false) else some (true)) else some (true)) else some (true))) else (if (decide (t26 ≥ 0)) = true then (if (decide (t31 ≥ 0)) = true then (if (decide (t36 < 0)) = true then some (false) else some (true)) else some (true)) else some (true))) | .inr e => some e)))))))))))
set_option maxHeartbeats 16000000 in
theorem weirlaw10_StateTotal.ok (a0 : api_Final) (a1 : api_Final) (a2 : api_Final) {w0 : World} {Z : Zm} {fs : List XObj} {w : World} (hS0 : St w0 Z (fs) w) (hE : Env Z) {q0 : Bool} (hp0 : weirlaw10_StateTotal.f a0 a1 a2 = some q0) :
    Calls Tryd.prog 3 #[.agg (enc_api_Final a0).toArray, .agg (enc_api_Final a1).toArray, .agg (enc_api_Final a2).toArray] w (fun e w' => e = .returned (.bool q0) ∧ St w0 Z (fs) w') := by
  refine calls_abs ?_; intro R hR
  unfold weirlaw10_StateTotal.f at hp0
  refine calls_of_runs (fn := Tryd.f3) (c := cd3 []) Tryd.func3 (by kernel_rfl) (al := [.agg (enc_api_Final a0).toArray, .agg (enc_api_Final a1).toArray, .agg (enc_api_Final a2).toArray]) rfl (n := 64) rfl ?_
  refine sx_run 2 (todo' := [.inRegion (opsOf (cd3 [0])) [0, 1, 2, 3], .code (cd3 [1])]) (us := []) (by kernel_rfl) ?_
  refine r_box (c := (cd3 [0])) (i := 0) (d := (some 3)) (ty := 0) (x := (.tmp 0)) (v := .agg (enc_api_Final a0).toArray) (t := 24) (cs := enc_api_Final a0) hS0 (by kernel_rfl) (by kernel_rfl) (by kernel_rfl) (by kernel_rfl) ?_
  intro b1 w2 hS3
  refine r_box (c := (cd3 [0])) (i := 1) (d := (some 4)) (ty := 0) (x := (.tmp 1)) (v := .agg (enc_api_Final a1).toArray) (t := 24) (cs := enc_api_Final a1) hS3 (by kernel_rfl) (by kernel_rfl) (by kernel_rfl) (by kernel_rfl) ?_
  intro b5 w6 hS7
  refine r_box (c := (cd3 [0])) (i := 2) (d := (some 5)) (ty := 0) (x := (.tmp 2)) (v := .agg (enc_api_Final a2).toArray) (t := 24) (cs := enc_api_Final a2) hS7 (by kernel_rfl) (by kernel_rfl) (by kernel_rfl) (by kernel_rfl) ?_
  intro b9 w10 hS11
  refine sx_run 5 (todo' := [.inRegion (opsOf (cd3 [1, 0, 0])) [0, 1], .code (cd3 [1, 0, 1]), .code (cd3 [1, 1])]) (us := [(6, .bool false)]) (by kernel_rfl) ?_
  obtain ⟨t13, hr14, hp15⟩ := bind_some' hp0
  refine r_call1 (c := (cd3 [1, 0, 0])) (i := 0) (d := (some 10)) (g := 7) (args := #[]) (by kernel_rfl) (by kernel_rfl) (by kernel_rfl) (by kernel_rfl) (weirlaw10_works.ok hS11 hE hr14) ?_
  rintro _ w16 ⟨rfl, hS17⟩
  refine ⟨.bool t13, rfl, ?_⟩
  refine sx_split 1 (todo' := [.inRegion (opsOf (cd3 [1, 0, 0])) [], .code (cd3 [1, 0, 1]), .code (cd3 [1, 1])]) (us := []) (d := 11) (t := (!t13)) (by kernel_rfl) (fun h18 => ?_) (fun h19 => ?_)
  ·skip
   have hp20 := ite_t hp15 h18
   refine sx_run 6 (todo' := [.code (cd3 [1, 0, 1, 0, 1]), .code (cd3 [1, 1])]) (us := [(6, .bool false)]) (by kernel_rfl) ?_
   have hS21 := hS17.drop
   have hS22 := hS21.drop
   have hS23 := hS22.drop
   refine runs_ret (fn := Tryd.f3) (v := .bool false) Tryd.func3 (by kernel_rfl) ?_
   have hr24 := (Option.some.inj hp20)
   cases hr24
   exact hR _ _ ⟨rfl, hS23⟩
  ·skip
   have hp25 := ite_f hp15 h19
   refine sx_run 5 (todo' := [.inRegion (opsOf (cd3 [1, 1, 0])) [0, 1, 2, 3], .code (cd3 [1, 1, 1])]) (us := []) (by kernel_rfl) ?_
   refine r_load (c := (cd3 [1, 1, 0])) (i := 0) (d := (some 12)) (ty := 24) (t := 24) (x := (.tmp 3)) (p := ⟨b1, 0, none⟩) (v := .agg (enc_api_Final a0).toArray) (by kernel_rfl) (by kernel_rfl) (by kernel_rfl) (loads_agg (hS17.blk 2 rfl) (by kernel_rfl) (lenK (len_api_Final _) (by kernel_rfl))) ?_
   refine r_load (c := (cd3 [1, 1, 0])) (i := 1) (d := (some 13)) (ty := 24) (t := 24) (x := (.tmp 4)) (p := ⟨b5, 0, none⟩) (v := .agg (enc_api_Final a1).toArray) (by kernel_rfl) (by kernel_rfl) (by kernel_rfl) (loads_agg (hS17.blk 1 rfl) (by kernel_rfl) (lenK (len_api_Final _) (by kernel_rfl))) ?_
   obtain ⟨t26, hr27, hp28⟩ := bind_some' hp25
   refine r_call1 (c := (cd3 [1, 1, 0])) (i := 2) (d := (some 14)) (g := 8) (args := #[.agg (enc_api_Final a0).toArray, .agg (enc_api_Final a1).toArray]) (by kernel_rfl) (by kernel_rfl) (by kernel_rfl) (by kernel_rfl) (state_Compare.ok a0 a1 hS17 hr27) ?_
   rintro _ w29 ⟨rfl, hS30⟩
   refine ⟨.int .i64 t26, rfl, ?_⟩
   refine sx_run 4 (todo' := [.inRegion (opsOf (cd3 [1, 1, 1, 0])) [0, 1, 2, 3], .code (cd3 [1, 1, 1, 1])]) (us := [(7, .int .i64 t26)]) (by kernel_rfl) ?_
   refine r_load (c := (cd3 [1, 1, 1, 0])) (i := 0) (d := (some 15)) (ty := 24) (t := 24) (x := (.tmp 4)) (p := ⟨b5, 0, none⟩) (v := .agg (enc_api_Final a1).toArray) (by kernel_rfl) (by kernel_rfl) (by kernel_rfl) (loads_agg (hS30.blk 1 rfl) (by kernel_rfl) (lenK (len_api_Final _) (by kernel_rfl))) ?_
   refine r_load (c := (cd3 [1, 1, 1, 0])) (i := 1) (d := (some 16)) (ty := 24) (t := 24) (x := (.tmp 5)) (p := ⟨b9, 0, none⟩) (v := .agg (enc_api_Final a2).toArray) (by kernel_rfl) (by kernel_rfl) (by kernel_rfl) (loads_agg (hS30.blk 0 rfl) (by kernel_rfl) (lenK (len_api_Final _) (by kernel_rfl))) ?_
   obtain ⟨t31, hr32, hp33⟩ := bind_some' hp28
   refine r_call1 (c := (cd3 [1, 1, 1, 0])) (i := 2) (d := (some 17)) (g := 8) (args := #[.agg (enc_api_Final a1).toArray, .agg (enc_api_Final a2).toArray]) (by kernel_rfl) (by kernel_rfl) (by kernel_rfl) (by kernel_rfl) (state_Compare.ok a1 a2 hS30 hr32) ?_
   rintro _ w34 ⟨rfl, hS35⟩
   refine ⟨.int .i64 t31, rfl, ?_⟩
   refine sx_run 4 (todo' := [.inRegion (opsOf (cd3 [1, 1, 1, 1, 0])) [0, 1, 2, 3], .code (cd3 [1, 1, 1, 1, 1])]) (us := [(8, .int .i64 t31)]) (by kernel_rfl) ?_
   refine r_load (c := (cd3 [1, 1, 1, 1, 0])) (i := 0) (d := (some 18)) (ty := 24) (t := 24) (x := (.tmp 3)) (p := ⟨b1, 0, none⟩) (v := .agg (enc_api_Final a0).toArray) (by kernel_rfl) (by kernel_rfl) (by kernel_rfl) (loads_agg (hS35.blk 2 rfl) (by kernel_rfl) (lenK (len_api_Final _) (by kernel_rfl))) ?_
   refine r_load (c := (cd3 [1, 1, 1, 1, 0])) (i := 1) (d := (some 19)) (ty := 24) (t := 24) (x := (.tmp 5)) (p := ⟨b9, 0, none⟩) (v := .agg (enc_api_Final a2).toArray) (by kernel_rfl) (by kernel_rfl) (by kernel_rfl) (loads_agg (hS35.blk 0 rfl) (by kernel_rfl) (lenK (len_api_Final _) (by kernel_rfl))) ?_
   obtain ⟨t36, hr37, hp38⟩ := bind_some' hp33
   refine r_call1 (c := (cd3 [1, 1, 1, 1, 0])) (i := 2) (d := (some 20)) (g := 8) (args := #[.agg (enc_api_Final a0).toArray, .agg (enc_api_Final a2).toArray]) (by kernel_rfl) (by kernel_rfl) (by kernel_rfl) (by kernel_rfl) (state_Compare.ok a0 a2 hS35 hr37) ?_
   rintro _ w39 ⟨rfl, hS40⟩
   refine ⟨.int .i64 t36, rfl, ?_⟩
   obtain ⟨v41, hv42, hp43⟩ := bind_some' hp38
   have hq46 : ∀ x, Sum.inr x = v41 → x = q0 := by intro x hx; subst hx; simpa using hp43
   have J47 : ∀ (he49 : Sum.inl () = v41) (l48 : List Value) (w44 : World) (hS45 : St w0 Z (fs) w44), Runs Tryd.prog 3 [.code (cd3 [1, 1, 1, 1, 1, 1])] (fill [none, none, none, none, none, none, none, some (.int .i64 t26), some (.int .i64 t31), some (.int .i64 t36), none, none, none, none, none, none, none, none, none, none, none, none, none, none, none, none, none, none, none, none, none, none, none, none, none, none, none, none, none, none, none, none, none, none, none, none, none, none, none, none, none, none, none, none, none, none, none, none, none, none, none, none, none, none, none, none, none] l48) w44 R := by
    intro he49 l48 w44 hS45
    subst he49
    try dsimp only at hp43
    refine sx_split 4 (todo' := [.inRegion (opsOf (cd3 [1, 1, 1, 1, 1, 1, 0])) [2, 3, 4, 5, 6, 7, 8, 9, 10, 11, 12, 13, 14, 15, 16, 17, 18, 19, 20, 21, 22, 23, 24], .code (cd3 [1, 1, 1, 1, 1, 1, 1])]) (us := [(43, .int .i64 t26)]) (d := 44) (t := (decide (t26 ≤ 0))) (by kernel_rfl) (fun h50 => ?_) (fun h51 => ?_)
    ·skip
     have hp52 := ite_t hp43 h50
     refine sx_split 3 (todo' := [.inRegion (opsOf (cd3 [1, 1, 1, 1, 1, 1, 0])) [5, 6, 7, 8, 9, 10, 11, 12, 13, 14, 15, 16, 17, 18, 19, 20, 21, 22, 23, 24], .code (cd3 [1, 1, 1, 1, 1, 1, 1])]) (us := [(45, .bool true), (46, .int .i64 t31)]) (d := 47) (t := (decide (t31 ≤ 0))) (by kernel_rfl) (fun h53 => ?_) (fun h54 => ?_)
     ·skip
      have hp55 := ite_t hp52 h53
      refine sx_split 4 (todo' := [.inRegion (opsOf (cd3 [1, 1, 1, 1, 1, 1, 0])) [9, 10, 11, 12, 13, 14, 15, 16, 17, 18, 19, 20, 21, 22, 23, 24], .code (cd3 [1, 1, 1, 1, 1, 1, 1])]) (us := [(48, .bool true), (49, .bool true), (50, .int .i64 t36)]) (d := 51) (t := (decide (t36 > 0))) (by kernel_rfl) (fun h56 => ?_) (fun h57 => ?_)
      ·skip
       have hp58 := ite_t hp55 h56
       refine sx_run 17 (todo' := [.code (cd3 [1, 1, 1, 1, 1, 1, 1])]) (us := [(52, .bool true), (53, .bool false), (54, .bool false), (55, undef), (56, undef), (57, undef), (58, undef), (59, undef), (60, undef), (61, undef), (62, undef), (63, undef), (64, undef), (65, undef), (66, .bool false), (6, .bool false)]) (by kernel_rfl) ?_
       refine runs_ret (fn := Tryd.f3) (v := .bool false) Tryd.func3 (by kernel_rfl) ?_
       have hr59 := (Option.some.inj hp58)
       cases hr59
       exact hR _ _ ⟨rfl, hS45⟩
      ·skip
       have hp60 := ite_f hp55 h57
       refine sx_split 5 (todo' := [.inRegion (opsOf (cd3 [1, 1, 1, 1, 1, 1, 0])) [14, 15, 16, 17, 18, 19, 20, 21, 22, 23, 24], .code (cd3 [1, 1, 1, 1, 1, 1, 1])]) (us := [(52, .bool false), (53, .bool true), (54, .bool true), (55, .int .i64 t26)]) (d := 56) (t := (decide (t26 ≥ 0))) (by kernel_rfl) (fun h61 => ?_) (fun h62 => ?_)
       ·skip
        have hp63 := ite_t hp60 h61
        refine sx_split 3 (todo' := [.inRegion (opsOf (cd3 [1, 1, 1, 1, 1, 1, 0])) [17, 18, 19, 20, 21, 22, 23, 24], .code (cd3 [1, 1, 1, 1, 1, 1, 1])]) (us := [(57, .bool true), (58, .int .i64 t31)]) (d := 59) (t := (decide (t31 ≥ 0))) (by kernel_rfl) (fun h64 => ?_) (fun h65 => ?_)
        ·skip
         have hp66 := ite_t hp63 h64
         refine sx_split 4 (todo' := [.inRegion (opsOf (cd3 [1, 1, 1, 1, 1, 1, 0])) [21, 22, 23, 24], .code (cd3 [1, 1, 1, 1, 1, 1, 1])]) (us := [(60, .bool true), (61, .bool true), (62, .int .i64 t36)]) (d := 63) (t := (decide (t36 < 0))) (by kernel_rfl) (fun h67 => ?_) (fun h68 => ?_)
         ·skip
          have hp69 := ite_t hp66 h67
          refine sx_run 5 (todo' := [.code (cd3 [1, 1, 1, 1, 1, 1, 1])]) (us := [(64, .bool true), (65, .bool false), (66, .bool false), (6, .bool false)]) (by kernel_rfl) ?_
          refine runs_ret (fn := Tryd.f3) (v := .bool false) Tryd.func3 (by kernel_rfl) ?_
          have hr70 := (Option.some.inj hp69)
          cases hr70
          exact hR _ _ ⟨rfl, hS45⟩
         ·skip
          have hp71 := ite_f hp66 h68
          refine sx_run 5 (todo' := [.code (cd3 [1, 1, 1, 1, 1, 1, 1])]) (us := [(64, .bool false), (65, .bool true), (66, .bool true), (6, .bool true)]) (by kernel_rfl) ?_
          refine runs_ret (fn := Tryd.f3) (v := .bool true) Tryd.func3 (by kernel_rfl) ?_
          have hr72 := (Option.some.inj hp71)
          cases hr72
          exact hR _ _ ⟨rfl, hS45⟩
        ·skip
         have hp73 := ite_f hp63 h65
         refine sx_run 9 (todo' := [.code (cd3 [1, 1, 1, 1, 1, 1, 1])]) (us := [(60, .bool false), (61, .bool false), (62, undef), (63, undef), (64, .bool false), (65, .bool true), (66, .bool true), (6, .bool true)]) (by kernel_rfl) ?_
         refine runs_ret (fn := Tryd.f3) (v := .bool true) Tryd.func3 (by kernel_rfl) ?_
         have hr74 := (Option.some.inj hp73)
         cases hr74
         exact hR _ _ ⟨rfl, hS45⟩
       ·skip
        have hp75 := ite_f hp60 h62
        refine sx_run 12 (todo' := [.code (cd3 [1, 1, 1, 1, 1, 1, 1])]) (us := [(57, .bool false), (58, undef), (59, undef), (60, .bool false), (61, .bool false), (62, undef), (63, undef), (64, .bool false), (65, .bool true), (66, .bool true), (6, .bool true)]) (by kernel_rfl) ?_
        refine runs_ret (fn := Tryd.f3) (v := .bool true) Tryd.func3 (by kernel_rfl) ?_
        have hr76 := (Option.some.inj hp75)
        cases hr76
        exact hR _ _ ⟨rfl, hS45⟩
     ·skip
      have hp77 := ite_f hp52 h54
      refine sx_split 9 (todo' := [.inRegion (opsOf (cd3 [1, 1, 1, 1, 1, 1, 0])) [14, 15, 16, 17, 18, 19, 20, 21, 22, 23, 24], .code (cd3 [1, 1, 1, 1, 1, 1, 1])]) (us := [(48, .bool false), (49, .bool false), (50, undef), (51, undef), (52, .bool false), (53, .bool true), (54, .bool true), (55, .int .i64 t26)]) (d := 56) (t := (decide (t26 ≥ 0))) (by kernel_rfl) (fun h78 => ?_) (fun h79 => ?_)
      ·skip
       have hp80 := ite_t hp77 h78
       refine sx_split 3 (todo' := [.inRegion (opsOf (cd3 [1, 1, 1, 1, 1, 1, 0])) [17, 18, 19, 20, 21, 22, 23, 24], .code (cd3 [1, 1, 1, 1, 1, 1, 1])]) (us := [(57, .bool true), (58, .int .i64 t31)]) (d := 59) (t := (decide (t31 ≥ 0))) (by kernel_rfl) (fun h81 => ?_) (fun h82 => ?_)
       ·skip
        have hp83 := ite_t hp80 h81
        refine sx_split 4 (todo' := [.inRegion (opsOf (cd3 [1, 1, 1, 1, 1, 1, 0])) [21, 22, 23, 24], .code (cd3 [1, 1, 1, 1, 1, 1, 1])]) (us := [(60, .bool true), (61, .bool true), (62, .int .i64 t36)]) (d := 63) (t := (decide (t36 < 0))) (by kernel_rfl) (fun h84 => ?_) (fun h85 => ?_)
        ·skip
         have hp86 := ite_t hp83 h84
         refine sx_run 5 (todo' := [.code (cd3 [1, 1, 1, 1, 1, 1, 1])]) (us := [(64, .bool true), (65, .bool false), (66, .bool false), (6, .bool false)]) (by kernel_rfl) ?_
         refine runs_ret (fn := Tryd.f3) (v := .bool false) Tryd.func3 (by kernel_rfl) ?_
         have hr87 := (Option.some.inj hp86)
         cases hr87
         exact hR _ _ ⟨rfl, hS45⟩
        ·skip
         have hp88 := ite_f hp83 h85
         refine sx_run 5 (todo' := [.code (cd3 [1, 1, 1, 1, 1, 1, 1])]) (us := [(64, .bool false), (65, .bool true), (66, .bool true), (6, .bool true)]) (by kernel_rfl) ?_
         refine runs_ret (fn := Tryd.f3) (v := .bool true) Tryd.func3 (by kernel_rfl) ?_
         have hr89 := (Option.some.inj hp88)
         cases hr89
         exact hR _ _ ⟨rfl, hS45⟩
       ·skip
        have hp90 := ite_f hp80 h82
        refine sx_run 9 (todo' := [.code (cd3 [1, 1, 1, 1, 1, 1, 1])]) (us := [(60, .bool false), (61, .bool false), (62, undef), (63, undef), (64, .bool false), (65, .bool true), (66, .bool true), (6, .bool true)]) (by kernel_rfl) ?_
        refine runs_ret (fn := Tryd.f3) (v := .bool true) Tryd.func3 (by kernel_rfl) ?_
        have hr91 := (Option.some.inj hp90)
        cases hr91
        exact hR _ _ ⟨rfl, hS45⟩
      ·skip
       have hp92 := ite_f hp77 h79
       refine sx_run 12 (todo' := [.code (cd3 [1, 1, 1, 1, 1, 1, 1])]) (us := [(57, .bool false), (58, undef), (59, undef), (60, .bool false), (61, .bool false), (62, undef), (63, undef), (64, .bool false), (65, .bool true), (66, .bool true), (6, .bool true)]) (by kernel_rfl) ?_
       refine runs_ret (fn := Tryd.f3) (v := .bool true) Tryd.func3 (by kernel_rfl) ?_
       have hr93 := (Option.some.inj hp92)
       cases hr93
       exact hR _ _ ⟨rfl, hS45⟩
    ·skip
     have hp94 := ite_f hp43 h51
     refine sx_split 12 (todo' := [.inRegion (opsOf (cd3 [1, 1, 1, 1, 1, 1, 0])) [14, 15, 16, 17, 18, 19, 20, 21, 22, 23, 24], .code (cd3 [1, 1, 1, 1, 1, 1, 1])]) (us := [(45, .bool false), (46, undef), (47, undef), (48, .bool false), (49, .bool false), (50, undef), (51, undef), (52, .bool false), (53, .bool true), (54, .bool true), (55, .int .i64 t26)]) (d := 56) (t := (decide (t26 ≥ 0))) (by kernel_rfl) (fun h95 => ?_) (fun h96 => ?_)
     ·skip
      have hp97 := ite_t hp94 h95
      refine sx_split 3 (todo' := [.inRegion (opsOf (cd3 [1, 1, 1, 1, 1, 1, 0])) [17, 18, 19, 20, 21, 22, 23, 24], .code (cd3 [1, 1, 1, 1, 1, 1, 1])]) (us := [(57, .bool true), (58, .int .i64 t31)]) (d := 59) (t := (decide (t31 ≥ 0))) (by kernel_rfl) (fun h98 => ?_) (fun h99 => ?_)
      ·skip
       have hp100 := ite_t hp97 h98
       refine sx_split 4 (todo' := [.inRegion (opsOf (cd3 [1, 1, 1, 1, 1, 1, 0])) [21, 22, 23, 24], .code (cd3 [1, 1, 1, 1, 1, 1, 1])]) (us := [(60, .bool true), (61, .bool true), (62, .int .i64 t36)]) (d := 63) (t := (decide (t36 < 0))) (by kernel_rfl) (fun h101 => ?_) (fun h102 => ?_)
       ·skip
        have hp103 := ite_t hp100 h101
        refine sx_run 5 (todo' := [.code (cd3 [1, 1, 1, 1, 1, 1, 1])]) (us := [(64, .bool true), (65, .bool false), (66, .bool false), (6, .bool false)]) (by kernel_rfl) ?_
        refine runs_ret (fn := Tryd.f3) (v := .bool false) Tryd.func3 (by kernel_rfl) ?_
        have hr104 := (Option.some.inj hp103)
        cases hr104
        exact hR _ _ ⟨rfl, hS45⟩
       ·skip
        have hp105 := ite_f hp100 h102
        refine sx_run 5 (todo' := [.code (cd3 [1, 1, 1, 1, 1, 1, 1])]) (us := [(64, .bool false), (65, .bool true), (66, .bool true), (6, .bool true)]) (by kernel_rfl) ?_
        refine runs_ret (fn := Tryd.f3) (v := .bool true) Tryd.func3 (by kernel_rfl) ?_
        have hr106 := (Option.some.inj hp105)
        cases hr106
        exact hR _ _ ⟨rfl, hS45⟩
      ·skip
       have hp107 := ite_f hp97 h99
       refine sx_run 9 (todo' := [.code (cd3 [1, 1, 1, 1, 1, 1, 1])]) (us := [(60, .bool false), (61, .bool false), (62, undef), (63, undef), (64, .bool false), (65, .bool true), (66, .bool true), (6, .bool true)]) (by kernel_rfl) ?_
       refine runs_ret (fn := Tryd.f3) (v := .bool true) Tryd.func3 (by kernel_rfl) ?_
       have hr108 := (Option.some.inj hp107)
       cases hr108
       exact hR _ _ ⟨rfl, hS45⟩
     ·skip
      have hp109 := ite_f hp94 h96
      refine sx_run 12 (todo' := [.code (cd3 [1, 1, 1, 1, 1, 1, 1])]) (us := [(57, .bool false), (58, undef), (59, undef), (60, .bool false), (61, .bool false), (62, undef), (63, undef), (64, .bool false), (65, .bool true), (66, .bool true), (6, .bool true)]) (by kernel_rfl) ?_
      refine runs_ret (fn := Tryd.f3) (v := .bool true) Tryd.func3 (by kernel_rfl) ?_
      have hr110 := (Option.some.inj hp109)
      cases hr110
      exact hR _ _ ⟨rfl, hS45⟩
   refine sx_split 7 (todo' := [.inRegion (opsOf (cd3 [1, 1, 1, 1, 1, 0, 0])) [2, 3, 4, 5, 6, 7, 8, 9, 10, 11, 12, 13, 14, 15, 16, 17, 18, 19, 20, 21], .code (cd3 [1, 1, 1, 1, 1, 0, 1]), .code (cd3 [1, 1, 1, 1, 1, 1])]) (us := [(9, .int .i64 t36), (21, .int .i64 t26)]) (d := 22) (t := (decide (t26 < (-1)))) (by kernel_rfl) (fun h111 => ?_) (fun h112 => ?_)
   ·skip
    have hp113 := ite_t hv42 h111
    refine sx_run 26 (todo' := [.code (cd3 [1, 1, 1, 1, 1, 0, 1, 0, 1]), .code (cd3 [1, 1, 1, 1, 1, 1])]) (us := [(23, .bool true), (24, undef), (25, undef), (26, .bool true), (27, .bool true), (28, undef), (29, undef), (30, undef), (31, undef), (32, undef), (33, undef), (34, .bool true), (35, .bool true), (36, undef), (37, undef), (38, undef), (39, undef), (40, undef), (41, undef), (42, .bool true), (6, .bool false)]) (by kernel_rfl) ?_
    have hS114 := hS40.drop
    have hS115 := hS114.drop
    have hS116 := hS115.drop
    refine runs_ret (fn := Tryd.f3) (v := .bool false) Tryd.func3 (by kernel_rfl) ?_
    have hr117 := (hq46 _ (Option.some.inj hp113))
    cases hr117
    exact hR _ _ ⟨rfl, hS116⟩
   ·skip
    have hp118 := ite_f hv42 h112
    refine sx_split 3 (todo' := [.inRegion (opsOf (cd3 [1, 1, 1, 1, 1, 0, 0])) [5, 6, 7, 8, 9, 10, 11, 12, 13, 14, 15, 16, 17, 18, 19, 20, 21], .code (cd3 [1, 1, 1, 1, 1, 0, 1]), .code (cd3 [1, 1, 1, 1, 1, 1])]) (us := [(23, .bool false), (24, .int .i64 t26)]) (d := 25) (t := (decide (t26 > 1))) (by kernel_rfl) (fun h119 => ?_) (fun h120 => ?_)
    ·skip
     have hp121 := ite_t hp118 h119
     refine sx_run 23 (todo' := [.code (cd3 [1, 1, 1, 1, 1, 0, 1, 0, 1]), .code (cd3 [1, 1, 1, 1, 1, 1])]) (us := [(26, .bool true), (27, .bool true), (28, undef), (29, undef), (30, undef), (31, undef), (32, undef), (33, undef), (34, .bool true), (35, .bool true), (36, undef), (37, undef), (38, undef), (39, undef), (40, undef), (41, undef), (42, .bool true), (6, .bool false)]) (by kernel_rfl) ?_
     have hS122 := hS40.drop
     have hS123 := hS122.drop
     have hS124 := hS123.drop
     refine runs_ret (fn := Tryd.f3) (v := .bool false) Tryd.func3 (by kernel_rfl) ?_
     have hr125 := (hq46 _ (Option.some.inj hp121))
     cases hr125
     exact hR _ _ ⟨rfl, hS124⟩
    ·skip
     have hp126 := ite_f hp118 h120
     refine sx_run 3 (todo' := [.inRegion (opsOf (cd3 [1, 1, 1, 1, 1, 0, 0])) [8, 9, 10, 11, 12, 13, 14, 15, 16, 17, 18, 19, 20, 21], .code (cd3 [1, 1, 1, 1, 1, 0, 1]), .code (cd3 [1, 1, 1, 1, 1, 1])]) (us := [(26, .bool false), (27, .bool false), (28, .int .i64 t26)]) (by kernel_rfl) ?_
     refine r_load (c := (cd3 [1, 1, 1, 1, 1, 0, 0])) (i := 8) (d := (some 29)) (ty := 24) (t := 24) (x := (.tmp 4)) (p := ⟨b5, 0, none⟩) (v := .agg (enc_api_Final a1).toArray) (by kernel_rfl) (by kernel_rfl) (by kernel_rfl) (loads_agg (hS40.blk 1 rfl) (by kernel_rfl) (lenK (len_api_Final _) (by kernel_rfl))) ?_
     refine r_load (c := (cd3 [1, 1, 1, 1, 1, 0, 0])) (i := 9) (d := (some 30)) (ty := 24) (t := 24) (x := (.tmp 3)) (p := ⟨b1, 0, none⟩) (v := .agg (enc_api_Final a0).toArray) (by kernel_rfl) (by kernel_rfl) (by kernel_rfl) (loads_agg (hS40.blk 2 rfl) (by kernel_rfl) (lenK (len_api_Final _) (by kernel_rfl))) ?_
     obtain ⟨t127, hr128, hp129⟩ := bind_some' hp126
     refine r_call1 (c := (cd3 [1, 1, 1, 1, 1, 0, 0])) (i := 10) (d := (some 31)) (g := 8) (args := #[.agg (enc_api_Final a1).toArray, .agg (enc_api_Final a0).toArray]) (by kernel_rfl) (by kernel_rfl) (by kernel_rfl) (by kernel_rfl) (state_Compare.ok a1 a0 hS40 hr128) ?_
     rintro _ w130 ⟨rfl, hS131⟩
     refine ⟨.int .i64 t127, rfl, ?_⟩
     refine sx_split 2 (todo' := [.inRegion (opsOf (cd3 [1, 1, 1, 1, 1, 0, 0])) [13, 14, 15, 16, 17, 18, 19, 20, 21], .code (cd3 [1, 1, 1, 1, 1, 0, 1]), .code (cd3 [1, 1, 1, 1, 1, 1])]) (us := [(32, .int .i64 (IntKind.i64.wrap (0 - t127)))]) (d := 33) (t := (t26 != (IntKind.i64.wrap (0 - t127)))) (by kernel_rfl) (fun h132 => ?_) (fun h133 => ?_)
     ·skip
      have hp134 := ite_t hp129 h132
      refine sx_run 15 (todo' := [.code (cd3 [1, 1, 1, 1, 1, 0, 1, 0, 1]), .code (cd3 [1, 1, 1, 1, 1, 1])]) (us := [(34, .bool true), (35, .bool true), (36, undef), (37, undef), (38, undef), (39, undef), (40, undef), (41, undef), (42, .bool true), (6, .bool false)]) (by kernel_rfl) ?_
      have hS135 := hS131.drop
      have hS136 := hS135.drop
      have hS137 := hS136.drop
      refine runs_ret (fn := Tryd.f3) (v := .bool false) Tryd.func3 (by kernel_rfl) ?_
      have hr138 := (hq46 _ (Option.some.inj hp134))
      cases hr138
      exact hR _ _ ⟨rfl, hS137⟩
     ·skip
      have hp139 := ite_f hp129 h133
      refine sx_split 4 (todo' := [.inRegion (opsOf (cd3 [1, 1, 1, 1, 1, 0, 0])) [17, 18, 19, 20, 21], .code (cd3 [1, 1, 1, 1, 1, 0, 1]), .code (cd3 [1, 1, 1, 1, 1, 1])]) (us := [(34, .bool false), (35, .bool false), (36, .int .i64 t26)]) (d := 37) (t := (t26 == 0)) (by kernel_rfl) (fun h140 => ?_) (fun h141 => ?_)
      ·skip
       have hp142 := ite_t hp139 h140
       refine r_load (c := (cd3 [1, 1, 1, 1, 1, 0, 0])) (i := 17) (d := (some 38)) (ty := 24) (t := 24) (x := (.tmp 3)) (p := ⟨b1, 0, none⟩) (v := .agg (enc_api_Final a0).toArray) (by kernel_rfl) (by kernel_rfl) (by kernel_rfl) (loads_agg (hS131.blk 2 rfl) (by kernel_rfl) (lenK (len_api_Final _) (by kernel_rfl))) ?_
       refine r_load (c := (cd3 [1, 1, 1, 1, 1, 0, 0])) (i := 18) (d := (some 39)) (ty := 24) (t := 24) (x := (.tmp 4)) (p := ⟨b5, 0, none⟩) (v := .agg (enc_api_Final a1).toArray) (by kernel_rfl) (by kernel_rfl) (by kernel_rfl) (loads_agg (hS131.blk 1 rfl) (by kernel_rfl) (lenK (len_api_Final _) (by kernel_rfl))) ?_
       refine r_val (c := (cd3 [1, 1, 1, 1, 1, 0, 0])) (i := 19) (d := (some 40)) (ty := 4) (op := .binOp .eql 24 (.tmp 38) (.tmp 39) 24) (v := .bool (decide (a0 = a1))) (by kernel_rfl) (by kernel_rfl) (fun o ho _ => x_eql_api_Final (by kernel_rfl) (by kernel_rfl) ho) ?_
       refine r_split (decide (a0 = a1)) (fun h143 => ?_) (fun h144 => ?_)
       ·skip
        have hp145 := ite_t hp142 h143
        refine sx_run 5 (todo' := [.code (cd3 [1, 1, 1, 1, 1, 1])]) (us := [(41, .bool false), (42, .bool false)]) (by kernel_rfl) ?_
        have hS146 := hS131.drop
        have hS147 := hS146.drop
        have hS148 := hS147.drop
        refine Runs.fill (m := [none, none, none, none, none, none, none, some (.int .i64 t26), some (.int .i64 t31), some (.int .i64 t36), none, none, none, none, none, none, none, none, none, none, none, none, none, none, none, none, none, none, none, none, none, none, none, none, none, none, none, none, none, none, none, none, none, none, none, none, none, none, none, none, none, none, none, none, none, none, none, none, none, none, none, none, none, none, none, none, none]) (by kernel_rfl) ?_
        exact J47 (Option.some.inj hp145) _ _ hS148
       ·skip
        have hp149 := ite_f hp142 h144
        refine sx_run 8 (todo' := [.code (cd3 [1, 1, 1, 1, 1, 0, 1, 0, 1]), .code (cd3 [1, 1, 1, 1, 1, 1])]) (us := [(41, .bool true), (42, .bool true), (6, .bool false)]) (by kernel_rfl) ?_
        have hS150 := hS131.drop
        have hS151 := hS150.drop
        have hS152 := hS151.drop
        refine runs_ret (fn := Tryd.f3) (v := .bool false) Tryd.func3 (by kernel_rfl) ?_
        have hr153 := (hq46 _ (Option.some.inj hp149))
        cases hr153
        exact hR _ _ ⟨rfl, hS152⟩
      ·skip
       have hp154 := ite_f hp139 h141
       refine r_load (c := (cd3 [1, 1, 1, 1, 1, 0, 0])) (i := 17) (d := (some 38)) (ty := 24) (t := 24) (x := (.tmp 3)) (p := ⟨b1, 0, none⟩) (v := .agg (enc_api_Final a0).toArray) (by kernel_rfl) (by kernel_rfl) (by kernel_rfl) (loads_agg (hS131.blk 2 rfl) (by kernel_rfl) (lenK (len_api_Final _) (by kernel_rfl))) ?_
       refine r_load (c := (cd3 [1, 1, 1, 1, 1, 0, 0])) (i := 18) (d := (some 39)) (ty := 24) (t := 24) (x := (.tmp 4)) (p := ⟨b5, 0, none⟩) (v := .agg (enc_api_Final a1).toArray) (by kernel_rfl) (by kernel_rfl) (by kernel_rfl) (loads_agg (hS131.blk 1 rfl) (by kernel_rfl) (lenK (len_api_Final _) (by kernel_rfl))) ?_
       refine r_val (c := (cd3 [1, 1, 1, 1, 1, 0, 0])) (i := 19) (d := (some 40)) (ty := 4) (op := .binOp .eql 24 (.tmp 38) (.tmp 39) 24) (v := .bool (decide (a0 = a1))) (by kernel_rfl) (by kernel_rfl) (fun o ho _ => x_eql_api_Final (by kernel_rfl) (by kernel_rfl) ho) ?_
       refine r_split (decide (a0 = a1)) (fun h155 => ?_) (fun h156 => ?_)
       ·skip
        have hp157 := ite_t hp154 h155
        refine sx_run 8 (todo' := [.code (cd3 [1, 1, 1, 1, 1, 0, 1, 0, 1]), .code (cd3 [1, 1, 1, 1, 1, 1])]) (us := [(41, .bool true), (42, .bool true), (6, .bool false)]) (by kernel_rfl) ?_
        have hS158 := hS131.drop
        have hS159 := hS158.drop
        have hS160 := hS159.drop
        refine runs_ret (fn := Tryd.f3) (v := .bool false) Tryd.func3 (by kernel_rfl) ?_
        have hr161 := (hq46 _ (Option.some.inj hp157))
        cases hr161
        exact hR _ _ ⟨rfl, hS160⟩
       ·skip
        have hp162 := ite_f hp154 h156
        refine sx_run 5 (todo' := [.code (cd3 [1, 1, 1, 1, 1, 1])]) (us := [(41, .bool false), (42, .bool false)]) (by kernel_rfl) ?_
        have hS163 := hS131.drop
        have hS164 := hS163.drop
        have hS165 := hS164.drop
        refine Runs.fill (m := [none, none, none, none, none, none, none, some (.int .i64 t26), some (.int .i64 t31), some (.int .i64 t36), none, none, none, none, none, none, none, none, none, none, none, none, none, none, none, none, none, none, none, none, none, none, none, none, none, none, none, none, none, none, none, none, none, none, none, none, none, none, none, none, none, none, none, none, none, none, none, none, none, none, none, none, none, none, none, none, none]) (by kernel_rfl) ?_
        exact J47 (Option.some.inj hp162) _ _ hS165

noncomputable def cd30 (p : List Nat) : Code := sub (bodyOf Tryd.f30) p
def word_Take.l0 (a0 : ByteArray) (a1 : Int) (t21 : Int) (t22 : Int) : Option (Sum Unit (Int × Int × Int)) :=
  (if (decide (t22 < 10)) = true then (if (decide ((IntKind.i64.wrap (a1 + t22)) < (a0.size : Int))) = true then (if 0 ≤ (IntKind.i64.wrap (a1 + t22)) ∧ (IntKind.i64.wrap (a1 + t22)) < (a0.size : Int) then (((if (t22 == 9) = true then (if (decide ((byt a0 (IntKind.i64.wrap (a1 + t22))) > 1)) = true then some (.inr (.inl ())) else some (.inl ())) else some (.inl ())) : Option (Sum Unit (Sum Unit (Int × Int × Int)))) >>= (fun | .inl () => (if 0 ≤ (IntKind.i64.wrap (7 * t22)) then (if (decide ((byt a0 (IntKind.i64.wrap (a1 + t22))) < 128)) = true then (((if ((byt a0 (IntKind.i64.wrap (a1 + t22))) == 0) = true then (if (decide (t22 > 0)) = true then some (.inr (.inl ())) else some (.inl ())) else some (.inl ())) : Option (Sum Unit (Sum Unit (Int × Int × Int)))) >>= (fun | .inl () => some (.inr (((bxor .i64 (IntKind.i64.wrap (shrI .u64 (bor .u64 t21 (shlI .u64 (IntKind.u64.wrap (band .u8 (byt a0 (IntKind.i64.wrap (a1 + t22))) 127)) (IntKind.i64.wrap (7 * t22)))) 1)) (IntKind.i64.wrap (0 - (IntKind.i64.wrap (band .u64 (bor .u64 t21 (shlI .u64 (IntKind.u64.wrap (band .u8 (byt a0 (IntKind.i64.wrap (a1 + t22))) 127)) (IntKind.i64.wrap (7 * t22)))) 1))))), (IntKind.i64.wrap (t22 + 1)), 0))) | .inr e => some e)) else (word_Take.l0 a0 a1 (bor .u64 t21 (shlI .u64 (IntKind.u64.wrap (band .u8 (byt a0 (IntKind.i64.wrap (a1 + t22))) 127)) (IntKind.i64.wrap (7 * t22)))) (IntKind.i64.wrap (t22 + 1)))) else none) | .inr e => some e)) else none) else some (.inl ())) else some (.inl ()))
 partial_fixpoint
def word_Take.f (a0 : ByteArray) (a1 : Int) : Option (Int × Int × Int) :=
  (if (decide (a1 < 0)) = true then some ((0, 0, 40)) else (if (decide (a1 ≥ (a0.size : Int))) = true then some ((0, 0, 40)) else (word_Take.l0 a0 a1 0 0 >>= (fun | .inl () => some ((0, 0, 40)) | .inr e => some e))))
set_option maxHeartbeats 16000000 in
theorem word_Take.ok (a0 : ByteArray) (a1 : Int) {w0 : World} {Z : Zm} {fs : List XObj} {w : World} (hS0 : St w0 Z (fs) w) {q0 : Int} {q1 : Int} {q2 : Int} (hp0 : word_Take.f a0 a1 = some (q0, q1, q2)) :
    Calls Tryd.prog 30 #[.string a0, .int .i64 a1] w (fun e w' => e = .returned (.tuple #[.int .i64 q0, .int .i64 q1, .int .i64 q2]) ∧ St w0 Z (fs) w') := by
  refine calls_abs ?_; intro R hR
  unfold word_Take.f at hp0
  refine calls_of_runs (fn := Tryd.f30) (c := cd30 []) Tryd.func30 (by kernel_rfl) (al := [.string a0, .int .i64 a1]) rfl (n := 65) rfl ?_
  refine sx_split 11 (todo' := [.inRegion (opsOf (cd30 [1, 0, 0])) [2, 3, 4, 5, 6, 7], .code (cd30 [1, 0, 1]), .code (cd30 [1, 1])]) (us := [(4, .int .i64 0), (5, .int .i64 0), (6, .int .i64 0), (10, .int .i64 a1)]) (d := 11) (t := (decide (a1 < 0))) (by kernel_rfl) (fun h1 => ?_) (fun h2 => ?_)
  ·skip
   have hp3 := ite_t hp0 h1
   refine sx_run 14 (todo' := [.code (cd30 [1, 0, 1, 0, 1]), .code (cd30 [1, 1])]) (us := [(12, .bool true), (13, undef), (14, undef), (15, undef), (16, undef), (17, .bool true), (4, .int .i64 0), (5, .int .i64 0), (6, .int .i64 40)]) (by kernel_rfl) ?_
   refine runs_ret (fn := Tryd.f30) (v := .tuple #[.int .i64 0, .int .i64 0, .int .i64 40]) Tryd.func30 (by kernel_rfl) ?_
   have hr4 := (Option.some.inj hp3)
   cases hr4
   exact hR _ _ ⟨rfl, hS0⟩
  ·skip
   have hp5 := ite_f hp0 h2
   refine sx_split 5 (todo' := [.inRegion (opsOf (cd30 [1, 0, 0])) [7], .code (cd30 [1, 0, 1]), .code (cd30 [1, 1])]) (us := [(12, .bool false), (13, .int .i64 a1), (14, .string a0), (15, .int .i64 (a0.size : Int))]) (d := 16) (t := (decide (a1 ≥ (a0.size : Int)))) (by kernel_rfl) (fun h6 => ?_) (fun h7 => ?_)
   ·skip
    have hp8 := ite_t hp5 h6
    refine sx_run 9 (todo' := [.code (cd30 [1, 0, 1, 0, 1]), .code (cd30 [1, 1])]) (us := [(17, .bool true), (4, .int .i64 0), (5, .int .i64 0), (6, .int .i64 40)]) (by kernel_rfl) ?_
    refine runs_ret (fn := Tryd.f30) (v := .tuple #[.int .i64 0, .int .i64 0, .int .i64 40]) Tryd.func30 (by kernel_rfl) ?_
    have hr9 := (Option.some.inj hp8)
    cases hr9
    exact hR _ _ ⟨rfl, hS0⟩
   ·skip
    have hp10 := ite_f hp5 h7
    refine sx_run 15 (todo' := [.code (cd30 [1, 1, 1, 0, 1, 0, 0]), .inLoop (cd30 [1, 1, 1, 0, 1, 0, 0]), .inBlock 0, .code (cd30 [1, 1, 1, 1])]) (us := [(17, .bool false), (7, .int .u64 0), (8, .int .i64 0)]) (by kernel_rfl) ?_
    obtain ⟨v11, hv12, hp13⟩ := bind_some' hp10
    have hq16 : ∀ x, Sum.inr x = v11 → x = (q0, q1, q2) := by intro x hx; subst hx; simpa using hp13
    have J17 : ∀ (he19 : Sum.inl () = v11) (l18 : List Value) (w14 : World) (hS15 : St w0 Z (fs) w14), Runs Tryd.prog 30 [.code (cd30 [1, 1, 1, 1])] (fill [none, none, none, none, none, none, none, none, none, none, none, none, none, none, none, none, none, none, none, none, none, none, none, none, none, none, none, none, none, none, none, none, none, none, none, none, none, none, none, none, none, none, none, none, none, none, none, none, none, none, none, none, none, none, none, none, none, none, none, none, none, none, none, none, none, none, none] l18) w14 R := by
     intro he19 l18 w14 hS15
     subst he19
     try dsimp only at hp13
     refine sx_run 6 (todo' := [.code (cd30 [1, 1, 1, 1, 1])]) (us := [(4, .int .i64 0), (5, .int .i64 0), (6, .int .i64 40)]) (by kernel_rfl) ?_
     refine runs_ret (fn := Tryd.f30) (v := .tuple #[.int .i64 0, .int .i64 0, .int .i64 40]) Tryd.func30 (by kernel_rfl) ?_
     have hr20 := (Option.some.inj hp13)
     cases hr20
     exact hR _ _ ⟨rfl, hS15⟩
    have L31 : ∀ (t21 : Int) (t22 : Int) (e26 : Sum Unit (Int × Int × Int)), word_Take.l0 a0 a1 t21 t22 = some e26 → e26 = v11 → ∀ (l25 : List Value) (w23 : World) (hS24 : St w0 Z (fs) w23), Runs Tryd.prog 30 [.code (cd30 [1, 1, 1, 0, 1, 0, 0]), .inLoop (cd30 [1, 1, 1, 0, 1, 0, 0]), .inBlock 0, .code (cd30 [1, 1, 1, 1])] (fill [some (.string a0), some (.int .i64 a1), none, none, none, none, none, some (.int .u64 t21), some (.int .i64 t22), none, none, none, none, none, none, none, none, none, none, none, none, none, none, none, none, none, none, none, none, none, none, none, none, none, none, none, none, none, none, none, none, none, none, none, none, none, none, none, none, none, none, none, none, none, none, none, none, none, none, none, none, none, none, none, none, none, none] l25) w23 R := by
     refine word_Take.l0.partial_correctness a0 a1 (fun t21 t22 e26 => e26 = v11 → ∀ (l25 : List Value) (w23 : World) (hS24 : St w0 Z (fs) w23), Runs Tryd.prog 30 [.code (cd30 [1, 1, 1, 0, 1, 0, 0]), .inLoop (cd30 [1, 1, 1, 0, 1, 0, 0]), .inBlock 0, .code (cd30 [1, 1, 1, 1])] (fill [some (.string a0), some (.int .i64 a1), none, none, none, none, none, some (.int .u64 t21), some (.int .i64 t22), none, none, none, none, none, none, none, none, none, none, none, none, none, none, none, none, none, none, none, none, none, none, none, none, none, none, none, none, none, none, none, none, none, none, none, none, none, none, none, none, none, none, none, none, none, none, none, none, none, none, none, none, none, none, none, none, none, none] l25) w23 R) ?_
     intro rec30 ih29 t21 t22 e26 hb28 he27 l25 w23 hS24
     have hq32 : ∀ x, Sum.inr x = e26 → x = (q0, q1, q2) := fun x hx => hq16 x (hx.trans he27)
     refine sx_split 5 (todo' := [.inRegion (opsOf (cd30 [1, 1, 1, 0, 1, 0, 0, 0, 0])) [2, 3, 4, 5, 6, 7, 8, 9], .code (cd30 [1, 1, 1, 0, 1, 0, 0, 0, 1]), .code (cd30 [1, 1, 1, 0, 1, 0, 0, 1]), .inLoop (cd30 [1, 1, 1, 0, 1, 0, 0]), .inBlock 0, .code (cd30 [1, 1, 1, 1])]) (us := [(18, .int .i64 t22)]) (d := 19) (t := (decide (t22 < 10))) (by kernel_rfl) (fun h33 => ?_) (fun h34 => ?_)
     ·skip
      have hp35 := ite_t hb28 h33
      refine sx_split 7 (todo' := [.inRegion (opsOf (cd30 [1, 1, 1, 0, 1, 0, 0, 0, 0])) [9], .code (cd30 [1, 1, 1, 0, 1, 0, 0, 0, 1]), .code (cd30 [1, 1, 1, 0, 1, 0, 0, 1]), .inLoop (cd30 [1, 1, 1, 0, 1, 0, 0]), .inBlock 0, .code (cd30 [1, 1, 1, 1])]) (us := [(20, .bool true), (21, .int .i64 a1), (22, .int .i64 t22), (23, .int .i64 (IntKind.i64.wrap (a1 + t22))), (24, .string a0), (25, .int .i64 (a0.size : Int))]) (d := 26) (t := (decide ((IntKind.i64.wrap (a1 + t22)) < (a0.size : Int)))) (by kernel_rfl) (fun h36 => ?_) (fun h37 => ?_)
      ·skip
       have hp38 := ite_t hp35 h36
       refine sx_run 12 (todo' := [.inRegion (opsOf (cd30 [1, 1, 1, 0, 1, 0, 0, 1, 0, 0, 0])) [4, 5], .code (cd30 [1, 1, 1, 0, 1, 0, 0, 1, 0, 0, 1]), .inBlock 1, .code (cd30 [1, 1, 1, 0, 1, 0, 0, 1, 1]), .inLoop (cd30 [1, 1, 1, 0, 1, 0, 0]), .inBlock 0, .code (cd30 [1, 1, 1, 1])]) (us := [(27, .bool true), (30, .string a0), (31, .int .i64 a1), (32, .int .i64 t22), (33, .int .i64 (IntKind.i64.wrap (a1 + t22)))]) (by kernel_rfl) ?_
       obtain ⟨g39, hp40⟩ := ite_some hp38
       refine r_val (c := (cd30 [1, 1, 1, 0, 1, 0, 0, 1, 0, 0, 0])) (i := 4) (d := (some 34)) (ty := 5) (op := .index 9 (.tmp 30) (.tmp 33)) (v := .int .u8 (byt a0 (IntKind.i64.wrap (a1 + t22)))) (by kernel_rfl) (by kernel_rfl) (fun o ho _ => x_indexStr (kk := .i64) (by kernel_rfl) (by kernel_rfl) (by kernel_rfl) g39.1 g39.2 ho) ?_
       obtain ⟨v41, hv42, hp43⟩ := bind_some' hp40
       have hq46 : ∀ x, Sum.inr x = v41 → x = e26 := by intro x hx; subst hx; simpa using hp43
       have J47 : ∀ (he49 : Sum.inl () = v41) (l48 : List Value) (w44 : World) (hS45 : St w0 Z (fs) w44), Runs Tryd.prog 30 [.code (cd30 [1, 1, 1, 0, 1, 0, 0, 1, 0, 0, 1, 1]), .inBlock 1, .code (cd30 [1, 1, 1, 0, 1, 0, 0, 1, 1]), .inLoop (cd30 [1, 1, 1, 0, 1, 0, 0]), .inBlock 0, .code (cd30 [1, 1, 1, 1])] (fill [some (.string a0), some (.int .i64 a1), none, none, none, none, none, some (.int .u64 t21), some (.int .i64 t22), some (.int .u8 (byt a0 (IntKind.i64.wrap (a1 + t22)))), none, none, none, none, none, none, none, none, none, none, none, none, none, none, none, none, none, none, none, none, none, none, none, none, none, none, none, none, none, none, none, none, none, none, none, none, none, none, none, none, none, none, none, none, none, none, none, none, none, none, none, none, none, none, none, none, none] l48) w44 R := by
        intro he49 l48 w44 hS45
        subst he49
        try dsimp only at hp43
        refine sx_run 8 (todo' := [.inRegion (opsOf (cd30 [1, 1, 1, 0, 1, 0, 0, 1, 0, 0, 1, 1, 0])) [6, 7, 8], .code (cd30 [1, 1, 1, 0, 1, 0, 0, 1, 0, 0, 1, 1, 1]), .inBlock 1, .code (cd30 [1, 1, 1, 0, 1, 0, 0, 1, 1]), .inLoop (cd30 [1, 1, 1, 0, 1, 0, 0]), .inBlock 0, .code (cd30 [1, 1, 1, 1])]) (us := [(41, .int .u64 t21), (42, .int .u8 (byt a0 (IntKind.i64.wrap (a1 + t22)))), (43, .int .u8 (band .u8 (byt a0 (IntKind.i64.wrap (a1 + t22))) 127)), (44, .int .u64 (IntKind.u64.wrap (band .u8 (byt a0 (IntKind.i64.wrap (a1 + t22))) 127))), (45, .int .i64 t22), (46, .int .i64 (IntKind.i64.wrap (7 * t22)))]) (by kernel_rfl) ?_
        obtain ⟨g50, hp51⟩ := ite_some hp43
        refine r_val (c := (cd30 [1, 1, 1, 0, 1, 0, 0, 1, 0, 0, 1, 1, 0])) (i := 6) (d := (some 47)) (ty := 79) (op := .binOp .shl 79 (.tmp 44) (.tmp 46) 3) (v := .int .u64 (shlI .u64 (IntKind.u64.wrap (band .u8 (byt a0 (IntKind.i64.wrap (a1 + t22))) 127)) (IntKind.i64.wrap (7 * t22)))) (by kernel_rfl) (by kernel_rfl) (fun o ho _ => (x_shift (kk := .i64) (by kernel_rfl) (by kernel_rfl) g50).1 ho) ?_
        refine sx_split 7 (todo' := [.inRegion (opsOf (cd30 [1, 1, 1, 0, 1, 0, 0, 1, 0, 0, 1, 1, 1, 0])) [], .code (cd30 [1, 1, 1, 0, 1, 0, 0, 1, 0, 0, 1, 1, 1, 1]), .inBlock 1, .code (cd30 [1, 1, 1, 0, 1, 0, 0, 1, 1]), .inLoop (cd30 [1, 1, 1, 0, 1, 0, 0]), .inBlock 0, .code (cd30 [1, 1, 1, 1])]) (us := [(48, .int .u64 (bor .u64 t21 (shlI .u64 (IntKind.u64.wrap (band .u8 (byt a0 (IntKind.i64.wrap (a1 + t22))) 127)) (IntKind.i64.wrap (7 * t22))))), (7, .int .u64 (bor .u64 t21 (shlI .u64 (IntKind.u64.wrap (band .u8 (byt a0 (IntKind.i64.wrap (a1 + t22))) 127)) (IntKind.i64.wrap (7 * t22))))), (49, .int .u8 (byt a0 (IntKind.i64.wrap (a1 + t22))))]) (d := 50) (t := (decide ((byt a0 (IntKind.i64.wrap (a1 + t22))) < 128))) (by kernel_rfl) (fun h52 => ?_) (fun h53 => ?_)
        ·skip
         have hp54 := ite_t hp51 h52
         obtain ⟨v55, hv56, hp57⟩ := bind_some' hp54
         have hq60 : ∀ x, Sum.inr x = v55 → x = e26 := by intro x hx; subst hx; simpa using hp57
         have J61 : ∀ (he63 : Sum.inl () = v55) (l62 : List Value) (w58 : World) (hS59 : St w0 Z (fs) w58), Runs Tryd.prog 30 [.code (cd30 [1, 1, 1, 0, 1, 0, 0, 1, 0, 0, 1, 1, 1, 1, 0, 1]), .inBlock 1, .code (cd30 [1, 1, 1, 0, 1, 0, 0, 1, 1]), .inLoop (cd30 [1, 1, 1, 0, 1, 0, 0]), .inBlock 0, .code (cd30 [1, 1, 1, 1])] (fill [none, none, none, none, none, none, none, some (.int .u64 (bor .u64 t21 (shlI .u64 (IntKind.u64.wrap (band .u8 (byt a0 (IntKind.i64.wrap (a1 + t22))) 127)) (IntKind.i64.wrap (7 * t22))))), some (.int .i64 t22), none, none, none, none, none, none, none, none, none, none, none, none, none, none, none, none, none, none, none, none, none, none, none, none, none, none, none, none, none, none, none, none, none, none, none, none, none, none, none, none, none, none, none, none, none, none, none, none, none, none, none, none, none, none, none, none, none, none] l62) w58 R := by
          intro he63 l62 w58 hS59
          subst he63
          try dsimp only at hp57
          refine sx_run 16 (todo' := [.code (cd30 [1, 1, 1, 0, 1, 0, 0, 1, 0, 0, 1, 1, 1, 1, 0, 1, 1]), .inBlock 1, .code (cd30 [1, 1, 1, 0, 1, 0, 0, 1, 1]), .inLoop (cd30 [1, 1, 1, 0, 1, 0, 0]), .inBlock 0, .code (cd30 [1, 1, 1, 1])]) (us := [(57, .int .u64 (bor .u64 t21 (shlI .u64 (IntKind.u64.wrap (band .u8 (byt a0 (IntKind.i64.wrap (a1 + t22))) 127)) (IntKind.i64.wrap (7 * t22))))), (58, .int .u64 (shrI .u64 (bor .u64 t21 (shlI .u64 (IntKind.u64.wrap (band .u8 (byt a0 (IntKind.i64.wrap (a1 + t22))) 127)) (IntKind.i64.wrap (7 * t22)))) 1)), (59, .int .i64 (IntKind.i64.wrap (shrI .u64 (bor .u64 t21 (shlI .u64 (IntKind.u64.wrap (band .u8 (byt a0 (IntKind.i64.wrap (a1 + t22))) 127)) (IntKind.i64.wrap (7 * t22)))) 1))), (60, .int .u64 (bor .u64 t21 (shlI .u64 (IntKind.u64.wrap (band .u8 (byt a0 (IntKind.i64.wrap (a1 + t22))) 127)) (IntKind.i64.wrap (7 * t22))))), (61, .int .u64 (band .u64 (bor .u64 t21 (shlI .u64 (IntKind.u64.wrap (band .u8 (byt a0 (IntKind.i64.wrap (a1 + t22))) 127)) (IntKind.i64.wrap (7 * t22)))) 1)), (62, .int .i64 (IntKind.i64.wrap (band .u64 (bor .u64 t21 (shlI .u64 (IntKind.u64.wrap (band .u8 (byt a0 (IntKind.i64.wrap (a1 + t22))) 127)) (IntKind.i64.wrap (7 * t22)))) 1))), (63, .int .i64 (IntKind.i64.wrap (0 - (IntKind.i64.wrap (band .u64 (bor .u64 t21 (shlI .u64 (IntKind.u64.wrap (band .u8 (byt a0 (IntKind.i64.wrap (a1 + t22))) 127)) (IntKind.i64.wrap (7 * t22)))) 1))))), (64, .int .i64 (bxor .i64 (IntKind.i64.wrap (shrI .u64 (bor .u64 t21 (shlI .u64 (IntKind.u64.wrap (band .u8 (byt a0 (IntKind.i64.wrap (a1 + t22))) 127)) (IntKind.i64.wrap (7 * t22)))) 1)) (IntKind.i64.wrap (0 - (IntKind.i64.wrap (band .u64 (bor .u64 t21 (shlI .u64 (IntKind.u64.wrap (band .u8 (byt a0 (IntKind.i64.wrap (a1 + t22))) 127)) (IntKind.i64.wrap (7 * t22)))) 1)))))), (65, .int .i64 t22), (66, .int .i64 (IntKind.i64.wrap (t22 + 1))), (4, .int .i64 (bxor .i64 (IntKind.i64.wrap (shrI .u64 (bor .u64 t21 (shlI .u64 (IntKind.u64.wrap (band .u8 (byt a0 (IntKind.i64.wrap (a1 + t22))) 127)) (IntKind.i64.wrap (7 * t22)))) 1)) (IntKind.i64.wrap (0 - (IntKind.i64.wrap (band .u64 (bor .u64 t21 (shlI .u64 (IntKind.u64.wrap (band .u8 (byt a0 (IntKind.i64.wrap (a1 + t22))) 127)) (IntKind.i64.wrap (7 * t22)))) 1)))))), (5, .int .i64 (IntKind.i64.wrap (t22 + 1))), (6, .int .i64 0)]) (by kernel_rfl) ?_
          refine runs_ret (fn := Tryd.f30) (v := .tuple #[.int .i64 (bxor .i64 (IntKind.i64.wrap (shrI .u64 (bor .u64 t21 (shlI .u64 (IntKind.u64.wrap (band .u8 (byt a0 (IntKind.i64.wrap (a1 + t22))) 127)) (IntKind.i64.wrap (7 * t22)))) 1)) (IntKind.i64.wrap (0 - (IntKind.i64.wrap (band .u64 (bor .u64 t21 (shlI .u64 (IntKind.u64.wrap (band .u8 (byt a0 (IntKind.i64.wrap (a1 + t22))) 127)) (IntKind.i64.wrap (7 * t22)))) 1))))), .int .i64 (IntKind.i64.wrap (t22 + 1)), .int .i64 0]) Tryd.func30 (by kernel_rfl) ?_
          have hr64 := (hq32 _ (Option.some.inj hp57))
          cases hr64
          exact hR _ _ ⟨rfl, hS59⟩
         refine sx_split 7 (todo' := [.inRegion (opsOf (cd30 [1, 1, 1, 0, 1, 0, 0, 1, 0, 0, 1, 1, 1, 1, 0, 0, 0])) [2, 3, 4, 5], .code (cd30 [1, 1, 1, 0, 1, 0, 0, 1, 0, 0, 1, 1, 1, 1, 0, 0, 1]), .code (cd30 [1, 1, 1, 0, 1, 0, 0, 1, 0, 0, 1, 1, 1, 1, 0, 1]), .inBlock 1, .code (cd30 [1, 1, 1, 0, 1, 0, 0, 1, 1]), .inLoop (cd30 [1, 1, 1, 0, 1, 0, 0]), .inBlock 0, .code (cd30 [1, 1, 1, 1])]) (us := [(51, .int .u8 (byt a0 (IntKind.i64.wrap (a1 + t22))))]) (d := 52) (t := ((byt a0 (IntKind.i64.wrap (a1 + t22))) == 0)) (by kernel_rfl) (fun h65 => ?_) (fun h66 => ?_)
         ·skip
          have hp67 := ite_t hv56 h65
          refine sx_split 3 (todo' := [.inRegion (opsOf (cd30 [1, 1, 1, 0, 1, 0, 0, 1, 0, 0, 1, 1, 1, 1, 0, 0, 0])) [5], .code (cd30 [1, 1, 1, 0, 1, 0, 0, 1, 0, 0, 1, 1, 1, 1, 0, 0, 1]), .code (cd30 [1, 1, 1, 0, 1, 0, 0, 1, 0, 0, 1, 1, 1, 1, 0, 1]), .inBlock 1, .code (cd30 [1, 1, 1, 0, 1, 0, 0, 1, 1]), .inLoop (cd30 [1, 1, 1, 0, 1, 0, 0]), .inBlock 0, .code (cd30 [1, 1, 1, 1])]) (us := [(53, .bool true), (54, .int .i64 t22)]) (d := 55) (t := (decide (t22 > 0))) (by kernel_rfl) (fun h68 => ?_) (fun h69 => ?_)
          ·skip
           have hp70 := ite_t hp67 h68
           refine sx_run 4 (todo' := [.code (cd30 [1, 1, 1, 1])]) (us := [(56, .bool true)]) (by kernel_rfl) ?_
           refine Runs.fill (m := [none, none, none, none, none, none, none, none, none, none, none, none, none, none, none, none, none, none, none, none, none, none, none, none, none, none, none, none, none, none, none, none, none, none, none, none, none, none, none, none, none, none, none, none, none, none, none, none, none, none, none, none, none, none, none, none, none, none, none, none, none, none, none, none, none, none, none]) (by kernel_rfl) ?_
           exact J17 ((hq60 _ (Option.some.inj hp70)).trans he27) _ _ hS45
          ·skip
           have hp71 := ite_f hp67 h69
           refine sx_run 4 (todo' := [.code (cd30 [1, 1, 1, 0, 1, 0, 0, 1, 0, 0, 1, 1, 1, 1, 0, 1]), .inBlock 1, .code (cd30 [1, 1, 1, 0, 1, 0, 0, 1, 1]), .inLoop (cd30 [1, 1, 1, 0, 1, 0, 0]), .inBlock 0, .code (cd30 [1, 1, 1, 1])]) (us := [(56, .bool false)]) (by kernel_rfl) ?_
           refine Runs.fill (m := [none, none, none, none, none, none, none, some (.int .u64 (bor .u64 t21 (shlI .u64 (IntKind.u64.wrap (band .u8 (byt a0 (IntKind.i64.wrap (a1 + t22))) 127)) (IntKind.i64.wrap (7 * t22))))), some (.int .i64 t22), none, none, none, none, none, none, none, none, none, none, none, none, none, none, none, none, none, none, none, none, none, none, none, none, none, none, none, none, none, none, none, none, none, none, none, none, none, none, none, none, none, none, none, none, none, none, none, none, none, none, none, none, none, none, none, none, none, none]) (by kernel_rfl) ?_
           exact J61 (Option.some.inj hp71) _ _ hS45
         ·skip
          have hp72 := ite_f hv56 h66
          refine sx_run 7 (todo' := [.code (cd30 [1, 1, 1, 0, 1, 0, 0, 1, 0, 0, 1, 1, 1, 1, 0, 1]), .inBlock 1, .code (cd30 [1, 1, 1, 0, 1, 0, 0, 1, 1]), .inLoop (cd30 [1, 1, 1, 0, 1, 0, 0]), .inBlock 0, .code (cd30 [1, 1, 1, 1])]) (us := [(53, .bool false), (54, undef), (55, undef), (56, .bool false)]) (by kernel_rfl) ?_
          refine Runs.fill (m := [none, none, none, none, none, none, none, some (.int .u64 (bor .u64 t21 (shlI .u64 (IntKind.u64.wrap (band .u8 (byt a0 (IntKind.i64.wrap (a1 + t22))) 127)) (IntKind.i64.wrap (7 * t22))))), some (.int .i64 t22), none, none, none, none, none, none, none, none, none, none, none, none, none, none, none, none, none, none, none, none, none, none, none, none, none, none, none, none, none, none, none, none, none, none, none, none, none, none, none, none, none, none, none, none, none, none, none, none, none, none, none, none, none, none, none, none, none, none]) (by kernel_rfl) ?_
          exact J61 (Option.some.inj hp72) _ _ hS45
        ·skip
         have hp73 := ite_f hp51 h53
         refine sx_run 9 (todo' := [.inLoop (cd30 [1, 1, 1, 0, 1, 0, 0]), .inBlock 0, .code (cd30 [1, 1, 1, 1])]) (us := [(28, .int .i64 t22), (29, .int .i64 (IntKind.i64.wrap (t22 + 1))), (8, .int .i64 (IntKind.i64.wrap (t22 + 1)))]) (by kernel_rfl) ?_
         refine sx_run 1 (todo' := [.code (cd30 [1, 1, 1, 0, 1, 0, 0]), .inLoop (cd30 [1, 1, 1, 0, 1, 0, 0]), .inBlock 0, .code (cd30 [1, 1, 1, 1])]) (us := []) (by kernel_rfl) ?_
         refine Runs.fill (m := [some (.string a0), some (.int .i64 a1), none, none, none, none, none, some (.int .u64 (bor .u64 t21 (shlI .u64 (IntKind.u64.wrap (band .u8 (byt a0 (IntKind.i64.wrap (a1 + t22))) 127)) (IntKind.i64.wrap (7 * t22))))), some (.int .i64 (IntKind.i64.wrap (t22 + 1))), none, none, none, none, none, none, none, none, none, none, none, none, none, none, none, none, none, none, none, none, none, none, none, none, none, none, none, none, none, none, none, none, none, none, none, none, none, none, none, none, none, none, none, none, none, none, none, none, none, none, none, none, none, none, none, none, none, none]) (by kernel_rfl) ?_
         exact ih29 (bor .u64 t21 (shlI .u64 (IntKind.u64.wrap (band .u8 (byt a0 (IntKind.i64.wrap (a1 + t22))) 127)) (IntKind.i64.wrap (7 * t22)))) (IntKind.i64.wrap (t22 + 1)) _ hp73 he27 _ _ hS45
       refine sx_split 7 (todo' := [.inRegion (opsOf (cd30 [1, 1, 1, 0, 1, 0, 0, 1, 0, 0, 1, 0, 0])) [2, 3, 4, 5], .code (cd30 [1, 1, 1, 0, 1, 0, 0, 1, 0, 0, 1, 0, 1]), .code (cd30 [1, 1, 1, 0, 1, 0, 0, 1, 0, 0, 1, 1]), .inBlock 1, .code (cd30 [1, 1, 1, 0, 1, 0, 0, 1, 1]), .inLoop (cd30 [1, 1, 1, 0, 1, 0, 0]), .inBlock 0, .code (cd30 [1, 1, 1, 1])]) (us := [(9, .int .u8 (byt a0 (IntKind.i64.wrap (a1 + t22)))), (35, .int .i64 t22)]) (d := 36) (t := (t22 == 9)) (by kernel_rfl) (fun h74 => ?_) (fun h75 => ?_)
       ·skip
        have hp76 := ite_t hv42 h74
        refine sx_split 3 (todo' := [.inRegion (opsOf (cd30 [1, 1, 1, 0, 1, 0, 0, 1, 0, 0, 1, 0, 0])) [5], .code (cd30 [1, 1, 1, 0, 1, 0, 0, 1, 0, 0, 1, 0, 1]), .code (cd30 [1, 1, 1, 0, 1, 0, 0, 1, 0, 0, 1, 1]), .inBlock 1, .code (cd30 [1, 1, 1, 0, 1, 0, 0, 1, 1]), .inLoop (cd30 [1, 1, 1, 0, 1, 0, 0]), .inBlock 0, .code (cd30 [1, 1, 1, 1])]) (us := [(37, .bool true), (38, .int .u8 (byt a0 (IntKind.i64.wrap (a1 + t22))))]) (d := 39) (t := (decide ((byt a0 (IntKind.i64.wrap (a1 + t22))) > 1))) (by kernel_rfl) (fun h77 => ?_) (fun h78 => ?_)
        ·skip
         have hp79 := ite_t hp76 h77
         refine sx_run 4 (todo' := [.code (cd30 [1, 1, 1, 1])]) (us := [(40, .bool true)]) (by kernel_rfl) ?_
         refine Runs.fill (m := [none, none, none, none, none, none, none, none, none, none, none, none, none, none, none, none, none, none, none, none, none, none, none, none, none, none, none, none, none, none, none, none, none, none, none, none, none, none, none, none, none, none, none, none, none, none, none, none, none, none, none, none, none, none, none, none, none, none, none, none, none, none, none, none, none, none, none]) (by kernel_rfl) ?_
         exact J17 ((hq46 _ (Option.some.inj hp79)).trans he27) _ _ hS24
        ·skip
         have hp80 := ite_f hp76 h78
         refine sx_run 4 (todo' := [.code (cd30 [1, 1, 1, 0, 1, 0, 0, 1, 0, 0, 1, 1]), .inBlock 1, .code (cd30 [1, 1, 1, 0, 1, 0, 0, 1, 1]), .inLoop (cd30 [1, 1, 1, 0, 1, 0, 0]), .inBlock 0, .code (cd30 [1, 1, 1, 1])]) (us := [(40, .bool false)]) (by kernel_rfl) ?_
         refine Runs.fill (m := [some (.string a0), some (.int .i64 a1), none, none, none, none, none, some (.int .u64 t21), some (.int .i64 t22), some (.int .u8 (byt a0 (IntKind.i64.wrap (a1 + t22)))), none, none, none, none, none, none, none, none, none, none, none, none, none, none, none, none, none, none, none, none, none, none, none, none, none, none, none, none, none, none, none, none, none, none, none, none, none, none, none, none, none, none, none, none, none, none, none, none, none, none, none, none, none, none, none, none, none]) (by kernel_rfl) ?_
         exact J47 (Option.some.inj hp80) _ _ hS24
       ·skip
        have hp81 := ite_f hv42 h75
        refine sx_run 7 (todo' := [.code (cd30 [1, 1, 1, 0, 1, 0, 0, 1, 0, 0, 1, 1]), .inBlock 1, .code (cd30 [1, 1, 1, 0, 1, 0, 0, 1, 1]), .inLoop (cd30 [1, 1, 1, 0, 1, 0, 0]), .inBlock 0, .code (cd30 [1, 1, 1, 1])]) (us := [(37, .bool false), (38, undef), (39, undef), (40, .bool false)]) (by kernel_rfl) ?_
        refine Runs.fill (m := [some (.string a0), some (.int .i64 a1), none, none, none, none, none, some (.int .u64 t21), some (.int .i64 t22), some (.int .u8 (byt a0 (IntKind.i64.wrap (a1 + t22)))), none, none, none, none, none, none, none, none, none, none, none, none, none, none, none, none, none, none, none, none, none, none, none, none, none, none, none, none, none, none, none, none, none, none, none, none, none, none, none, none, none, none, none, none, none, none, none, none, none, none, none, none, none, none, none, none, none]) (by kernel_rfl) ?_
        exact J47 (Option.some.inj hp81) _ _ hS24
      ·skip
       have hp82 := ite_f hp35 h37
       refine sx_run 4 (todo' := [.code (cd30 [1, 1, 1, 1])]) (us := [(27, .bool false)]) (by kernel_rfl) ?_
       refine Runs.fill (m := [none, none, none, none, none, none, none, none, none, none, none, none, none, none, none, none, none, none, none, none, none, none, none, none, none, none, none, none, none, none, none, none, none, none, none, none, none, none, none, none, none, none, none, none, none, none, none, none, none, none, none, none, none, none, none, none, none, none, none, none, none, none, none, none, none, none, none]) (by kernel_rfl) ?_
       exact J17 ((Option.some.inj hp82).trans he27) _ _ hS24
     ·skip
      have hp83 := ite_f hb28 h34
      refine sx_run 11 (todo' := [.code (cd30 [1, 1, 1, 1])]) (us := [(20, .bool false), (21, undef), (22, undef), (23, undef), (24, undef), (25, undef), (26, undef), (27, .bool false)]) (by kernel_rfl) ?_
      refine Runs.fill (m := [none, none, none, none, none, none, none, none, none, none, none, none, none, none, none, none, none, none, none, none, none, none, none, none, none, none, none, none, none, none, none, none, none, none, none, none, none, none, none, none, none, none, none, none, none, none, none, none, none, none, none, none, none, none, none, none, none, none, none, none, none, none, none, none, none, none, none]) (by kernel_rfl) ?_
      exact J17 ((Option.some.inj hp83).trans he27) _ _ hS24
    refine Runs.fill (m := [some (.string a0), some (.int .i64 a1), none, none, none, none, none, some (.int .u64 0), some (.int .i64 0), none, none, none, none, none, none, none, none, none, none, none, none, none, none, none, none, none, none, none, none, none, none, none, none, none, none, none, none, none, none, none, none, none, none, none, none, none, none, none, none, none, none, none, none, none, none, none, none, none, none, none, none, none, none, none, none, none, none]) (by kernel_rfl) ?_
    exact L31 0 0 _ hv12 rfl _ _ hS0

noncomputable def cd15 (p : List Nat) : Code := sub (bodyOf Tryd.f15) p
def state_Decode.l0 (a0 : ByteArray) (t5 : Int) (t67 : Int) (t68 : Int) (t69 : api_Final) : Option (Sum (Int × api_Final) (api_Final × Int)) :=
  (if (decide (t68 < t5)) = true then (word_Take.f a0 t67 >>= (fun (t83, t84, t85) => (if (t85 != 0) = true then some (.inr (((⟨0, (Vector.replicate 48 0)⟩ : api_Final), 5))) else (if 0 ≤ t68 ∧ t68 < 48 then (state_Decode.l0 a0 t5 (IntKind.i64.wrap (t67 + t84)) (IntKind.i64.wrap (t68 + 1)) (⟨t69.N, (vset t69.V t68 t83)⟩ : api_Final)) else none)))) else some (.inl (t67, t69)))
 partial_fixpoint
def state_Decode.f (a0 : ByteArray) : Option (api_Final × Int) :=
  (word_Take.f a0 0 >>= (fun (t5, t6, t7) => (if (t7 != 0) = true then some (((⟨0, (Vector.replicate 48 0)⟩ : api_Final), 5)) else (if (decide (t5 < 0)) = true then some (((⟨0, (Vector.replicate 48 0)⟩ : api_Final), 5)) else (if (decide (t5 > 48)) = true then some (((⟨0, (Vector.replicate 48 0)⟩ : api_Final), 5)) else (state_Decode.l0 a0 t5 t6 0 (⟨t5, (Vector.replicate 48 0)⟩ : api_Final) >>= (fun | .inl (t45, t46) => (if (t45 != (a0.size : Int)) = true then some (((⟨0, (Vector.replicate 48 0)⟩ : api_Final), 5)) else some ((t46, 0))) | .inr e => some e)))))))
set_option maxHeartbeats 16000000 in
theorem state_Decode.ok (a0 : ByteArray) {w0 : World} {Z : Zm} {fs : List XObj} {w : World} (hS0 : St w0 Z (fs) w) {q0 : api_Final} {q1 : Int} (hp0 : state_Decode.f a0 = some (q0, q1)) :
    Calls Tryd.prog 15 #[.string a0] w (fun e w' => e = .returned (.tuple #[.agg (enc_api_Final q0).toArray, .int .i64 q1]) ∧ St w0 Z (fs) w') := by
  refine calls_abs ?_; intro R hR
  unfold state_Decode.f at hp0
  refine calls_of_runs (fn := Tryd.f15) (c := cd15 []) Tryd.func15 (by kernel_rfl) (al := [.string a0]) rfl (n := 59) rfl ?_
  refine sx_run 2 (todo' := [.inRegion (opsOf (cd15 [0])) [0, 1], .code (cd15 [1])]) (us := []) (by kernel_rfl) ?_
  refine r_alloc (c := (cd15 [0])) (i := 0) (d := (some 2)) (ty := 0) (z := .agg (enc_api_Final (⟨0, (Vector.replicate 48 0)⟩ : api_Final)).toArray) (t := 24) (cs := enc_api_Final (⟨0, (Vector.replicate 48 0)⟩ : api_Final)) hS0 (by kernel_rfl) (by kernel_rfl) (by kernel_rfl) (by kernel_rfl) ?_
  intro b1 w2 hS3
  refine sx_run 5 (todo' := [.inRegion (opsOf (cd15 [1, 0])) [1, 2, 3, 4, 5, 6, 7, 8], .code (cd15 [1, 1])]) (us := [(3, .int .i64 0), (13, .string a0)]) (by kernel_rfl) ?_
  obtain ⟨⟨t5, t6, t7⟩, hr8, hp9⟩ := bind_some' hp0
  try dsimp only at hp9
  refine r_call1 (c := (cd15 [1, 0])) (i := 1) (d := (some 14)) (g := 30) (args := #[.string a0, .int .i64 0]) (by kernel_rfl) (by kernel_rfl) (by kernel_rfl) (by kernel_rfl) (word_Take.ok a0 0 hS3 hr8) ?_
  rintro _ w10 ⟨rfl, hS11⟩
  refine ⟨.tuple #[.int .i64 t5, .int .i64 t6, .int .i64 t7], rfl, ?_⟩
  refine sx_split 13 (todo' := [.inRegion (opsOf (cd15 [1, 1, 0, 0])) [2, 3, 4, 5, 6, 7, 8, 9], .code (cd15 [1, 1, 0, 1]), .code (cd15 [1, 1, 1])]) (us := [(12, .tuple #[.int .i64 t5, .int .i64 t6, .int .i64 t7]), (15, .int .i64 t5), (16, .int .i64 t6), (17, .int .i64 t7), (4, .int .i64 t5), (5, .int .i64 t6), (6, .int .i64 t7), (18, .int .i64 t7)]) (d := 19) (t := (t7 != 0)) (by kernel_rfl) (fun h12 => ?_) (fun h13 => ?_)
  ·skip
   have hp14 := ite_t hp9 h12
   refine sx_run 13 (todo' := [.inRegion (opsOf (cd15 [1, 1, 0, 1, 0, 0])) [1, 2], .code (cd15 [1, 1, 0, 1, 0, 1]), .code (cd15 [1, 1, 1])]) (us := [(20, .bool true), (21, undef), (22, undef), (23, .bool true), (24, .bool true), (25, undef), (26, undef), (27, .bool true), (28, .agg (enc_api_Final (⟨0, (Vector.replicate 48 0)⟩ : api_Final)).toArray)]) (by kernel_rfl) ?_
   refine r_store (c := (cd15 [1, 1, 0, 1, 0, 0])) (i := 1) (d := none) (ty := 0) (t := 24) (x := (.tmp 2)) (y := (.tmp 28)) (b := b1) (o := 0) (e := 24) (cs := enc_api_Final (⟨0, (Vector.replicate 48 0)⟩ : api_Final)) (v := .agg (enc_api_Final (⟨0, (Vector.replicate 48 0)⟩ : api_Final)).toArray) (vs := enc_api_Final (⟨0, (Vector.replicate 48 0)⟩ : api_Final)) (cs' := enc_api_Final (⟨0, (Vector.replicate 48 0)⟩ : api_Final)) hS11 (by kernel_rfl) (by kernel_rfl) (by kernel_rfl) (by kernel_rfl) (by kernel_rfl) (lenK (len_api_Final _) (by kernel_rfl)) (one_api_Final _) (by simp only [len_api_Final, List.length_cons, List.length_nil, List.length_append]; omega) (over_all ((len_api_Final _).trans (len_api_Final _).symm)) ?_
   intro w15 hS16
   refine sx_run 2 (todo' := [.code (cd15 [1, 1, 0, 1, 0, 1]), .code (cd15 [1, 1, 1])]) (us := [(3, .int .i64 5)]) (by kernel_rfl) ?_
   have hS17 := hS16.drop
   refine runs_ret (fn := Tryd.f15) (v := .tuple #[.agg (enc_api_Final (⟨0, (Vector.replicate 48 0)⟩ : api_Final)).toArray, .int .i64 5]) Tryd.func15 (resl_run (fn := Tryd.f15) (by kernel_rfl) (.cell (t := 2) (ty := 24) (by kernel_rfl) (loads_agg (hS16.blk 0 rfl) (by kernel_rfl) (lenK (len_api_Final _) (by kernel_rfl))) (.tmp (t := 3) (by kernel_rfl) .nil))) ?_
   have hr18 := (Option.some.inj hp14)
   cases hr18
   exact hR _ _ ⟨rfl, hS17⟩
  ·skip
   have hp19 := ite_f hp9 h13
   refine sx_split 3 (todo' := [.inRegion (opsOf (cd15 [1, 1, 0, 0])) [5, 6, 7, 8, 9], .code (cd15 [1, 1, 0, 1]), .code (cd15 [1, 1, 1])]) (us := [(20, .bool false), (21, .int .i64 t5)]) (d := 22) (t := (decide (t5 < 0))) (by kernel_rfl) (fun h20 => ?_) (fun h21 => ?_)
   ·skip
    have hp22 := ite_t hp19 h20
    refine sx_run 10 (todo' := [.inRegion (opsOf (cd15 [1, 1, 0, 1, 0, 0])) [1, 2], .code (cd15 [1, 1, 0, 1, 0, 1]), .code (cd15 [1, 1, 1])]) (us := [(23, .bool true), (24, .bool true), (25, undef), (26, undef), (27, .bool true), (28, .agg (enc_api_Final (⟨0, (Vector.replicate 48 0)⟩ : api_Final)).toArray)]) (by kernel_rfl) ?_
    refine r_store (c := (cd15 [1, 1, 0, 1, 0, 0])) (i := 1) (d := none) (ty := 0) (t := 24) (x := (.tmp 2)) (y := (.tmp 28)) (b := b1) (o := 0) (e := 24) (cs := enc_api_Final (⟨0, (Vector.replicate 48 0)⟩ : api_Final)) (v := .agg (enc_api_Final (⟨0, (Vector.replicate 48 0)⟩ : api_Final)).toArray) (vs := enc_api_Final (⟨0, (Vector.replicate 48 0)⟩ : api_Final)) (cs' := enc_api_Final (⟨0, (Vector.replicate 48 0)⟩ : api_Final)) hS11 (by kernel_rfl) (by kernel_rfl) (by kernel_rfl) (by kernel_rfl) (by kernel_rfl) (lenK (len_api_Final _) (by kernel_rfl)) (one_api_Final _) (by simp only [len_api_Final, List.length_cons, List.length_nil, List.length_append]; omega) (over_all ((len_api_Final _).trans (len_api_Final _).symm)) ?_
    intro w23 hS24
    refine sx_run 2 (todo' := [.code (cd15 [1, 1, 0, 1, 0, 1]), .code (cd15 [1, 1, 1])]) (us := [(3, .int .i64 5)]) (by kernel_rfl) ?_
    have hS25 := hS24.drop
    refine runs_ret (fn := Tryd.f15) (v := .tuple #[.agg (enc_api_Final (⟨0, (Vector.replicate 48 0)⟩ : api_Final)).toArray, .int .i64 5]) Tryd.func15 (resl_run (fn := Tryd.f15) (by kernel_rfl) (.cell (t := 2) (ty := 24) (by kernel_rfl) (loads_agg (hS24.blk 0 rfl) (by kernel_rfl) (lenK (len_api_Final _) (by kernel_rfl))) (.tmp (t := 3) (by kernel_rfl) .nil))) ?_
    have hr26 := (Option.some.inj hp22)
    cases hr26
    exact hR _ _ ⟨rfl, hS25⟩
   ·skip
    have hp27 := ite_f hp19 h21
    refine sx_split 4 (todo' := [.inRegion (opsOf (cd15 [1, 1, 0, 0])) [9], .code (cd15 [1, 1, 0, 1]), .code (cd15 [1, 1, 1])]) (us := [(23, .bool false), (24, .bool false), (25, .int .i64 t5)]) (d := 26) (t := (decide (t5 > 48))) (by kernel_rfl) (fun h28 => ?_) (fun h29 => ?_)
    ·skip
     have hp30 := ite_t hp27 h28
     refine sx_run 6 (todo' := [.inRegion (opsOf (cd15 [1, 1, 0, 1, 0, 0])) [1, 2], .code (cd15 [1, 1, 0, 1, 0, 1]), .code (cd15 [1, 1, 1])]) (us := [(27, .bool true), (28, .agg (enc_api_Final (⟨0, (Vector.replicate 48 0)⟩ : api_Final)).toArray)]) (by kernel_rfl) ?_
     refine r_store (c := (cd15 [1, 1, 0, 1, 0, 0])) (i := 1) (d := none) (ty := 0) (t := 24) (x := (.tmp 2)) (y := (.tmp 28)) (b := b1) (o := 0) (e := 24) (cs := enc_api_Final (⟨0, (Vector.replicate 48 0)⟩ : api_Final)) (v := .agg (enc_api_Final (⟨0, (Vector.replicate 48 0)⟩ : api_Final)).toArray) (vs := enc_api_Final (⟨0, (Vector.replicate 48 0)⟩ : api_Final)) (cs' := enc_api_Final (⟨0, (Vector.replicate 48 0)⟩ : api_Final)) hS11 (by kernel_rfl) (by kernel_rfl) (by kernel_rfl) (by kernel_rfl) (by kernel_rfl) (lenK (len_api_Final _) (by kernel_rfl)) (one_api_Final _) (by simp only [len_api_Final, List.length_cons, List.length_nil, List.length_append]; omega) (over_all ((len_api_Final _).trans (len_api_Final _).symm)) ?_
     intro w31 hS32
     refine sx_run 2 (todo' := [.code (cd15 [1, 1, 0, 1, 0, 1]), .code (cd15 [1, 1, 1])]) (us := [(3, .int .i64 5)]) (by kernel_rfl) ?_
     have hS33 := hS32.drop
     refine runs_ret (fn := Tryd.f15) (v := .tuple #[.agg (enc_api_Final (⟨0, (Vector.replicate 48 0)⟩ : api_Final)).toArray, .int .i64 5]) Tryd.func15 (resl_run (fn := Tryd.f15) (by kernel_rfl) (.cell (t := 2) (ty := 24) (by kernel_rfl) (loads_agg (hS32.blk 0 rfl) (by kernel_rfl) (lenK (len_api_Final _) (by kernel_rfl))) (.tmp (t := 3) (by kernel_rfl) .nil))) ?_
     have hr34 := (Option.some.inj hp30)
     cases hr34
     exact hR _ _ ⟨rfl, hS33⟩
    ·skip
     have hp35 := ite_f hp27 h29
     refine sx_run 8 (todo' := [.inRegion (opsOf (cd15 [1, 1, 1, 0])) [2, 3], .code (cd15 [1, 1, 1, 1])]) (us := [(27, .bool false), (29, .int .i64 t5), (30, .agg (enc_api_Final (⟨t5, (Vector.replicate 48 0)⟩ : api_Final)).toArray)]) (by kernel_rfl) ?_
     refine r_alloc (c := (cd15 [1, 1, 1, 0])) (i := 2) (d := (some 7)) (ty := 0) (z := .agg (enc_api_Final (⟨0, (Vector.replicate 48 0)⟩ : api_Final)).toArray) (t := 24) (cs := enc_api_Final (⟨0, (Vector.replicate 48 0)⟩ : api_Final)) hS11 (by kernel_rfl) (by kernel_rfl) (by kernel_rfl) (by kernel_rfl) ?_
     intro b36 w37 hS38
     refine r_store (c := (cd15 [1, 1, 1, 0])) (i := 3) (d := none) (ty := 0) (t := 24) (x := (.tmp 7)) (y := (.tmp 30)) (b := b36) (o := 0) (e := 24) (cs := enc_api_Final (⟨0, (Vector.replicate 48 0)⟩ : api_Final)) (v := .agg (enc_api_Final (⟨t5, (Vector.replicate 48 0)⟩ : api_Final)).toArray) (vs := enc_api_Final (⟨t5, (Vector.replicate 48 0)⟩ : api_Final)) (cs' := enc_api_Final (⟨t5, (Vector.replicate 48 0)⟩ : api_Final)) hS38 (by kernel_rfl) (by kernel_rfl) (by kernel_rfl) (by kernel_rfl) (by kernel_rfl) (lenK (len_api_Final _) (by kernel_rfl)) (one_api_Final _) (by simp only [len_api_Final, List.length_cons, List.length_nil, List.length_append]; omega) (over_all ((len_api_Final _).trans (len_api_Final _).symm)) ?_
     intro w40 hS41
     refine sx_run 5 (todo' := [.inRegion (opsOf (cd15 [1, 1, 1, 1, 0, 0])) [1, 2], .code (cd15 [1, 1, 1, 1, 0, 1]), .code (cd15 [1, 1, 1, 1, 1])]) (us := [(31, .pointer (some ⟨b36, 0, none⟩))]) (by kernel_rfl) ?_
     refine r_load (c := (cd15 [1, 1, 1, 1, 0, 0])) (i := 1) (d := (some 32)) (ty := 3) (t := 3) (x := (.tmp 31)) (p := ⟨b36, 0, none⟩) (v := .int .i64 t5) (by kernel_rfl) (by kernel_rfl) (by kernel_rfl) (loads_at 0 (hS41.blk 0 rfl) (by kernel_rfl) (by kernel_rfl)) ?_
     refine sx_run 4 (todo' := [.code (cd15 [1, 1, 1, 1, 0, 1, 0, 0]), .inLoop (cd15 [1, 1, 1, 1, 0, 1, 0, 0]), .inBlock 0, .code (cd15 [1, 1, 1, 1, 1])]) (us := [(33, .int .i64 0)]) (by kernel_rfl) ?_
     obtain ⟨v42, hv43, hp44⟩ := bind_some' hp35
     have hq49 : ∀ x, Sum.inr x = v42 → x = (q0, q1) := by intro x hx; subst hx; simpa using hp44
     have J50 : ∀ (t45 : Int) (t46 : api_Final) (he52 : Sum.inl (t45, t46) = v42) (l51 : List Value) (w47 : World) (hS48 : St w0 Z (xblk b1 24 (enc_api_Final (⟨0, (Vector.replicate 48 0)⟩ : api_Final)) :: xblk b36 24 (enc_api_Final t46) :: fs) w47), Runs Tryd.prog 15 [.code (cd15 [1, 1, 1, 1, 1])] (fill [some (.string a0), none, some (.pointer (some ⟨b1, 0, none⟩)), none, none, some (.int .i64 t45), none, some (.pointer (some ⟨b36, 0, none⟩)), none, none, none, none, none, none, none, none, none, none, none, none, none, none, none, none, none, none, none, none, none, none, none, none, none, none, none, none, none, none, none, none, none, none, none, none, none, none, none, none, none, none, none, none, none, none, none, none, none, none, none, none] l51) w47 R := by
      intro t45 t46 he52 l51 w47 hS48
      subst he52
      try dsimp only at hp44
      refine sx_split 7 (todo' := [.inRegion (opsOf (cd15 [1, 1, 1, 1, 1, 0, 0])) [], .code (cd15 [1, 1, 1, 1, 1, 0, 1]), .code (cd15 [1, 1, 1, 1, 1, 1])]) (us := [(54, .int .i64 t45), (55, .string a0), (56, .int .i64 (a0.size : Int))]) (d := 57) (t := (t45 != (a0.size : Int))) (by kernel_rfl) (fun h53 => ?_) (fun h54 => ?_)
      ·skip
       have hp55 := ite_t hp44 h53
       refine sx_run 5 (todo' := [.inRegion (opsOf (cd15 [1, 1, 1, 1, 1, 0, 1, 0, 0])) [1, 2], .code (cd15 [1, 1, 1, 1, 1, 0, 1, 0, 1]), .code (cd15 [1, 1, 1, 1, 1, 1])]) (us := [(58, .agg (enc_api_Final (⟨0, (Vector.replicate 48 0)⟩ : api_Final)).toArray)]) (by kernel_rfl) ?_
       refine r_store (c := (cd15 [1, 1, 1, 1, 1, 0, 1, 0, 0])) (i := 1) (d := none) (ty := 0) (t := 24) (x := (.tmp 2)) (y := (.tmp 58)) (b := b1) (o := 0) (e := 24) (cs := enc_api_Final (⟨0, (Vector.replicate 48 0)⟩ : api_Final)) (v := .agg (enc_api_Final (⟨0, (Vector.replicate 48 0)⟩ : api_Final)).toArray) (vs := enc_api_Final (⟨0, (Vector.replicate 48 0)⟩ : api_Final)) (cs' := enc_api_Final (⟨0, (Vector.replicate 48 0)⟩ : api_Final)) hS48 (by kernel_rfl) (by kernel_rfl) (by kernel_rfl) (by kernel_rfl) (by kernel_rfl) (lenK (len_api_Final _) (by kernel_rfl)) (one_api_Final _) (by simp only [len_api_Final, List.length_cons, List.length_nil, List.length_append]; omega) (over_all ((len_api_Final _).trans (len_api_Final _).symm)) ?_
       intro w56 hS57
       refine sx_run 2 (todo' := [.code (cd15 [1, 1, 1, 1, 1, 0, 1, 0, 1]), .code (cd15 [1, 1, 1, 1, 1, 1])]) (us := [(3, .int .i64 5)]) (by kernel_rfl) ?_
       have hS58 := hS57.drop
       have hS59 := hS58.drop
       refine runs_ret (fn := Tryd.f15) (v := .tuple #[.agg (enc_api_Final (⟨0, (Vector.replicate 48 0)⟩ : api_Final)).toArray, .int .i64 5]) Tryd.func15 (resl_run (fn := Tryd.f15) (by kernel_rfl) (.cell (t := 2) (ty := 24) (by kernel_rfl) (loads_agg (hS57.blk 0 rfl) (by kernel_rfl) (lenK (len_api_Final _) (by kernel_rfl))) (.tmp (t := 3) (by kernel_rfl) .nil))) ?_
       have hr60 := (Option.some.inj hp55)
       cases hr60
       exact hR _ _ ⟨rfl, hS59⟩
      ·skip
       have hp61 := ite_f hp44 h54
       refine sx_run 5 (todo' := [.inRegion (opsOf (cd15 [1, 1, 1, 1, 1, 1, 0])) [0, 1, 2], .code (cd15 [1, 1, 1, 1, 1, 1, 1])]) (us := []) (by kernel_rfl) ?_
       refine r_load (c := (cd15 [1, 1, 1, 1, 1, 1, 0])) (i := 0) (d := (some 59)) (ty := 24) (t := 24) (x := (.tmp 7)) (p := ⟨b36, 0, none⟩) (v := .agg (enc_api_Final t46).toArray) (by kernel_rfl) (by kernel_rfl) (by kernel_rfl) (loads_agg (hS48.blk 1 rfl) (by kernel_rfl) (lenK (len_api_Final _) (by kernel_rfl))) ?_
       refine r_store (c := (cd15 [1, 1, 1, 1, 1, 1, 0])) (i := 1) (d := none) (ty := 0) (t := 24) (x := (.tmp 2)) (y := (.tmp 59)) (b := b1) (o := 0) (e := 24) (cs := enc_api_Final (⟨0, (Vector.replicate 48 0)⟩ : api_Final)) (v := .agg (enc_api_Final t46).toArray) (vs := enc_api_Final t46) (cs' := enc_api_Final t46) hS48 (by kernel_rfl) (by kernel_rfl) (by kernel_rfl) (by kernel_rfl) (by kernel_rfl) (lenK (len_api_Final _) (by kernel_rfl)) (one_api_Final _) (by simp only [len_api_Final, List.length_cons, List.length_nil, List.length_append]; omega) (over_all ((len_api_Final _).trans (len_api_Final _).symm)) ?_
       intro w62 hS63
       refine sx_run 2 (todo' := [.code (cd15 [1, 1, 1, 1, 1, 1, 1])]) (us := [(3, .int .i64 0)]) (by kernel_rfl) ?_
       have hS64 := hS63.drop
       have hS65 := hS64.drop
       refine runs_ret (fn := Tryd.f15) (v := .tuple #[.agg (enc_api_Final t46).toArray, .int .i64 0]) Tryd.func15 (resl_run (fn := Tryd.f15) (by kernel_rfl) (.cell (t := 2) (ty := 24) (by kernel_rfl) (loads_agg (hS63.blk 0 rfl) (by kernel_rfl) (lenK (len_api_Final _) (by kernel_rfl))) (.tmp (t := 3) (by kernel_rfl) .nil))) ?_
       have hr66 := (Option.some.inj hp61)
       cases hr66
       exact hR _ _ ⟨rfl, hS65⟩
     have L78 : ∀ (t67 : Int) (t68 : Int) (t69 : api_Final) (e73 : Sum (Int × api_Final) (api_Final × Int)), state_Decode.l0 a0 t5 t67 t68 t69 = some e73 → e73 = v42 → ∀ (l72 : List Value) (w70 : World) (hS71 : St w0 Z (xblk b1 24 (enc_api_Final (⟨0, (Vector.replicate 48 0)⟩ : api_Final)) :: xblk b36 24 (enc_api_Final t69) :: fs) w70), Runs Tryd.prog 15 [.code (cd15 [1, 1, 1, 1, 0, 1, 0, 0]), .inLoop (cd15 [1, 1, 1, 1, 0, 1, 0, 0]), .inBlock 0, .code (cd15 [1, 1, 1, 1, 1])] (fill [some (.string a0), none, some (.pointer (some ⟨b1, 0, none⟩)), none, none, some (.int .i64 t67), none, some (.pointer (some ⟨b36, 0, none⟩)), none, none, none, none, none, none, none, none, none, none, none, none, none, none, none, none, none, none, none, none, none, none, none, none, some (.int .i64 t5), some (.int .i64 t68), none, none, none, none, none, none, none, none, none, none, none, none, none, none, none, none, none, none, none, none, none, none, none, none, none, none] l72) w70 R := by
      refine state_Decode.l0.partial_correctness a0 t5 (fun t67 t68 t69 e73 => e73 = v42 → ∀ (l72 : List Value) (w70 : World) (hS71 : St w0 Z (xblk b1 24 (enc_api_Final (⟨0, (Vector.replicate 48 0)⟩ : api_Final)) :: xblk b36 24 (enc_api_Final t69) :: fs) w70), Runs Tryd.prog 15 [.code (cd15 [1, 1, 1, 1, 0, 1, 0, 0]), .inLoop (cd15 [1, 1, 1, 1, 0, 1, 0, 0]), .inBlock 0, .code (cd15 [1, 1, 1, 1, 1])] (fill [some (.string a0), none, some (.pointer (some ⟨b1, 0, none⟩)), none, none, some (.int .i64 t67), none, some (.pointer (some ⟨b36, 0, none⟩)), none, none, none, none, none, none, none, none, none, none, none, none, none, none, none, none, none, none, none, none, none, none, none, none, some (.int .i64 t5), some (.int .i64 t68), none, none, none, none, none, none, none, none, none, none, none, none, none, none, none, none, none, none, none, none, none, none, none, none, none, none] l72) w70 R) ?_
      intro rec77 ih76 t67 t68 t69 e73 hb75 he74 l72 w70 hS71
      have hq79 : ∀ x, Sum.inr x = e73 → x = (q0, q1) := fun x hx => hq49 x (hx.trans he74)
      refine sx_split 3 (todo' := [.inRegion (opsOf (cd15 [1, 1, 1, 1, 0, 1, 0, 0, 0])) [], .code (cd15 [1, 1, 1, 1, 0, 1, 0, 0, 1]), .inLoop (cd15 [1, 1, 1, 1, 0, 1, 0, 0]), .inBlock 0, .code (cd15 [1, 1, 1, 1, 1])]) (us := []) (d := 34) (t := (decide (t68 < t5))) (by kernel_rfl) (fun h80 => ?_) (fun h81 => ?_)
      ·skip
       have hp82 := ite_t hb75 h80
       refine sx_run 15 (todo' := [.inRegion (opsOf (cd15 [1, 1, 1, 1, 0, 1, 0, 0, 1, 1, 0, 0, 1, 0])) [2, 3, 4, 5, 6, 7, 8, 9], .code (cd15 [1, 1, 1, 1, 0, 1, 0, 0, 1, 1, 0, 0, 1, 1]), .inBlock 1, .code (cd15 [1, 1, 1, 1, 0, 1, 0, 0, 1, 1, 1]), .inLoop (cd15 [1, 1, 1, 1, 0, 1, 0, 0]), .inBlock 0, .code (cd15 [1, 1, 1, 1, 1])]) (us := [(35, .int .i64 t68), (8, .int .i64 t68), (37, .string a0), (38, .int .i64 t67)]) (by kernel_rfl) ?_
       obtain ⟨⟨t83, t84, t85⟩, hr86, hp87⟩ := bind_some' hp82
       try dsimp only at hp87
       refine r_call1 (c := (cd15 [1, 1, 1, 1, 0, 1, 0, 0, 1, 1, 0, 0, 1, 0])) (i := 2) (d := (some 39)) (g := 30) (args := #[.string a0, .int .i64 t67]) (by kernel_rfl) (by kernel_rfl) (by kernel_rfl) (by kernel_rfl) (word_Take.ok a0 t67 hS71 hr86) ?_
       rintro _ w88 ⟨rfl, hS89⟩
       refine ⟨.tuple #[.int .i64 t83, .int .i64 t84, .int .i64 t85], rfl, ?_⟩
       refine sx_split 13 (todo' := [.inRegion (opsOf (cd15 [1, 1, 1, 1, 0, 1, 0, 0, 1, 1, 0, 0, 1, 1, 0, 0])) [], .code (cd15 [1, 1, 1, 1, 0, 1, 0, 0, 1, 1, 0, 0, 1, 1, 0, 1]), .code (cd15 [1, 1, 1, 1, 0, 1, 0, 0, 1, 1, 0, 0, 1, 1, 1]), .inBlock 1, .code (cd15 [1, 1, 1, 1, 0, 1, 0, 0, 1, 1, 1]), .inLoop (cd15 [1, 1, 1, 1, 0, 1, 0, 0]), .inBlock 0, .code (cd15 [1, 1, 1, 1, 1])]) (us := [(36, .tuple #[.int .i64 t83, .int .i64 t84, .int .i64 t85]), (40, .int .i64 t83), (41, .int .i64 t84), (42, .int .i64 t85), (9, .int .i64 t83), (10, .int .i64 t84), (11, .int .i64 t85), (43, .int .i64 t85)]) (d := 44) (t := (t85 != 0)) (by kernel_rfl) (fun h90 => ?_) (fun h91 => ?_)
       ·skip
        have hp92 := ite_t hp87 h90
        refine sx_run 5 (todo' := [.inRegion (opsOf (cd15 [1, 1, 1, 1, 0, 1, 0, 0, 1, 1, 0, 0, 1, 1, 0, 1, 0, 0])) [1, 2], .code (cd15 [1, 1, 1, 1, 0, 1, 0, 0, 1, 1, 0, 0, 1, 1, 0, 1, 0, 1]), .code (cd15 [1, 1, 1, 1, 0, 1, 0, 0, 1, 1, 0, 0, 1, 1, 1]), .inBlock 1, .code (cd15 [1, 1, 1, 1, 0, 1, 0, 0, 1, 1, 1]), .inLoop (cd15 [1, 1, 1, 1, 0, 1, 0, 0]), .inBlock 0, .code (cd15 [1, 1, 1, 1, 1])]) (us := [(45, .agg (enc_api_Final (⟨0, (Vector.replicate 48 0)⟩ : api_Final)).toArray)]) (by kernel_rfl) ?_
        refine r_store (c := (cd15 [1, 1, 1, 1, 0, 1, 0, 0, 1, 1, 0, 0, 1, 1, 0, 1, 0, 0])) (i := 1) (d := none) (ty := 0) (t := 24) (x := (.tmp 2)) (y := (.tmp 45)) (b := b1) (o := 0) (e := 24) (cs := enc_api_Final (⟨0, (Vector.replicate 48 0)⟩ : api_Final)) (v := .agg (enc_api_Final (⟨0, (Vector.replicate 48 0)⟩ : api_Final)).toArray) (vs := enc_api_Final (⟨0, (Vector.replicate 48 0)⟩ : api_Final)) (cs' := enc_api_Final (⟨0, (Vector.replicate 48 0)⟩ : api_Final)) hS89 (by kernel_rfl) (by kernel_rfl) (by kernel_rfl) (by kernel_rfl) (by kernel_rfl) (lenK (len_api_Final _) (by kernel_rfl)) (one_api_Final _) (by simp only [len_api_Final, List.length_cons, List.length_nil, List.length_append]; omega) (over_all ((len_api_Final _).trans (len_api_Final _).symm)) ?_
        intro w93 hS94
        refine sx_run 2 (todo' := [.code (cd15 [1, 1, 1, 1, 0, 1, 0, 0, 1, 1, 0, 0, 1, 1, 0, 1, 0, 1]), .code (cd15 [1, 1, 1, 1, 0, 1, 0, 0, 1, 1, 0, 0, 1, 1, 1]), .inBlock 1, .code (cd15 [1, 1, 1, 1, 0, 1, 0, 0, 1, 1, 1]), .inLoop (cd15 [1, 1, 1, 1, 0, 1, 0, 0]), .inBlock 0, .code (cd15 [1, 1, 1, 1, 1])]) (us := [(3, .int .i64 5)]) (by kernel_rfl) ?_
        have hS95 := hS94.drop
        have hS96 := hS95.drop
        refine runs_ret (fn := Tryd.f15) (v := .tuple #[.agg (enc_api_Final (⟨0, (Vector.replicate 48 0)⟩ : api_Final)).toArray, .int .i64 5]) Tryd.func15 (resl_run (fn := Tryd.f15) (by kernel_rfl) (.cell (t := 2) (ty := 24) (by kernel_rfl) (loads_agg (hS94.blk 0 rfl) (by kernel_rfl) (lenK (len_api_Final _) (by kernel_rfl))) (.tmp (t := 3) (by kernel_rfl) .nil))) ?_
        have hr97 := (hq79 _ (Option.some.inj hp92))
        cases hr97
        exact hR _ _ ⟨rfl, hS96⟩
       ·skip
        have hp98 := ite_f hp87 h91
        refine sx_run 8 (todo' := [.inRegion (opsOf (cd15 [1, 1, 1, 1, 0, 1, 0, 0, 1, 1, 0, 0, 1, 1, 1, 0])) [3, 4], .code (cd15 [1, 1, 1, 1, 0, 1, 0, 0, 1, 1, 0, 0, 1, 1, 1, 1]), .inBlock 1, .code (cd15 [1, 1, 1, 1, 0, 1, 0, 0, 1, 1, 1]), .inLoop (cd15 [1, 1, 1, 1, 0, 1, 0, 0]), .inBlock 0, .code (cd15 [1, 1, 1, 1, 1])]) (us := [(46, .int .i64 t68), (47, .int .i64 t83), (48, .pointer (some ⟨b36, 1, none⟩))]) (by kernel_rfl) ?_
        obtain ⟨g99, hp100⟩ := ite_some hp98
        refine r_indexArr (c := (cd15 [1, 1, 1, 1, 0, 1, 0, 0, 1, 1, 0, 0, 1, 1, 1, 0])) (i := 3) (d := (some 49)) (ty := 0) (t := 22) (e := 2) (sz := 1) (kk := .i64) (x := (.tmp 48)) (y := (.tmp 46)) (b := b36) (o' := 1) (n := 48) (j := t68) (by kernel_rfl) (by kernel_rfl) (by kernel_rfl) (by kernel_rfl) (by kernel_rfl) (by kernel_rfl) g99.1 g99.2 ?_
        have hS101 := hS89.pick1
        refine r_store (c := (cd15 [1, 1, 1, 1, 0, 1, 0, 0, 1, 1, 0, 0, 1, 1, 1, 0])) (i := 4) (d := none) (ty := 0) (t := 2) (x := (.tmp 49)) (y := (.tmp 47)) (b := b36) (o := 1 + t68.toNat * 1) (e := 24) (cs := enc_api_Final t69) (v := .int .i64 t83) (vs := [.int .i64 t83]) (cs' := enc_api_Final (⟨t69.N, (vset t69.V t68 t83)⟩ : api_Final)) hS101 (by kernel_rfl) (by kernel_rfl) (by kernel_rfl) (by kernel_rfl) (by kernel_rfl) (by kernel_rfl) (by kernel_rfl) (by have := g99.1; have := g99.2; simp only [len_api_Final, List.length_cons, List.length_nil, List.length_append]; omega) (over_api_Final_V _ _ _ g99.1 g99.2) ?_
        intro w102 hS103
        refine sx_run 12 (todo' := [.inLoop (cd15 [1, 1, 1, 1, 0, 1, 0, 0]), .inBlock 0, .code (cd15 [1, 1, 1, 1, 1])]) (us := [(50, .int .i64 t67), (51, .int .i64 t84), (52, .int .i64 (IntKind.i64.wrap (t67 + t84))), (5, .int .i64 (IntKind.i64.wrap (t67 + t84))), (53, .int .i64 (IntKind.i64.wrap (t68 + 1))), (33, .int .i64 (IntKind.i64.wrap (t68 + 1)))]) (by kernel_rfl) ?_
        have hS104 := hS103.pick1
        refine sx_run 1 (todo' := [.code (cd15 [1, 1, 1, 1, 0, 1, 0, 0]), .inLoop (cd15 [1, 1, 1, 1, 0, 1, 0, 0]), .inBlock 0, .code (cd15 [1, 1, 1, 1, 1])]) (us := []) (by kernel_rfl) ?_
        refine Runs.fill (m := [some (.string a0), none, some (.pointer (some ⟨b1, 0, none⟩)), none, none, some (.int .i64 (IntKind.i64.wrap (t67 + t84))), none, some (.pointer (some ⟨b36, 0, none⟩)), none, none, none, none, none, none, none, none, none, none, none, none, none, none, none, none, none, none, none, none, none, none, none, none, some (.int .i64 t5), some (.int .i64 (IntKind.i64.wrap (t68 + 1))), none, none, none, none, none, none, none, none, none, none, none, none, none, none, none, none, none, none, none, none, none, none, none, none, none, none]) (by kernel_rfl) ?_
        exact ih76 (IntKind.i64.wrap (t67 + t84)) (IntKind.i64.wrap (t68 + 1)) (⟨t69.N, (vset t69.V t68 t83)⟩ : api_Final) _ hp100 he74 _ _ hS104
      ·skip
       have hp105 := ite_f hb75 h81
       refine sx_run 4 (todo' := [.code (cd15 [1, 1, 1, 1, 1])]) (us := []) (by kernel_rfl) ?_
       refine Runs.fill (m := [some (.string a0), none, some (.pointer (some ⟨b1, 0, none⟩)), none, none, some (.int .i64 t67), none, some (.pointer (some ⟨b36, 0, none⟩)), none, none, none, none, none, none, none, none, none, none, none, none, none, none, none, none, none, none, none, none, none, none, none, none, none, none, none, none, none, none, none, none, none, none, none, none, none, none, none, none, none, none, none, none, none, none, none, none, none, none, none, none]) (by kernel_rfl) ?_
       exact J50 t67 t69 ((Option.some.inj hp105).trans he74) _ _ hS71
     have hS106 := hS41.pick1
     refine Runs.fill (m := [some (.string a0), none, some (.pointer (some ⟨b1, 0, none⟩)), none, none, some (.int .i64 t6), none, some (.pointer (some ⟨b36, 0, none⟩)), none, none, none, none, none, none, none, none, none, none, none, none, none, none, none, none, none, none, none, none, none, none, none, none, some (.int .i64 t5), some (.int .i64 0), none, none, none, none, none, none, none, none, none, none, none, none, none, none, none, none, none, none, none, none, none, none, none, none, none, none]) (by kernel_rfl) ?_
     exact L78 t6 0 (⟨t5, (Vector.replicate 48 0)⟩ : api_Final) _ hv43 rfl _ _ hS106

noncomputable def cd5 (p : List Nat) : Code := sub (bodyOf Tryd.f5) p
def weirlaw10_StateBack.f (a0 : api_Final) (a1 : api_Final) (a2 : ByteArray) : Option Bool :=
  (weirlaw10_works.f >>= (fun t9 => (if (!t9) = true then some (false) else (state_Code.f a0 >>= (fun (t21, t22) => (state_Code.f a1 >>= (fun (t27, t28) => (weirlaw10_num.f t22 >>= (fun t33 => (((if (t33 == 0) = true then (state_Decode.f t21 >>= (fun (t192, t193) => (weirlaw10_num.f t193 >>= (fun t204 => (if (t204 != 0) = true then some (.inr (false)) else (if (!(decide (t192 = a0))) = true then some (.inr (false)) else some (.inl ()))))))) else some (.inl ())) : Option (Sum Unit Bool)) >>= (fun | .inl () => (weirlaw10_num.f t22 >>= (fun t47 => (((if (t47 == 0) = true then (weirlaw10_num.f t28 >>= (fun t134 => (if (t134 == 0) = true then (((if (decide ((t21.size : Int) ≤ (t27.size : Int))) = true then (if 0 ≤ (t21.size : Int) ∧ (t21.size : Int) ≤ (t27.size : Int) then (if (seq (t27.extract 0 (t21.size : Int).toNat) t21) = true then some (true) else some (false)) else none) else some (false)) : Option Bool) >>= (fun t145 => (if (decide (a0 = a1)) = true then (if (!(t145 == true)) = true then some (.inr (false)) else some (.inl ())) else (if (!(t145 == false)) = true then some (.inr (false)) else some (.inl ()))))) else some (.inl ())))) else some (.inl ())) : Option (Sum Unit Bool)) >>= (fun | .inl () => (state_Decode.f a2 >>= (fun (t61, t62) => (weirlaw10_num.f t62 >>= (fun t73 => (if (t73 != 0) = true then (if (decide (t61 = (⟨0, (Vector.replicate 48 0)⟩ : api_Final))) = true then some (true) else some (false)) else (state_Code.f t61 >>= (fun (t90, t91) => (state_Check.f t61 >>= (fun t96 => (weirlaw10_num.f t96 >>= (fun t101 => (if (t101 == 0) = true then (weirlaw10_num.f t91 >>= (fun t109 => (if (t109 == 0) = true then (if (seq t90 a2) = true then some (true) else some (false)) else some (false)))) else some (false))))))))))))) | .inr e => some e)))) | .inr e => some e)))))))))))
set_option maxHeartbeats 16000000 in
theorem weirlaw10_StateBack.ok (a0 : api_Final) (a1 : api_Final) (a2 : ByteArray) {w0 : World} {Z : Zm} {fs : List XObj} {w : World} (hS0 : St w0 Z (fs) w) (hE : Env Z) {q0 : Bool} (hp0 : weirlaw10_StateBack.f a0 a1 a2 = some q0) :
    Calls Tryd.prog 5 #[.agg (enc_api_Final a0).toArray, .agg (enc_api_Final a1).toArray, .string a2] w (fun e w' => e = .returned (.bool q0) ∧ St w0 Z (fs) w') := by
  refine calls_abs ?_; intro R hR
  unfold weirlaw10_StateBack.f at hp0
  refine calls_of_runs (fn := Tryd.f5) (c := cd5 []) Tryd.func5 (by kernel_rfl) (al := [.agg (enc_api_Final a0).toArray, .agg (enc_api_Final a1).toArray, .string a2]) rfl (n := 99) rfl ?_
  refine sx_run 2 (todo' := [.inRegion (opsOf (cd5 [0])) [0, 1, 2], .code (cd5 [1])]) (us := []) (by kernel_rfl) ?_
  refine r_box (c := (cd5 [0])) (i := 0) (d := (some 3)) (ty := 0) (x := (.tmp 0)) (v := .agg (enc_api_Final a0).toArray) (t := 24) (cs := enc_api_Final a0) hS0 (by kernel_rfl) (by kernel_rfl) (by kernel_rfl) (by kernel_rfl) ?_
  intro b1 w2 hS3
  refine r_box (c := (cd5 [0])) (i := 1) (d := (some 4)) (ty := 0) (x := (.tmp 1)) (v := .agg (enc_api_Final a1).toArray) (t := 24) (cs := enc_api_Final a1) hS3 (by kernel_rfl) (by kernel_rfl) (by kernel_rfl) (by kernel_rfl) ?_
  intro b5 w6 hS7
  refine sx_run 5 (todo' := [.inRegion (opsOf (cd5 [1, 0, 0])) [0, 1], .code (cd5 [1, 0, 1]), .code (cd5 [1, 1])]) (us := [(6, .bool false)]) (by kernel_rfl) ?_
  obtain ⟨t9, hr10, hp11⟩ := bind_some' hp0
  refine r_call1 (c := (cd5 [1, 0, 0])) (i := 0) (d := (some 18)) (g := 7) (args := #[]) (by kernel_rfl) (by kernel_rfl) (by kernel_rfl) (by kernel_rfl) (weirlaw10_works.ok hS7 hE hr10) ?_
  rintro _ w12 ⟨rfl, hS13⟩
  refine ⟨.bool t9, rfl, ?_⟩
  refine sx_split 1 (todo' := [.inRegion (opsOf (cd5 [1, 0, 0])) [], .code (cd5 [1, 0, 1]), .code (cd5 [1, 1])]) (us := []) (d := 19) (t := (!t9)) (by kernel_rfl) (fun h14 => ?_) (fun h15 => ?_)
  ·skip
   have hp16 := ite_t hp11 h14
   refine sx_run 6 (todo' := [.code (cd5 [1, 0, 1, 0, 1]), .code (cd5 [1, 1])]) (us := [(6, .bool false)]) (by kernel_rfl) ?_
   have hS17 := hS13.drop
   have hS18 := hS17.drop
   refine runs_ret (fn := Tryd.f5) (v := .bool false) Tryd.func5 (by kernel_rfl) ?_
   have hr19 := (Option.some.inj hp16)
   cases hr19
   exact hR _ _ ⟨rfl, hS18⟩
  ·skip
   have hp20 := ite_f hp11 h15
   refine sx_run 5 (todo' := [.inRegion (opsOf (cd5 [1, 1, 0])) [0, 1, 2, 3, 4, 5, 6], .code (cd5 [1, 1, 1])]) (us := []) (by kernel_rfl) ?_
   refine r_load (c := (cd5 [1, 1, 0])) (i := 0) (d := (some 21)) (ty := 24) (t := 24) (x := (.tmp 3)) (p := ⟨b1, 0, none⟩) (v := .agg (enc_api_Final a0).toArray) (by kernel_rfl) (by kernel_rfl) (by kernel_rfl) (loads_agg (hS13.blk 1 rfl) (by kernel_rfl) (lenK (len_api_Final _) (by kernel_rfl))) ?_
   obtain ⟨⟨t21, t22⟩, hr23, hp24⟩ := bind_some' hp20
   try dsimp only at hp24
   refine r_call1 (c := (cd5 [1, 1, 0])) (i := 1) (d := (some 22)) (g := 14) (args := #[.agg (enc_api_Final a0).toArray]) (by kernel_rfl) (by kernel_rfl) (by kernel_rfl) (by kernel_rfl) (state_Code.ok a0 hS13 hr23) ?_
   rintro _ w25 ⟨rfl, hS26⟩
   refine ⟨.tuple #[.string t21, .int .i64 t22], rfl, ?_⟩
   refine sx_run 8 (todo' := [.inRegion (opsOf (cd5 [1, 1, 1, 0])) [0, 1, 2, 3, 4, 5, 6], .code (cd5 [1, 1, 1, 1])]) (us := [(20, .tuple #[.string t21, .int .i64 t22]), (23, .string t21), (24, .int .i64 t22), (7, .string t21), (8, .int .i64 t22)]) (by kernel_rfl) ?_
   refine r_load (c := (cd5 [1, 1, 1, 0])) (i := 0) (d := (some 26)) (ty := 24) (t := 24) (x := (.tmp 4)) (p := ⟨b5, 0, none⟩) (v := .agg (enc_api_Final a1).toArray) (by kernel_rfl) (by kernel_rfl) (by kernel_rfl) (loads_agg (hS26.blk 0 rfl) (by kernel_rfl) (lenK (len_api_Final _) (by kernel_rfl))) ?_
   obtain ⟨⟨t27, t28⟩, hr29, hp30⟩ := bind_some' hp24
   try dsimp only at hp30
   refine r_call1 (c := (cd5 [1, 1, 1, 0])) (i := 1) (d := (some 27)) (g := 14) (args := #[.agg (enc_api_Final a1).toArray]) (by kernel_rfl) (by kernel_rfl) (by kernel_rfl) (by kernel_rfl) (state_Code.ok a1 hS26 hr29) ?_
   rintro _ w31 ⟨rfl, hS32⟩
   refine ⟨.tuple #[.string t27, .int .i64 t28], rfl, ?_⟩
   refine sx_run 10 (todo' := [.inRegion (opsOf (cd5 [1, 1, 1, 1, 0, 0])) [1, 2], .code (cd5 [1, 1, 1, 1, 0, 1]), .code (cd5 [1, 1, 1, 1, 1])]) (us := [(25, .tuple #[.string t27, .int .i64 t28]), (28, .string t27), (29, .int .i64 t28), (9, .string t27), (10, .int .i64 t28), (30, .int .i64 t22)]) (by kernel_rfl) ?_
   obtain ⟨t33, hr34, hp35⟩ := bind_some' hp30
   refine r_call1 (c := (cd5 [1, 1, 1, 1, 0, 0])) (i := 1) (d := (some 31)) (g := 11) (args := #[.int .i64 t22]) (by kernel_rfl) (by kernel_rfl) (by kernel_rfl) (by kernel_rfl) (weirlaw10_num.ok t22 hS32 hr34) ?_
   rintro _ w36 ⟨rfl, hS37⟩
   refine ⟨.int .i64 t33, rfl, ?_⟩
   obtain ⟨v38, hv39, hp40⟩ := bind_some' hp35
   have hq43 : ∀ x, Sum.inr x = v38 → x = q0 := by intro x hx; subst hx; simpa using hp40
   have J44 : ∀ (he46 : Sum.inl () = v38) (l45 : List Value) (w41 : World) (hS42 : St w0 Z (xblk b1 24 (enc_api_Final a0) :: xblk b5 24 (enc_api_Final a1) :: fs) w41), Runs Tryd.prog 5 [.code (cd5 [1, 1, 1, 1, 1])] (fill [none, none, some (.string a2), some (.pointer (some ⟨b1, 0, none⟩)), some (.pointer (some ⟨b5, 0, none⟩)), none, none, some (.string t21), some (.int .i64 t22), some (.string t27), some (.int .i64 t28), none, none, none, none, none, none, none, none, none, none, none, none, none, none, none, none, none, none, none, none, none, none, none, none, none, none, none, none, none, none, none, none, none, none, none, none, none, none, none, none, none, none, none, none, none, none, none, none, none, none, none, none, none, none, none, none, none, none, none, none, none, none, none, none, none, none, none, none, none, none, none, none, none, none, none, none, none, none, none, none, none, none, none, none, none, none, none, none, none, none, none] l45) w41 R := by
    intro he46 l45 w41 hS42
    subst he46
    try dsimp only at hp40
    refine sx_run 4 (todo' := [.inRegion (opsOf (cd5 [1, 1, 1, 1, 1, 0, 0])) [1, 2, 3, 4, 5, 6, 7], .code (cd5 [1, 1, 1, 1, 1, 0, 1]), .code (cd5 [1, 1, 1, 1, 1, 1])]) (us := [(46, .int .i64 t22)]) (by kernel_rfl) ?_
    obtain ⟨t47, hr48, hp49⟩ := bind_some' hp40
    refine r_call1 (c := (cd5 [1, 1, 1, 1, 1, 0, 0])) (i := 1) (d := (some 47)) (g := 11) (args := #[.int .i64 t22]) (by kernel_rfl) (by kernel_rfl) (by kernel_rfl) (by kernel_rfl) (weirlaw10_num.ok t22 hS42 hr48) ?_
    rintro _ w50 ⟨rfl, hS51⟩
    refine ⟨.int .i64 t47, rfl, ?_⟩
    obtain ⟨v52, hv53, hp54⟩ := bind_some' hp49
    have hq57 : ∀ x, Sum.inr x = v52 → x = q0 := by intro x hx; subst hx; simpa using hp54
    have J58 : ∀ (he60 : Sum.inl () = v52) (l59 : List Value) (w55 : World) (hS56 : St w0 Z (fs) w55), Runs Tryd.prog 5 [.code (cd5 [1, 1, 1, 1, 1, 1])] (fill [none, none, some (.string a2), none, none, none, none, none, none, none, none, none, none, none, none, none, none, none, none, none, none, none, none, none, none, none, none, none, none, none, none, none, none, none, none, none, none, none, none, none, none, none, none, none, none, none, none, none, none, none, none, none, none, none, none, none, none, none, none, none, none, none, none, none, none, none, none, none, none, none, none, none, none, none, none, none, none, none, none, none, none, none, none, none, none, none, none, none, none, none, none, none, none, none, none, none, none, none, none, none, none, none] l59) w55 R := by
     intro he60 l59 w55 hS56
     subst he60
     try dsimp only at hp54
     refine sx_run 3 (todo' := [.inRegion (opsOf (cd5 [1, 1, 1, 1, 1, 1, 0])) [1, 2, 3, 4, 5, 6, 7], .code (cd5 [1, 1, 1, 1, 1, 1, 1])]) (us := [(73, .string a2)]) (by kernel_rfl) ?_
     obtain ⟨⟨t61, t62⟩, hr63, hp64⟩ := bind_some' hp54
     try dsimp only at hp64
     refine r_call1 (c := (cd5 [1, 1, 1, 1, 1, 1, 0])) (i := 1) (d := (some 74)) (g := 15) (args := #[.string a2]) (by kernel_rfl) (by kernel_rfl) (by kernel_rfl) (by kernel_rfl) (state_Decode.ok a2 hS56 hr63) ?_
     rintro _ w65 ⟨rfl, hS66⟩
     refine ⟨.tuple #[.agg (enc_api_Final t61).toArray, .int .i64 t62], rfl, ?_⟩
     refine sx_run 3 (todo' := [.inRegion (opsOf (cd5 [1, 1, 1, 1, 1, 1, 0])) [5, 6, 7], .code (cd5 [1, 1, 1, 1, 1, 1, 1])]) (us := [(72, .tuple #[.agg (enc_api_Final t61).toArray, .int .i64 t62]), (75, .agg (enc_api_Final t61).toArray), (76, .int .i64 t62)]) (by kernel_rfl) ?_
     refine r_alloc (c := (cd5 [1, 1, 1, 1, 1, 1, 0])) (i := 5) (d := (some 14)) (ty := 0) (z := .agg (enc_api_Final (⟨0, (Vector.replicate 48 0)⟩ : api_Final)).toArray) (t := 24) (cs := enc_api_Final (⟨0, (Vector.replicate 48 0)⟩ : api_Final)) hS66 (by kernel_rfl) (by kernel_rfl) (by kernel_rfl) (by kernel_rfl) ?_
     intro b67 w68 hS69
     refine r_store (c := (cd5 [1, 1, 1, 1, 1, 1, 0])) (i := 6) (d := none) (ty := 0) (t := 24) (x := (.tmp 14)) (y := (.tmp 75)) (b := b67) (o := 0) (e := 24) (cs := enc_api_Final (⟨0, (Vector.replicate 48 0)⟩ : api_Final)) (v := .agg (enc_api_Final t61).toArray) (vs := enc_api_Final t61) (cs' := enc_api_Final t61) hS69 (by kernel_rfl) (by kernel_rfl) (by kernel_rfl) (by kernel_rfl) (by kernel_rfl) (lenK (len_api_Final _) (by kernel_rfl)) (one_api_Final _) (by simp only [len_api_Final, List.length_cons, List.length_nil, List.length_append]; omega) (over_all ((len_api_Final _).trans (len_api_Final _).symm)) ?_
     intro w71 hS72
     refine sx_run 6 (todo' := [.inRegion (opsOf (cd5 [1, 1, 1, 1, 1, 1, 1, 0, 0])) [1, 2], .code (cd5 [1, 1, 1, 1, 1, 1, 1, 0, 1]), .code (cd5 [1, 1, 1, 1, 1, 1, 1, 1])]) (us := [(15, .int .i64 t62), (77, .int .i64 t62)]) (by kernel_rfl) ?_
     obtain ⟨t73, hr74, hp75⟩ := bind_some' hp64
     refine r_call1 (c := (cd5 [1, 1, 1, 1, 1, 1, 1, 0, 0])) (i := 1) (d := (some 78)) (g := 11) (args := #[.int .i64 t62]) (by kernel_rfl) (by kernel_rfl) (by kernel_rfl) (by kernel_rfl) (weirlaw10_num.ok t62 hS72 hr74) ?_
     rintro _ w76 ⟨rfl, hS77⟩
     refine ⟨.int .i64 t73, rfl, ?_⟩
     refine sx_split 1 (todo' := [.inRegion (opsOf (cd5 [1, 1, 1, 1, 1, 1, 1, 0, 0])) [], .code (cd5 [1, 1, 1, 1, 1, 1, 1, 0, 1]), .code (cd5 [1, 1, 1, 1, 1, 1, 1, 1])]) (us := []) (d := 79) (t := (t73 != 0)) (by kernel_rfl) (fun h78 => ?_) (fun h79 => ?_)
     ·skip
      have hp80 := ite_t hp75 h78
      refine sx_run 4 (todo' := [.inRegion (opsOf (cd5 [1, 1, 1, 1, 1, 1, 1, 0, 1, 0, 0])) [0, 1, 2, 3], .code (cd5 [1, 1, 1, 1, 1, 1, 1, 0, 1, 0, 1]), .code (cd5 [1, 1, 1, 1, 1, 1, 1, 1])]) (us := []) (by kernel_rfl) ?_
      refine r_load (c := (cd5 [1, 1, 1, 1, 1, 1, 1, 0, 1, 0, 0])) (i := 0) (d := (some 80)) (ty := 24) (t := 24) (x := (.tmp 14)) (p := ⟨b67, 0, none⟩) (v := .agg (enc_api_Final t61).toArray) (by kernel_rfl) (by kernel_rfl) (by kernel_rfl) (loads_agg (hS77.blk 0 rfl) (by kernel_rfl) (lenK (len_api_Final _) (by kernel_rfl))) ?_
      refine sx_run 1 (todo' := [.inRegion (opsOf (cd5 [1, 1, 1, 1, 1, 1, 1, 0, 1, 0, 0])) [2, 3], .code (cd5 [1, 1, 1, 1, 1, 1, 1, 0, 1, 0, 1]), .code (cd5 [1, 1, 1, 1, 1, 1, 1, 1])]) (us := [(81, .agg (enc_api_Final (⟨0, (Vector.replicate 48 0)⟩ : api_Final)).toArray)]) (by kernel_rfl) ?_
      refine r_val (c := (cd5 [1, 1, 1, 1, 1, 1, 1, 0, 1, 0, 0])) (i := 2) (d := (some 82)) (ty := 4) (op := .binOp .eql 24 (.tmp 80) (.tmp 81) 24) (v := .bool (decide (t61 = (⟨0, (Vector.replicate 48 0)⟩ : api_Final)))) (by kernel_rfl) (by kernel_rfl) (fun o ho _ => x_eql_api_Final (by kernel_rfl) (by kernel_rfl) ho) ?_
      refine r_split (decide (t61 = (⟨0, (Vector.replicate 48 0)⟩ : api_Final))) (fun h81 => ?_) (fun h82 => ?_)
      ·skip
       have hp83 := ite_t hp80 h81
       refine sx_run 2 (todo' := [.code (cd5 [1, 1, 1, 1, 1, 1, 1, 0, 1, 0, 1]), .code (cd5 [1, 1, 1, 1, 1, 1, 1, 1])]) (us := [(6, .bool true)]) (by kernel_rfl) ?_
       have hS84 := hS77.drop
       refine runs_ret (fn := Tryd.f5) (v := .bool true) Tryd.func5 (by kernel_rfl) ?_
       have hr85 := (Option.some.inj hp83)
       cases hr85
       exact hR _ _ ⟨rfl, hS84⟩
      ·skip
       have hp86 := ite_f hp80 h82
       refine sx_run 2 (todo' := [.code (cd5 [1, 1, 1, 1, 1, 1, 1, 0, 1, 0, 1]), .code (cd5 [1, 1, 1, 1, 1, 1, 1, 1])]) (us := [(6, .bool false)]) (by kernel_rfl) ?_
       have hS87 := hS77.drop
       refine runs_ret (fn := Tryd.f5) (v := .bool false) Tryd.func5 (by kernel_rfl) ?_
       have hr88 := (Option.some.inj hp86)
       cases hr88
       exact hR _ _ ⟨rfl, hS87⟩
     ·skip
      have hp89 := ite_f hp75 h79
      refine sx_run 5 (todo' := [.inRegion (opsOf (cd5 [1, 1, 1, 1, 1, 1, 1, 1, 0])) [0, 1, 2, 3, 4, 5, 6], .code (cd5 [1, 1, 1, 1, 1, 1, 1, 1, 1])]) (us := []) (by kernel_rfl) ?_
      refine r_load (c := (cd5 [1, 1, 1, 1, 1, 1, 1, 1, 0])) (i := 0) (d := (some 84)) (ty := 24) (t := 24) (x := (.tmp 14)) (p := ⟨b67, 0, none⟩) (v := .agg (enc_api_Final t61).toArray) (by kernel_rfl) (by kernel_rfl) (by kernel_rfl) (loads_agg (hS77.blk 0 rfl) (by kernel_rfl) (lenK (len_api_Final _) (by kernel_rfl))) ?_
      obtain ⟨⟨t90, t91⟩, hr92, hp93⟩ := bind_some' hp89
      try dsimp only at hp93
      refine r_call1 (c := (cd5 [1, 1, 1, 1, 1, 1, 1, 1, 0])) (i := 1) (d := (some 85)) (g := 14) (args := #[.agg (enc_api_Final t61).toArray]) (by kernel_rfl) (by kernel_rfl) (by kernel_rfl) (by kernel_rfl) (state_Code.ok t61 hS77 hr92) ?_
      rintro _ w94 ⟨rfl, hS95⟩
      refine ⟨.tuple #[.string t90, .int .i64 t91], rfl, ?_⟩
      refine sx_run 8 (todo' := [.inRegion (opsOf (cd5 [1, 1, 1, 1, 1, 1, 1, 1, 1, 0])) [0, 1, 2, 3, 4, 5, 6, 7, 8, 9, 10, 11, 12, 13, 14], .code (cd5 [1, 1, 1, 1, 1, 1, 1, 1, 1, 1])]) (us := [(83, .tuple #[.string t90, .int .i64 t91]), (86, .string t90), (87, .int .i64 t91), (16, .string t90), (17, .int .i64 t91)]) (by kernel_rfl) ?_
      refine r_load (c := (cd5 [1, 1, 1, 1, 1, 1, 1, 1, 1, 0])) (i := 0) (d := (some 88)) (ty := 24) (t := 24) (x := (.tmp 14)) (p := ⟨b67, 0, none⟩) (v := .agg (enc_api_Final t61).toArray) (by kernel_rfl) (by kernel_rfl) (by kernel_rfl) (loads_agg (hS95.blk 0 rfl) (by kernel_rfl) (lenK (len_api_Final _) (by kernel_rfl))) ?_
      obtain ⟨t96, hr97, hp98⟩ := bind_some' hp93
      refine r_call1 (c := (cd5 [1, 1, 1, 1, 1, 1, 1, 1, 1, 0])) (i := 1) (d := (some 89)) (g := 16) (args := #[.agg (enc_api_Final t61).toArray]) (by kernel_rfl) (by kernel_rfl) (by kernel_rfl) (by kernel_rfl) (state_Check.ok t61 hS95 hr97) ?_
      rintro _ w99 ⟨rfl, hS100⟩
      refine ⟨.int .i64 t96, rfl, ?_⟩
      obtain ⟨t101, hr102, hp103⟩ := bind_some' hp98
      refine r_call1 (c := (cd5 [1, 1, 1, 1, 1, 1, 1, 1, 1, 0])) (i := 2) (d := (some 90)) (g := 11) (args := #[.int .i64 t96]) (by kernel_rfl) (by kernel_rfl) (by kernel_rfl) (by kernel_rfl) (weirlaw10_num.ok t96 hS100 hr102) ?_
      rintro _ w104 ⟨rfl, hS105⟩
      refine ⟨.int .i64 t101, rfl, ?_⟩
      refine sx_split 1 (todo' := [.inRegion (opsOf (cd5 [1, 1, 1, 1, 1, 1, 1, 1, 1, 0])) [4, 5, 6, 7, 8, 9, 10, 11, 12, 13, 14], .code (cd5 [1, 1, 1, 1, 1, 1, 1, 1, 1, 1])]) (us := []) (d := 91) (t := (t101 == 0)) (by kernel_rfl) (fun h106 => ?_) (fun h107 => ?_)
      ·skip
       have hp108 := ite_t hp103 h106
       refine sx_run 2 (todo' := [.inRegion (opsOf (cd5 [1, 1, 1, 1, 1, 1, 1, 1, 1, 0])) [6, 7, 8, 9, 10, 11, 12, 13, 14], .code (cd5 [1, 1, 1, 1, 1, 1, 1, 1, 1, 1])]) (us := [(92, .bool true), (93, .int .i64 t91)]) (by kernel_rfl) ?_
       obtain ⟨t109, hr110, hp111⟩ := bind_some' hp108
       refine r_call1 (c := (cd5 [1, 1, 1, 1, 1, 1, 1, 1, 1, 0])) (i := 6) (d := (some 94)) (g := 11) (args := #[.int .i64 t91]) (by kernel_rfl) (by kernel_rfl) (by kernel_rfl) (by kernel_rfl) (weirlaw10_num.ok t91 hS105 hr110) ?_
       rintro _ w112 ⟨rfl, hS113⟩
       refine ⟨.int .i64 t109, rfl, ?_⟩
       refine sx_split 1 (todo' := [.inRegion (opsOf (cd5 [1, 1, 1, 1, 1, 1, 1, 1, 1, 0])) [8, 9, 10, 11, 12, 13, 14], .code (cd5 [1, 1, 1, 1, 1, 1, 1, 1, 1, 1])]) (us := []) (d := 95) (t := (t109 == 0)) (by kernel_rfl) (fun h114 => ?_) (fun h115 => ?_)
       ·skip
        have hp116 := ite_t hp111 h114
        refine sx_split 5 (todo' := [.inRegion (opsOf (cd5 [1, 1, 1, 1, 1, 1, 1, 1, 1, 0])) [13, 14], .code (cd5 [1, 1, 1, 1, 1, 1, 1, 1, 1, 1])]) (us := [(96, .bool true), (97, .bool true), (98, .string t90), (99, .string a2)]) (d := 100) (t := (seq t90 a2)) (by kernel_rfl) (fun h117 => ?_) (fun h118 => ?_)
        ·skip
         have hp119 := ite_t hp116 h117
         refine sx_run 3 (todo' := [.code (cd5 [1, 1, 1, 1, 1, 1, 1, 1, 1, 1])]) (us := [(101, .bool true), (6, .bool true)]) (by kernel_rfl) ?_
         have hS120 := hS113.drop
         refine runs_ret (fn := Tryd.f5) (v := .bool true) Tryd.func5 (by kernel_rfl) ?_
         have hr121 := (Option.some.inj hp119)
         cases hr121
         exact hR _ _ ⟨rfl, hS120⟩
        ·skip
         have hp122 := ite_f hp116 h118
         refine sx_run 3 (todo' := [.code (cd5 [1, 1, 1, 1, 1, 1, 1, 1, 1, 1])]) (us := [(101, .bool false), (6, .bool false)]) (by kernel_rfl) ?_
         have hS123 := hS113.drop
         refine runs_ret (fn := Tryd.f5) (v := .bool false) Tryd.func5 (by kernel_rfl) ?_
         have hr124 := (Option.some.inj hp122)
         cases hr124
         exact hR _ _ ⟨rfl, hS123⟩
       ·skip
        have hp125 := ite_f hp111 h115
        refine sx_run 8 (todo' := [.code (cd5 [1, 1, 1, 1, 1, 1, 1, 1, 1, 1])]) (us := [(96, .bool false), (97, .bool false), (98, undef), (99, undef), (100, undef), (101, .bool false), (6, .bool false)]) (by kernel_rfl) ?_
        have hS126 := hS113.drop
        refine runs_ret (fn := Tryd.f5) (v := .bool false) Tryd.func5 (by kernel_rfl) ?_
        have hr127 := (Option.some.inj hp125)
        cases hr127
        exact hR _ _ ⟨rfl, hS126⟩
      ·skip
       have hp128 := ite_f hp103 h107
       refine sx_run 12 (todo' := [.code (cd5 [1, 1, 1, 1, 1, 1, 1, 1, 1, 1])]) (us := [(92, .bool false), (93, undef), (94, undef), (95, undef), (96, .bool false), (97, .bool false), (98, undef), (99, undef), (100, undef), (101, .bool false), (6, .bool false)]) (by kernel_rfl) ?_
       have hS129 := hS105.drop
       refine runs_ret (fn := Tryd.f5) (v := .bool false) Tryd.func5 (by kernel_rfl) ?_
       have hr130 := (Option.some.inj hp128)
       cases hr130
       exact hR _ _ ⟨rfl, hS129⟩
    refine sx_split 1 (todo' := [.inRegion (opsOf (cd5 [1, 1, 1, 1, 1, 0, 0])) [3, 4, 5, 6, 7], .code (cd5 [1, 1, 1, 1, 1, 0, 1]), .code (cd5 [1, 1, 1, 1, 1, 1])]) (us := []) (d := 48) (t := (t47 == 0)) (by kernel_rfl) (fun h131 => ?_) (fun h132 => ?_)
    ·skip
     have hp133 := ite_t hv53 h131
     refine sx_run 2 (todo' := [.inRegion (opsOf (cd5 [1, 1, 1, 1, 1, 0, 0])) [5, 6, 7], .code (cd5 [1, 1, 1, 1, 1, 0, 1]), .code (cd5 [1, 1, 1, 1, 1, 1])]) (us := [(49, .bool true), (50, .int .i64 t28)]) (by kernel_rfl) ?_
     obtain ⟨t134, hr135, hp136⟩ := bind_some' hp133
     refine r_call1 (c := (cd5 [1, 1, 1, 1, 1, 0, 0])) (i := 5) (d := (some 51)) (g := 11) (args := #[.int .i64 t28]) (by kernel_rfl) (by kernel_rfl) (by kernel_rfl) (by kernel_rfl) (weirlaw10_num.ok t28 hS51 hr135) ?_
     rintro _ w137 ⟨rfl, hS138⟩
     refine ⟨.int .i64 t134, rfl, ?_⟩
     refine sx_split 1 (todo' := [.inRegion (opsOf (cd5 [1, 1, 1, 1, 1, 0, 0])) [7], .code (cd5 [1, 1, 1, 1, 1, 0, 1]), .code (cd5 [1, 1, 1, 1, 1, 1])]) (us := []) (d := 52) (t := (t134 == 0)) (by kernel_rfl) (fun h139 => ?_) (fun h140 => ?_)
     ·skip
      have hp141 := ite_t hp136 h139
      obtain ⟨v142, hv143, hp144⟩ := bind_some' hp141
      have J148 : ∀ (t145 : Bool) (he150 : t145 = v142) (l149 : List Value) (w146 : World) (hS147 : St w0 Z (xblk b1 24 (enc_api_Final a0) :: xblk b5 24 (enc_api_Final a1) :: fs) w146), Runs Tryd.prog 5 [.code (cd5 [1, 1, 1, 1, 1, 0, 1, 0, 1, 0]), .code (cd5 [1, 1, 1, 1, 1, 0, 1, 0, 1, 1]), .code (cd5 [1, 1, 1, 1, 1, 1])] (fill [none, none, some (.string a2), some (.pointer (some ⟨b1, 0, none⟩)), some (.pointer (some ⟨b5, 0, none⟩)), none, none, none, none, none, none, none, none, some (.bool t145), none, none, none, none, none, none, none, none, none, none, none, none, none, none, none, none, none, none, none, none, none, none, none, none, none, none, none, none, none, none, none, none, none, none, none, none, none, none, none, none, none, none, none, none, none, none, none, none, none, none, none, none, none, none, none, none, none, none, none, none, none, none, none, none, none, none, none, none, none, none, none, none, none, none, none, none, none, none, none, none, none, none, none, none, none, none, none, none] l149) w146 R := by
       intro t145 he150 l149 w146 hS147
       subst he150
       try dsimp only at hp144
       refine sx_run 2 (todo' := [.inRegion (opsOf (cd5 [1, 1, 1, 1, 1, 0, 1, 0, 1, 0])) [1, 2, 3, 4], .code (cd5 [1, 1, 1, 1, 1, 0, 1, 0, 1, 1]), .code (cd5 [1, 1, 1, 1, 1, 1])]) (us := [(67, .bool t145)]) (by kernel_rfl) ?_
       refine r_load (c := (cd5 [1, 1, 1, 1, 1, 0, 1, 0, 1, 0])) (i := 1) (d := (some 68)) (ty := 24) (t := 24) (x := (.tmp 3)) (p := ⟨b1, 0, none⟩) (v := .agg (enc_api_Final a0).toArray) (by kernel_rfl) (by kernel_rfl) (by kernel_rfl) (loads_agg (hS147.blk 0 rfl) (by kernel_rfl) (lenK (len_api_Final _) (by kernel_rfl))) ?_
       refine r_load (c := (cd5 [1, 1, 1, 1, 1, 0, 1, 0, 1, 0])) (i := 2) (d := (some 69)) (ty := 24) (t := 24) (x := (.tmp 4)) (p := ⟨b5, 0, none⟩) (v := .agg (enc_api_Final a1).toArray) (by kernel_rfl) (by kernel_rfl) (by kernel_rfl) (loads_agg (hS147.blk 1 rfl) (by kernel_rfl) (lenK (len_api_Final _) (by kernel_rfl))) ?_
       refine r_val (c := (cd5 [1, 1, 1, 1, 1, 0, 1, 0, 1, 0])) (i := 3) (d := (some 70)) (ty := 4) (op := .binOp .eql 24 (.tmp 68) (.tmp 69) 24) (v := .bool (decide (a0 = a1))) (by kernel_rfl) (by kernel_rfl) (fun o ho _ => x_eql_api_Final (by kernel_rfl) (by kernel_rfl) ho) ?_
       refine r_split (decide (a0 = a1)) (fun h151 => ?_) (fun h152 => ?_)
       ·skip
        have hp153 := ite_t hp144 h151
        refine sx_split 1 (todo' := [.inRegion (opsOf (cd5 [1, 1, 1, 1, 1, 0, 1, 0, 1, 0])) [], .code (cd5 [1, 1, 1, 1, 1, 0, 1, 0, 1, 1]), .code (cd5 [1, 1, 1, 1, 1, 1])]) (us := []) (d := 71) (t := (!(t145 == true))) (by kernel_rfl) (fun h154 => ?_) (fun h155 => ?_)
        ·skip
         have hp156 := ite_t hp153 h154
         refine sx_run 6 (todo' := [.code (cd5 [1, 1, 1, 1, 1, 0, 1, 0, 1, 1, 0, 1]), .code (cd5 [1, 1, 1, 1, 1, 1])]) (us := [(6, .bool false)]) (by kernel_rfl) ?_
         have hS157 := hS147.drop
         have hS158 := hS157.drop
         refine runs_ret (fn := Tryd.f5) (v := .bool false) Tryd.func5 (by kernel_rfl) ?_
         have hr159 := (hq57 _ (Option.some.inj hp156))
         cases hr159
         exact hR _ _ ⟨rfl, hS158⟩
        ·skip
         have hp160 := ite_f hp153 h155
         refine sx_run 3 (todo' := [.code (cd5 [1, 1, 1, 1, 1, 1])]) (us := []) (by kernel_rfl) ?_
         have hS161 := hS147.drop
         have hS162 := hS161.drop
         refine Runs.fill (m := [none, none, some (.string a2), none, none, none, none, none, none, none, none, none, none, none, none, none, none, none, none, none, none, none, none, none, none, none, none, none, none, none, none, none, none, none, none, none, none, none, none, none, none, none, none, none, none, none, none, none, none, none, none, none, none, none, none, none, none, none, none, none, none, none, none, none, none, none, none, none, none, none, none, none, none, none, none, none, none, none, none, none, none, none, none, none, none, none, none, none, none, none, none, none, none, none, none, none, none, none, none, none, none, none]) (by kernel_rfl) ?_
         exact J58 (Option.some.inj hp160) _ _ hS162
       ·skip
        have hp163 := ite_f hp144 h152
        refine sx_split 1 (todo' := [.inRegion (opsOf (cd5 [1, 1, 1, 1, 1, 0, 1, 0, 1, 0])) [], .code (cd5 [1, 1, 1, 1, 1, 0, 1, 0, 1, 1]), .code (cd5 [1, 1, 1, 1, 1, 1])]) (us := []) (d := 71) (t := (!(t145 == false))) (by kernel_rfl) (fun h164 => ?_) (fun h165 => ?_)
        ·skip
         have hp166 := ite_t hp163 h164
         refine sx_run 6 (todo' := [.code (cd5 [1, 1, 1, 1, 1, 0, 1, 0, 1, 1, 0, 1]), .code (cd5 [1, 1, 1, 1, 1, 1])]) (us := [(6, .bool false)]) (by kernel_rfl) ?_
         have hS167 := hS147.drop
         have hS168 := hS167.drop
         refine runs_ret (fn := Tryd.f5) (v := .bool false) Tryd.func5 (by kernel_rfl) ?_
         have hr169 := (hq57 _ (Option.some.inj hp166))
         cases hr169
         exact hR _ _ ⟨rfl, hS168⟩
        ·skip
         have hp170 := ite_f hp163 h165
         refine sx_run 3 (todo' := [.code (cd5 [1, 1, 1, 1, 1, 1])]) (us := []) (by kernel_rfl) ?_
         have hS171 := hS147.drop
         have hS172 := hS171.drop
         refine Runs.fill (m := [none, none, some (.string a2), none, none, none, none, none, none, none, none, none, none, none, none, none, none, none, none, none, none, none, none, none, none, none, none, none, none, none, none, none, none, none, none, none, none, none, none, none, none, none, none, none, none, none, none, none, none, none, none, none, none, none, none, none, none, none, none, none, none, none, none, none, none, none, none, none, none, none, none, none, none, none, none, none, none, none, none, none, none, none, none, none, none, none, none, none, none, none, none, none, none, none, none, none, none, none, none, none, none, none]) (by kernel_rfl) ?_
         exact J58 (Option.some.inj hp170) _ _ hS172
      refine sx_split 10 (todo' := [.inRegion (opsOf (cd5 [1, 1, 1, 1, 1, 0, 1, 0, 0])) [5, 6, 7, 8, 9, 10, 11, 12, 13], .code (cd5 [1, 1, 1, 1, 1, 0, 1, 0, 1]), .code (cd5 [1, 1, 1, 1, 1, 1])]) (us := [(53, .bool true), (54, .string t21), (55, .int .i64 (t21.size : Int)), (56, .string t27), (57, .int .i64 (t27.size : Int))]) (d := 58) (t := (decide ((t21.size : Int) ≤ (t27.size : Int)))) (by kernel_rfl) (fun h173 => ?_) (fun h174 => ?_)
      ·skip
       have hp175 := ite_t hv143 h173
       refine sx_run 4 (todo' := [.inRegion (opsOf (cd5 [1, 1, 1, 1, 1, 0, 1, 0, 0])) [9, 10, 11, 12, 13], .code (cd5 [1, 1, 1, 1, 1, 0, 1, 0, 1]), .code (cd5 [1, 1, 1, 1, 1, 1])]) (us := [(59, .bool true), (60, .string t27), (61, .string t21), (62, .int .i64 (t21.size : Int))]) (by kernel_rfl) ?_
       obtain ⟨g176, hp177⟩ := ite_some hp175
       refine r_val (c := (cd5 [1, 1, 1, 1, 1, 0, 1, 0, 0])) (i := 9) (d := (some 63)) (ty := 9) (op := .slice 9 (.tmp 60) none (some (.tmp 62)) none) (v := .string (t27.extract 0 (t21.size : Int).toNat)) (by kernel_rfl) (by kernel_rfl) (fun o ho _ => x_cutStr_ns (k := .i64) (by kernel_rfl) (by kernel_rfl) (by kernel_rfl) g176 ho) ?_
       refine sx_split 2 (todo' := [.inRegion (opsOf (cd5 [1, 1, 1, 1, 1, 0, 1, 0, 0])) [12, 13], .code (cd5 [1, 1, 1, 1, 1, 0, 1, 0, 1]), .code (cd5 [1, 1, 1, 1, 1, 1])]) (us := [(64, .string t21)]) (d := 65) (t := (seq (t27.extract 0 (t21.size : Int).toNat) t21)) (by kernel_rfl) (fun h178 => ?_) (fun h179 => ?_)
       ·skip
        have hp180 := ite_t hp177 h178
        refine sx_run 4 (todo' := [.code (cd5 [1, 1, 1, 1, 1, 0, 1, 0, 1, 0]), .code (cd5 [1, 1, 1, 1, 1, 0, 1, 0, 1, 1]), .code (cd5 [1, 1, 1, 1, 1, 1])]) (us := [(66, .bool true), (13, .bool true)]) (by kernel_rfl) ?_
        refine Runs.fill (m := [none, none, some (.string a2), some (.pointer (some ⟨b1, 0, none⟩)), some (.pointer (some ⟨b5, 0, none⟩)), none, none, none, none, none, none, none, none, some (.bool true), none, none, none, none, none, none, none, none, none, none, none, none, none, none, none, none, none, none, none, none, none, none, none, none, none, none, none, none, none, none, none, none, none, none, none, none, none, none, none, none, none, none, none, none, none, none, none, none, none, none, none, none, none, none, none, none, none, none, none, none, none, none, none, none, none, none, none, none, none, none, none, none, none, none, none, none, none, none, none, none, none, none, none, none, none, none, none, none]) (by kernel_rfl) ?_
        exact J148 true (Option.some.inj hp180) _ _ hS138
       ·skip
        have hp181 := ite_f hp177 h179
        refine sx_run 4 (todo' := [.code (cd5 [1, 1, 1, 1, 1, 0, 1, 0, 1, 0]), .code (cd5 [1, 1, 1, 1, 1, 0, 1, 0, 1, 1]), .code (cd5 [1, 1, 1, 1, 1, 1])]) (us := [(66, .bool false), (13, .bool false)]) (by kernel_rfl) ?_
        refine Runs.fill (m := [none, none, some (.string a2), some (.pointer (some ⟨b1, 0, none⟩)), some (.pointer (some ⟨b5, 0, none⟩)), none, none, none, none, none, none, none, none, some (.bool false), none, none, none, none, none, none, none, none, none, none, none, none, none, none, none, none, none, none, none, none, none, none, none, none, none, none, none, none, none, none, none, none, none, none, none, none, none, none, none, none, none, none, none, none, none, none, none, none, none, none, none, none, none, none, none, none, none, none, none, none, none, none, none, none, none, none, none, none, none, none, none, none, none, none, none, none, none, none, none, none, none, none, none, none, none, none, none, none]) (by kernel_rfl) ?_
        exact J148 false (Option.some.inj hp181) _ _ hS138
      ·skip
       have hp182 := ite_f hv143 h174
       refine sx_run 11 (todo' := [.code (cd5 [1, 1, 1, 1, 1, 0, 1, 0, 1, 0]), .code (cd5 [1, 1, 1, 1, 1, 0, 1, 0, 1, 1]), .code (cd5 [1, 1, 1, 1, 1, 1])]) (us := [(59, .bool false), (60, undef), (61, undef), (62, undef), (63, undef), (64, undef), (65, undef), (66, .bool false), (13, .bool false)]) (by kernel_rfl) ?_
       refine Runs.fill (m := [none, none, some (.string a2), some (.pointer (some ⟨b1, 0, none⟩)), some (.pointer (some ⟨b5, 0, none⟩)), none, none, none, none, none, none, none, none, some (.bool false), none, none, none, none, none, none, none, none, none, none, none, none, none, none, none, none, none, none, none, none, none, none, none, none, none, none, none, none, none, none, none, none, none, none, none, none, none, none, none, none, none, none, none, none, none, none, none, none, none, none, none, none, none, none, none, none, none, none, none, none, none, none, none, none, none, none, none, none, none, none, none, none, none, none, none, none, none, none, none, none, none, none, none, none, none, none, none, none]) (by kernel_rfl) ?_
       exact J148 false (Option.some.inj hp182) _ _ hS138
     ·skip
      have hp183 := ite_f hp136 h140
      refine sx_run 4 (todo' := [.code (cd5 [1, 1, 1, 1, 1, 1])]) (us := [(53, .bool false)]) (by kernel_rfl) ?_
      have hS184 := hS138.drop
      have hS185 := hS184.drop
      refine Runs.fill (m := [none, none, some (.string a2), none, none, none, none, none, none, none, none, none, none, none, none, none, none, none, none, none, none, none, none, none, none, none, none, none, none, none, none, none, none, none, none, none, none, none, none, none, none, none, none, none, none, none, none, none, none, none, none, none, none, none, none, none, none, none, none, none, none, none, none, none, none, none, none, none, none, none, none, none, none, none, none, none, none, none, none, none, none, none, none, none, none, none, none, none, none, none, none, none, none, none, none, none, none, none, none, none, none, none]) (by kernel_rfl) ?_
      exact J58 (Option.some.inj hp183) _ _ hS185
    ·skip
     have hp186 := ite_f hv53 h132
     refine sx_run 8 (todo' := [.code (cd5 [1, 1, 1, 1, 1, 1])]) (us := [(49, .bool false), (50, undef), (51, undef), (52, undef), (53, .bool false)]) (by kernel_rfl) ?_
     have hS187 := hS51.drop
     have hS188 := hS187.drop
     refine Runs.fill (m := [none, none, some (.string a2), none, none, none, none, none, none, none, none, none, none, none, none, none, none, none, none, none, none, none, none, none, none, none, none, none, none, none, none, none, none, none, none, none, none, none, none, none, none, none, none, none, none, none, none, none, none, none, none, none, none, none, none, none, none, none, none, none, none, none, none, none, none, none, none, none, none, none, none, none, none, none, none, none, none, none, none, none, none, none, none, none, none, none, none, none, none, none, none, none, none, none, none, none, none, none, none, none, none, none]) (by kernel_rfl) ?_
     exact J58 (Option.some.inj hp186) _ _ hS188
   refine sx_split 1 (todo' := [.inRegion (opsOf (cd5 [1, 1, 1, 1, 0, 0])) [], .code (cd5 [1, 1, 1, 1, 0, 1]), .code (cd5 [1, 1, 1, 1, 1])]) (us := []) (d := 32) (t := (t33 == 0)) (by kernel_rfl) (fun h189 => ?_) (fun h190 => ?_)
   ·skip
    have hp191 := ite_t hv39 h189
    refine sx_run 5 (todo' := [.inRegion (opsOf (cd5 [1, 1, 1, 1, 0, 1, 0, 0])) [1, 2, 3, 4, 5, 6, 7], .code (cd5 [1, 1, 1, 1, 0, 1, 0, 1]), .code (cd5 [1, 1, 1, 1, 1])]) (us := [(34, .string t21)]) (by kernel_rfl) ?_
    obtain ⟨⟨t192, t193⟩, hr194, hp195⟩ := bind_some' hp191
    try dsimp only at hp195
    refine r_call1 (c := (cd5 [1, 1, 1, 1, 0, 1, 0, 0])) (i := 1) (d := (some 35)) (g := 15) (args := #[.string t21]) (by kernel_rfl) (by kernel_rfl) (by kernel_rfl) (by kernel_rfl) (state_Decode.ok t21 hS37 hr194) ?_
    rintro _ w196 ⟨rfl, hS197⟩
    refine ⟨.tuple #[.agg (enc_api_Final t192).toArray, .int .i64 t193], rfl, ?_⟩
    refine sx_run 3 (todo' := [.inRegion (opsOf (cd5 [1, 1, 1, 1, 0, 1, 0, 0])) [5, 6, 7], .code (cd5 [1, 1, 1, 1, 0, 1, 0, 1]), .code (cd5 [1, 1, 1, 1, 1])]) (us := [(33, .tuple #[.agg (enc_api_Final t192).toArray, .int .i64 t193]), (36, .agg (enc_api_Final t192).toArray), (37, .int .i64 t193)]) (by kernel_rfl) ?_
    refine r_alloc (c := (cd5 [1, 1, 1, 1, 0, 1, 0, 0])) (i := 5) (d := (some 11)) (ty := 0) (z := .agg (enc_api_Final (⟨0, (Vector.replicate 48 0)⟩ : api_Final)).toArray) (t := 24) (cs := enc_api_Final (⟨0, (Vector.replicate 48 0)⟩ : api_Final)) hS197 (by kernel_rfl) (by kernel_rfl) (by kernel_rfl) (by kernel_rfl) ?_
    intro b198 w199 hS200
    refine r_store (c := (cd5 [1, 1, 1, 1, 0, 1, 0, 0])) (i := 6) (d := none) (ty := 0) (t := 24) (x := (.tmp 11)) (y := (.tmp 36)) (b := b198) (o := 0) (e := 24) (cs := enc_api_Final (⟨0, (Vector.replicate 48 0)⟩ : api_Final)) (v := .agg (enc_api_Final t192).toArray) (vs := enc_api_Final t192) (cs' := enc_api_Final t192) hS200 (by kernel_rfl) (by kernel_rfl) (by kernel_rfl) (by kernel_rfl) (by kernel_rfl) (lenK (len_api_Final _) (by kernel_rfl)) (one_api_Final _) (by simp only [len_api_Final, List.length_cons, List.length_nil, List.length_append]; omega) (over_all ((len_api_Final _).trans (len_api_Final _).symm)) ?_
    intro w202 hS203
    refine sx_run 5 (todo' := [.inRegion (opsOf (cd5 [1, 1, 1, 1, 0, 1, 0, 1, 0])) [1, 2, 3, 4, 5, 6, 7], .code (cd5 [1, 1, 1, 1, 0, 1, 0, 1, 1]), .code (cd5 [1, 1, 1, 1, 1])]) (us := [(12, .int .i64 t193), (38, .int .i64 t193)]) (by kernel_rfl) ?_
    obtain ⟨t204, hr205, hp206⟩ := bind_some' hp195
    refine r_call1 (c := (cd5 [1, 1, 1, 1, 0, 1, 0, 1, 0])) (i := 1) (d := (some 39)) (g := 11) (args := #[.int .i64 t193]) (by kernel_rfl) (by kernel_rfl) (by kernel_rfl) (by kernel_rfl) (weirlaw10_num.ok t193 hS203 hr205) ?_
    rintro _ w207 ⟨rfl, hS208⟩
    refine ⟨.int .i64 t204, rfl, ?_⟩
    refine sx_split 1 (todo' := [.inRegion (opsOf (cd5 [1, 1, 1, 1, 0, 1, 0, 1, 0])) [3, 4, 5, 6, 7], .code (cd5 [1, 1, 1, 1, 0, 1, 0, 1, 1]), .code (cd5 [1, 1, 1, 1, 1])]) (us := []) (d := 40) (t := (t204 != 0)) (by kernel_rfl) (fun h209 => ?_) (fun h210 => ?_)
    ·skip
     have hp211 := ite_t hp206 h209
     refine sx_run 11 (todo' := [.code (cd5 [1, 1, 1, 1, 0, 1, 0, 1, 1, 0, 1]), .code (cd5 [1, 1, 1, 1, 1])]) (us := [(41, .bool true), (42, undef), (43, undef), (44, undef), (45, .bool true), (6, .bool false)]) (by kernel_rfl) ?_
     have hS212 := hS208.drop
     have hS213 := hS212.drop
     have hS214 := hS213.drop
     refine runs_ret (fn := Tryd.f5) (v := .bool false) Tryd.func5 (by kernel_rfl) ?_
     have hr215 := (hq43 _ (Option.some.inj hp211))
     cases hr215
     exact hR _ _ ⟨rfl, hS214⟩
    ·skip
     have hp216 := ite_f hp206 h210
     refine sx_run 1 (todo' := [.inRegion (opsOf (cd5 [1, 1, 1, 1, 0, 1, 0, 1, 0])) [4, 5, 6, 7], .code (cd5 [1, 1, 1, 1, 0, 1, 0, 1, 1]), .code (cd5 [1, 1, 1, 1, 1])]) (us := [(41, .bool false)]) (by kernel_rfl) ?_
     refine r_load (c := (cd5 [1, 1, 1, 1, 0, 1, 0, 1, 0])) (i := 4) (d := (some 42)) (ty := 24) (t := 24) (x := (.tmp 11)) (p := ⟨b198, 0, none⟩) (v := .agg (enc_api_Final t192).toArray) (by kernel_rfl) (by kernel_rfl) (by kernel_rfl) (loads_agg (hS208.blk 0 rfl) (by kernel_rfl) (lenK (len_api_Final _) (by kernel_rfl))) ?_
     refine r_load (c := (cd5 [1, 1, 1, 1, 0, 1, 0, 1, 0])) (i := 5) (d := (some 43)) (ty := 24) (t := 24) (x := (.tmp 3)) (p := ⟨b1, 0, none⟩) (v := .agg (enc_api_Final a0).toArray) (by kernel_rfl) (by kernel_rfl) (by kernel_rfl) (loads_agg (hS208.blk 2 rfl) (by kernel_rfl) (lenK (len_api_Final _) (by kernel_rfl))) ?_
     refine r_val (c := (cd5 [1, 1, 1, 1, 0, 1, 0, 1, 0])) (i := 6) (d := (some 44)) (ty := 4) (op := .binOp .neq 24 (.tmp 42) (.tmp 43) 24) (v := .bool (!(decide (t192 = a0)))) (by kernel_rfl) (by kernel_rfl) (fun o ho _ => x_neq_api_Final (by kernel_rfl) (by kernel_rfl) ho) ?_
     refine r_split (!(decide (t192 = a0))) (fun h217 => ?_) (fun h218 => ?_)
     ·skip
      have hp219 := ite_t hp216 h217
      refine sx_run 7 (todo' := [.code (cd5 [1, 1, 1, 1, 0, 1, 0, 1, 1, 0, 1]), .code (cd5 [1, 1, 1, 1, 1])]) (us := [(45, .bool true), (6, .bool false)]) (by kernel_rfl) ?_
      have hS220 := hS208.drop
      have hS221 := hS220.drop
      have hS222 := hS221.drop
      refine runs_ret (fn := Tryd.f5) (v := .bool false) Tryd.func5 (by kernel_rfl) ?_
      have hr223 := (hq43 _ (Option.some.inj hp219))
      cases hr223
      exact hR _ _ ⟨rfl, hS222⟩
     ·skip
      have hp224 := ite_f hp216 h218
      refine sx_run 4 (todo' := [.code (cd5 [1, 1, 1, 1, 1])]) (us := [(45, .bool false)]) (by kernel_rfl) ?_
      have hS225 := hS208.drop
      have hS226 := hS225.pick1
      refine Runs.fill (m := [none, none, some (.string a2), some (.pointer (some ⟨b1, 0, none⟩)), some (.pointer (some ⟨b5, 0, none⟩)), none, none, some (.string t21), some (.int .i64 t22), some (.string t27), some (.int .i64 t28), none, none, none, none, none, none, none, none, none, none, none, none, none, none, none, none, none, none, none, none, none, none, none, none, none, none, none, none, none, none, none, none, none, none, none, none, none, none, none, none, none, none, none, none, none, none, none, none, none, none, none, none, none, none, none, none, none, none, none, none, none, none, none, none, none, none, none, none, none, none, none, none, none, none, none, none, none, none, none, none, none, none, none, none, none, none, none, none, none, none, none]) (by kernel_rfl) ?_
      exact J44 (Option.some.inj hp224) _ _ hS226
   ·skip
    have hp227 := ite_f hv39 h190
    refine sx_run 3 (todo' := [.code (cd5 [1, 1, 1, 1, 1])]) (us := []) (by kernel_rfl) ?_
    have hS228 := hS37.pick1
    refine Runs.fill (m := [none, none, some (.string a2), some (.pointer (some ⟨b1, 0, none⟩)), some (.pointer (some ⟨b5, 0, none⟩)), none, none, some (.string t21), some (.int .i64 t22), some (.string t27), some (.int .i64 t28), none, none, none, none, none, none, none, none, none, none, none, none, none, none, none, none, none, none, none, none, none, none, none, none, none, none, none, none, none, none, none, none, none, none, none, none, none, none, none, none, none, none, none, none, none, none, none, none, none, none, none, none, none, none, none, none, none, none, none, none, none, none, none, none, none, none, none, none, none, none, none, none, none, none, none, none, none, none, none, none, none, none, none, none, none, none, none, none, none, none, none]) (by kernel_rfl) ?_
    exact J44 (Option.some.inj hp227) _ _ hS228

end
end Go.Proofs.YtjbhgahbaeoinaaDoor.K
