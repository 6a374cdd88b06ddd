import Derived.Test.YteppciglfdiljaaS
import Derived.Test.YteppciglfdiljaaF1
import Derived.Test.YteppciglfdiljaaF2
import Derived.Test.YteppciglfdiljaaF3
import Derived.Test.YteppciglfdiljaaE
import Derived.Test.YteppciglfdiljaaProg
set_option linter.unusedVariables false
set_option linter.unusedSimpArgs false
namespace Go.Proofs.Yteppciglfdiljaa.K
open Go Go.RowKit
noncomputable def c3 (p : List Nat) : Code := sub (bodyOf Try.f3) p
def weirlaw10_StateCodes.f (a0 : api_Final) (a1 : ByteArray) : Option Bool :=
  (state_Code.f a0 >>= fun u8 => (weirref10_Code.f a0 >>= fun u15 => (state_Decode.f a1 >>= fun u22 => (weirref10_Decode.f a1 >>= fun u43 => (if (seq u8.1 u15.1) = true then (weirlaw10_num.f u8.2 >>= fun u71 => (if (u71 == u15.2) = true then (if (decide (u22.1 = u43.1)) = true then (weirlaw10_num.f u22.2 >>= fun u86 => (if (u86 == u43.2) = true then some (true) else some (false))) else some (false)) else some (false))) else some (false))))))
theorem weirlaw10_StateCodes.ok (a0 : api_Final) (a1 : ByteArray) (w0 : World) (r : Bool) (hp0 : weirlaw10_StateCodes.f a0 a1 = some r) :
    Calls Try.prog 3 #[.agg (enc_api_Final a0).toArray, .string a1] w0 (fun e w' => e = .returned (.bool r) ∧ Fr [] w0 w') := by
  refine calls_abs ?_; intro R hR
  unfold weirlaw10_StateCodes.f at hp0
  have hF0 : Fr [] w0 w0 := Fr.refl _ _
  refine calls_of_runs (fn := Try.f3) (c := c3 []) Try.func3 (by kernel_rfl) (al := [.agg (enc_api_Final a0).toArray, .string a1]) rfl (n := 51) rfl ?_
  refine sx_run 2 (todo' := [.inRegion (opsOf (c3 [0])) [0, 1], .code (c3 [1])]) (us := []) (by kernel_rfl) ?_
  refine r_box (x := (.tmp 0)) (v := .agg (enc_api_Final a0).toArray) (c := (c3 [0])) (i := 0) (ty := 0) (d := (some 2)) (t := 24) (cs := enc_api_Final a0) (by kernel_rfl) (by kernel_rfl) (by kernel_rfl) (by kernel_rfl) ?_
  intro b1 w2 hn3
  have hg5 : w0.heap.size ≤ b1 := by rw [hn3.num]; exact hF0.size
  have hF7 : Fr [] w0 w2 := hF0.step0 hn3.fr
  have hb4 : Blk w2 b1 24 (enc_api_Final a0) := hn3.blk
  refine sx_run 4 (todo' := [.inRegion (opsOf (c3 [1, 0])) [0, 1, 2, 3, 4, 5, 6], .code (c3 [1, 1])]) (us := [(4, .bool false)]) (by kernel_rfl) ?_
  refine r_load (c := (c3 [1, 0])) (i := 0) (ty := 24) (d := (some 14)) (t := 24) (x := (.tmp 2)) (p := ⟨b1, 0, none⟩) (v := .agg (enc_api_Final a0).toArray) (by kernel_rfl) (by kernel_rfl) (by kernel_rfl) (loads_agg hb4.cells (by kernel_rfl) (len_st (len_api_Final _) (by kernel_rfl))) ?_
  obtain ⟨u8, hu9, hp10⟩ := bind_some' hp0
  refine r_call1 (c := (c3 [1, 0])) (i := 1) (d := (some 15)) (g := 7) (args := #[.agg (enc_api_Final a0).toArray]) (by kernel_rfl) (by kernel_rfl) (by kernel_rfl) (by kernel_rfl) (state_Code.ok a0 _ _ hu9) ?_
  rintro _ w11 ⟨rfl, hf12⟩
  refine ⟨.tuple #[.string u8.1, .int .i64 u8.2], rfl, ?_⟩
  have hF13 : Fr [] w0 w11 := hF7.step0 hf12
  have hb14 := hb4.fr0 hf12
  refine sx_run 8 (todo' := [.inRegion (opsOf (c3 [1, 1, 0])) [0, 1, 2, 3, 4, 5, 6], .code (c3 [1, 1, 1])]) (us := [(13, .tuple #[.string u8.1, .int .i64 u8.2]), (16, .string u8.1), (17, .int .i64 u8.2), (5, .string u8.1), (6, .int .i64 u8.2)]) (by kernel_rfl) ?_
  refine r_load (c := (c3 [1, 1, 0])) (i := 0) (ty := 24) (d := (some 19)) (t := 24) (x := (.tmp 2)) (p := ⟨b1, 0, none⟩) (v := .agg (enc_api_Final a0).toArray) (by kernel_rfl) (by kernel_rfl) (by kernel_rfl) (loads_agg hb14.cells (by kernel_rfl) (len_st (len_api_Final _) (by kernel_rfl))) ?_
  obtain ⟨u15, hu16, hp17⟩ := bind_some' hp10
  refine r_call1 (c := (c3 [1, 1, 0])) (i := 1) (d := (some 20)) (g := 8) (args := #[.agg (enc_api_Final a0).toArray]) (by kernel_rfl) (by kernel_rfl) (by kernel_rfl) (by kernel_rfl) (weirref10_Code.ok a0 _ _ hu16) ?_
  rintro _ w18 ⟨rfl, hf19⟩
  refine ⟨.tuple #[.string u15.1, .int .i64 u15.2], rfl, ?_⟩
  have hF20 : Fr [] w0 w18 := hF13.step0 hf19
  have hb21 := hb14.fr0 hf19
  refine sx_run 9 (todo' := [.inRegion (opsOf (c3 [1, 1, 1, 0])) [1, 2, 3, 4, 5, 6, 7], .code (c3 [1, 1, 1, 1])]) (us := [(18, .tuple #[.string u15.1, .int .i64 u15.2]), (21, .string u15.1), (22, .int .i64 u15.2), (7, .string u15.1), (8, .int .i64 u15.2), (24, .string a1)]) (by kernel_rfl) ?_
  obtain ⟨u22, hu23, hp24⟩ := bind_some' hp17
  refine r_call1 (c := (c3 [1, 1, 1, 0])) (i := 1) (d := (some 25)) (g := 9) (args := #[.string a1]) (by kernel_rfl) (by kernel_rfl) (by kernel_rfl) (by kernel_rfl) (state_Decode.ok a1 _ _ hu23) ?_
  rintro _ w25 ⟨rfl, hf26⟩
  refine ⟨.tuple #[.agg (enc_api_Final u22.1).toArray, .int .i64 u22.2], rfl, ?_⟩
  have hF27 : Fr [] w0 w25 := hF20.step0 hf26
  have hb28 := hb21.fr0 hf26
  refine sx_run 3 (todo' := [.inRegion (opsOf (c3 [1, 1, 1, 0])) [5, 6, 7], .code (c3 [1, 1, 1, 1])]) (us := [(23, .tuple #[.agg (enc_api_Final u22.1).toArray, .int .i64 u22.2]), (26, .agg (enc_api_Final u22.1).toArray), (27, .int .i64 u22.2)]) (by kernel_rfl) ?_
  refine r_alloc (z := .agg (enc_api_Final (⟨0, (Vector.replicate 48 0)⟩ : api_Final)).toArray) (c := (c3 [1, 1, 1, 0])) (i := 5) (ty := 0) (d := (some 9)) (t := 24) (cs := enc_api_Final (⟨0, (Vector.replicate 48 0)⟩ : api_Final)) (by kernel_rfl) (by kernel_rfl) (by kernel_rfl) (by kernel_rfl) ?_
  intro b29 w30 hn31
  have hg33 : w0.heap.size ≤ b29 := by rw [hn31.num]; exact hF27.size
  have hn35 : b1 ≠ b29 := hn31.ne hb28
  have hF36 : Fr [] w0 w30 := hF27.step0 hn31.fr
  have hb37 := hb28.fr0 hn31.fr
  have hb32 : Blk w30 b29 24 (enc_api_Final (⟨0, (Vector.replicate 48 0)⟩ : api_Final)) := hn31.blk
  refine r_store (c := (c3 [1, 1, 1, 0])) (i := 6) (ty := 0) (d := none) (t := 24) (x := (.tmp 9)) (y := (.tmp 26)) (v := .agg (enc_api_Final u22.1).toArray) (o := 0) (vs := enc_api_Final u22.1) (by kernel_rfl) (by kernel_rfl) (by kernel_rfl) (by kernel_rfl) hb32 (by kernel_rfl) (len_st (len_api_Final _) (by kernel_rfl)) (one_api_Final _) (by simp [len_api_Final]) ?_
  intro w38 hb39 hf40
  have hb39n : Blk w38 b29 24 (enc_api_Final u22.1) := Blk.eq hb39 (over_all ((len_api_Final _).trans (len_api_Final _).symm))
  have hF41 : Fr [] w0 w38 := hF36.stepX hf40 (by simpa using hg33)
  have hb42 := hb37.fr hf40 (by simp only [List.mem_singleton]; first | exact hn35 | exact Ne.symm hn35)
  refine sx_run 5 (todo' := [.inRegion (opsOf (c3 [1, 1, 1, 1, 0])) [1, 2, 3, 4, 5, 6, 7], .code (c3 [1, 1, 1, 1, 1])]) (us := [(10, .int .i64 u22.2), (29, .string a1)]) (by kernel_rfl) ?_
  obtain ⟨u43, hu44, hp45⟩ := bind_some' hp24
  refine r_call1 (c := (c3 [1, 1, 1, 1, 0])) (i := 1) (d := (some 30)) (g := 10) (args := #[.string a1]) (by kernel_rfl) (by kernel_rfl) (by kernel_rfl) (by kernel_rfl) (weirref10_Decode.ok a1 _ _ hu44) ?_
  rintro _ w46 ⟨rfl, hf47⟩
  refine ⟨.tuple #[.agg (enc_api_Final u43.1).toArray, .int .i64 u43.2], rfl, ?_⟩
  have hF48 : Fr [] w0 w46 := hF41.step0 hf47
  have hb49 := hb42.fr0 hf47
  have hb50 := hb39n.fr0 hf47
  refine sx_run 3 (todo' := [.inRegion (opsOf (c3 [1, 1, 1, 1, 0])) [5, 6, 7], .code (c3 [1, 1, 1, 1, 1])]) (us := [(28, .tuple #[.agg (enc_api_Final u43.1).toArray, .int .i64 u43.2]), (31, .agg (enc_api_Final u43.1).toArray), (32, .int .i64 u43.2)]) (by kernel_rfl) ?_
  refine r_alloc (z := .agg (enc_api_Final (⟨0, (Vector.replicate 48 0)⟩ : api_Final)).toArray) (c := (c3 [1, 1, 1, 1, 0])) (i := 5) (ty := 0) (d := (some 11)) (t := 24) (cs := enc_api_Final (⟨0, (Vector.replicate 48 0)⟩ : api_Final)) (by kernel_rfl) (by kernel_rfl) (by kernel_rfl) (by kernel_rfl) ?_
  intro b51 w52 hn53
  have hg55 : w0.heap.size ≤ b51 := by rw [hn53.num]; exact hF48.size
  have hn57 : b1 ≠ b51 := hn53.ne hb49
  have hn58 : b29 ≠ b51 := hn53.ne hb50
  have hF59 : Fr [] w0 w52 := hF48.step0 hn53.fr
  have hb60 := hb49.fr0 hn53.fr
  have hb61 := hb50.fr0 hn53.fr
  have hb54 : Blk w52 b51 24 (enc_api_Final (⟨0, (Vector.replicate 48 0)⟩ : api_Final)) := hn53.blk
  refine r_store (c := (c3 [1, 1, 1, 1, 0])) (i := 6) (ty := 0) (d := none) (t := 24) (x := (.tmp 11)) (y := (.tmp 31)) (v := .agg (enc_api_Final u43.1).toArray) (o := 0) (vs := enc_api_Final u43.1) (by kernel_rfl) (by kernel_rfl) (by kernel_rfl) (by kernel_rfl) hb54 (by kernel_rfl) (len_st (len_api_Final _) (by kernel_rfl)) (one_api_Final _) (by simp [len_api_Final]) ?_
  intro w62 hb63 hf64
  have hb63n : Blk w62 b51 24 (enc_api_Final u43.1) := Blk.eq hb63 (over_all ((len_api_Final _).trans (len_api_Final _).symm))
  have hF65 : Fr [] w0 w62 := hF59.stepX hf64 (by simpa using hg55)
  have hb66 := hb60.fr hf64 (by simp only [List.mem_singleton]; first | exact hn57 | exact Ne.symm hn57)
  have hb67 := hb61.fr hf64 (by simp only [List.mem_singleton]; first | exact hn58 | exact Ne.symm hn58)
  refine sx_split 7 (todo' := [.inRegion (opsOf (c3 [1, 1, 1, 1, 1, 0])) [3, 4, 5, 6, 7, 8, 9, 10, 11, 12, 13, 14, 15, 16, 17, 18, 19, 20], .code (c3 [1, 1, 1, 1, 1, 1])]) (us := [(12, .int .i64 u43.2), (33, .string u8.1), (34, .string u15.1)]) (d := 35) (t := (seq u8.1 u15.1)) (by kernel_rfl) (fun h68 => ?_) (fun h69 => ?_)
  · skip
    have hp70 := ite_t hp45 h68
    refine sx_run 2 (todo' := [.inRegion (opsOf (c3 [1, 1, 1, 1, 1, 0])) [5, 6, 7, 8, 9, 10, 11, 12, 13, 14, 15, 16, 17, 18, 19, 20], .code (c3 [1, 1, 1, 1, 1, 1])]) (us := [(36, .bool true), (37, .int .i64 u8.2)]) (by kernel_rfl) ?_
    obtain ⟨u71, hu72, hp73⟩ := bind_some' hp70
    refine r_call1 (c := (c3 [1, 1, 1, 1, 1, 0])) (i := 5) (d := (some 38)) (g := 11) (args := #[.int .i64 u8.2]) (by kernel_rfl) (by kernel_rfl) (by kernel_rfl) (by kernel_rfl) (weirlaw10_num.ok u8.2 _ _ hu72) ?_
    rintro _ w74 ⟨rfl, hf75⟩
    refine ⟨.int .i64 u71, rfl, ?_⟩
    have hF76 : Fr [] w0 w74 := hF65.step0 hf75
    have hb77 := hb66.fr0 hf75
    have hb78 := hb67.fr0 hf75
    have hb79 := hb63n.fr0 hf75
    refine sx_split 2 (todo' := [.inRegion (opsOf (c3 [1, 1, 1, 1, 1, 0])) [8, 9, 10, 11, 12, 13, 14, 15, 16, 17, 18, 19, 20], .code (c3 [1, 1, 1, 1, 1, 1])]) (us := [(39, .int .i64 u15.2)]) (d := 40) (t := (u71 == u15.2)) (by kernel_rfl) (fun h80 => ?_) (fun h81 => ?_)
    · skip
      have hp82 := ite_t hp73 h80
      refine sx_run 2 (todo' := [.inRegion (opsOf (c3 [1, 1, 1, 1, 1, 0])) [10, 11, 12, 13, 14, 15, 16, 17, 18, 19, 20], .code (c3 [1, 1, 1, 1, 1, 1])]) (us := [(41, .bool true), (42, .bool true)]) (by kernel_rfl) ?_
      refine r_load (c := (c3 [1, 1, 1, 1, 1, 0])) (i := 10) (ty := 24) (d := (some 43)) (t := 24) (x := (.tmp 9)) (p := ⟨b29, 0, none⟩) (v := .agg (enc_api_Final u22.1).toArray) (by kernel_rfl) (by kernel_rfl) (by kernel_rfl) (loads_agg hb78.cells (by kernel_rfl) (len_st (len_api_Final _) (by kernel_rfl))) ?_
      refine r_load (c := (c3 [1, 1, 1, 1, 1, 0])) (i := 11) (ty := 24) (d := (some 44)) (t := 24) (x := (.tmp 11)) (p := ⟨b51, 0, none⟩) (v := .agg (enc_api_Final u43.1).toArray) (by kernel_rfl) (by kernel_rfl) (by kernel_rfl) (loads_agg hb79.cells (by kernel_rfl) (len_st (len_api_Final _) (by kernel_rfl))) ?_
      refine r_val (c := (c3 [1, 1, 1, 1, 1, 0])) (i := 12) (ty := 4) (d := (some 45)) (op := .binOp .eql 24 (.tmp 43) (.tmp 44) 24) (v := .bool (decide (u22.1 = u43.1))) (by kernel_rfl) (by kernel_rfl) (fun o ho _ => x_eql_api_Final (by kernel_rfl) (by kernel_rfl) ho) ?_
      refine r_split (decide (u22.1 = u43.1)) (fun h83 => ?_) (fun h84 => ?_)
      · skip
        have hp85 := ite_t hp82 h83
        refine sx_run 3 (todo' := [.inRegion (opsOf (c3 [1, 1, 1, 1, 1, 0])) [16, 17, 18, 19, 20], .code (c3 [1, 1, 1, 1, 1, 1])]) (us := [(46, .bool true), (47, .bool true), (48, .int .i64 u22.2)]) (by kernel_rfl) ?_
        obtain ⟨u86, hu87, hp88⟩ := bind_some' hp85
        refine r_call1 (c := (c3 [1, 1, 1, 1, 1, 0])) (i := 16) (d := (some 49)) (g := 11) (args := #[.int .i64 u22.2]) (by kernel_rfl) (by kernel_rfl) (by kernel_rfl) (by kernel_rfl) (weirlaw10_num.ok u22.2 _ _ hu87) ?_
        rintro _ w89 ⟨rfl, hf90⟩
        refine ⟨.int .i64 u86, rfl, ?_⟩
        have hF91 : Fr [] w0 w89 := hF76.step0 hf90
        have hb92 := hb77.fr0 hf90
        have hb93 := hb78.fr0 hf90
        have hb94 := hb79.fr0 hf90
        refine sx_split 2 (todo' := [.inRegion (opsOf (c3 [1, 1, 1, 1, 1, 0])) [19, 20], .code (c3 [1, 1, 1, 1, 1, 1])]) (us := [(50, .int .i64 u43.2)]) (d := 51) (t := (u86 == u43.2)) (by kernel_rfl) (fun h95 => ?_) (fun h96 => ?_)
        · skip
          have hp97 := ite_t hp88 h95
          refine sx_run 3 (todo' := [.code (c3 [1, 1, 1, 1, 1, 1])]) (us := [(52, .bool true), (4, .bool true)]) (by kernel_rfl) ?_
          refine runs_ret (fn := Try.f3) (v := .bool true) Try.func3 (by kernel_rfl) ?_
          have hr98 := (Option.some.inj hp97)
          subst hr98
          exact hR _ _ ⟨rfl, hF91⟩
        · skip
          have hp99 := ite_f hp88 h96
          refine sx_run 3 (todo' := [.code (c3 [1, 1, 1, 1, 1, 1])]) (us := [(52, .bool false), (4, .bool false)]) (by kernel_rfl) ?_
          refine runs_ret (fn := Try.f3) (v := .bool false) Try.func3 (by kernel_rfl) ?_
          have hr100 := (Option.some.inj hp99)
          subst hr100
          exact hR _ _ ⟨rfl, hF91⟩
      · skip
        have hp101 := ite_f hp82 h84
        refine sx_run 9 (todo' := [.code (c3 [1, 1, 1, 1, 1, 1])]) (us := [(46, .bool false), (47, .bool false), (48, undef), (49, undef), (50, undef), (51, undef), (52, .bool false), (4, .bool false)]) (by kernel_rfl) ?_
        refine runs_ret (fn := Try.f3) (v := .bool false) Try.func3 (by kernel_rfl) ?_
        have hr102 := (Option.some.inj hp101)
        subst hr102
        exact hR _ _ ⟨rfl, hF76⟩
    · skip
      have hp103 := ite_f hp73 h81
      refine sx_run 14 (todo' := [.code (c3 [1, 1, 1, 1, 1, 1])]) (us := [(41, .bool false), (42, .bool false), (43, undef), (44, undef), (45, undef), (46, .bool false), (47, .bool false), (48, undef), (49, undef), (50, undef), (51, undef), (52, .bool false), (4, .bool false)]) (by kernel_rfl) ?_
      refine runs_ret (fn := Try.f3) (v := .bool false) Try.func3 (by kernel_rfl) ?_
      have hr104 := (Option.some.inj hp103)
      subst hr104
      exact hR _ _ ⟨rfl, hF76⟩
  · skip
    have hp105 := ite_f hp45 h69
    refine sx_run 19 (todo' := [.code (c3 [1, 1, 1, 1, 1, 1])]) (us := [(36, .bool false), (37, undef), (38, undef), (39, undef), (40, undef), (41, .bool false), (42, .bool false), (43, undef), (44, undef), (45, undef), (46, .bool false), (47, .bool false), (48, undef), (49, undef), (50, undef), (51, undef), (52, .bool false), (4, .bool false)]) (by kernel_rfl) ?_
    refine runs_ret (fn := Try.f3) (v := .bool false) Try.func3 (by kernel_rfl) ?_
    have hr106 := (Option.some.inj hp105)
    subst hr106
    exact hR _ _ ⟨rfl, hF65⟩
end Go.Proofs.Yteppciglfdiljaa.K
