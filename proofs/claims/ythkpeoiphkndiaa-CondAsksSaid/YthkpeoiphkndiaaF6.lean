/- The walk, part 6: each Go function as a plain Lean function, and that its call answers as that function says. No condition. -/
import Derived.Test.YthkpeoiphkndiaaE
import Derived.Test.YthkpeoiphkndiaaNS
import Derived.Test.YthkpeoiphkndiaaLS
import Derived.Test.YthkpeoiphkndiaaNM
import Derived.Test.YthkpeoiphkndiaaNV
import Derived.Test.YthkpeoiphkndiaaF5
set_option linter.unusedVariables false
set_option linter.unusedSimpArgs false
set_option maxRecDepth 100000
namespace Go.Proofs.Ythkpeoiphkndiaa.K
open Go Go.RowKit
noncomputable section
noncomputable def cd4 (p : List Nat) : Code := sub (bodyOf Try.f4) p
def weirlaw06_CondAsks.l2 (t299 : List api_Ref) (t303 : Int) : Option Unit :=
  (if (decide (t303 < 20)) = true then (if (t299.length + ([(⟨(-8), (⟨#[]⟩ : ByteArray)⟩ : api_Ref)] : List api_Ref).length) * 24 ≤ 140737488355328 then (weirlaw06_CondAsks.l2 (t299 ++ ([(⟨(-8), (⟨#[]⟩ : ByteArray)⟩ : api_Ref)] : List api_Ref)) (IntKind.i64.wrap (t303 + 1))) else none) else some (()))
 partial_fixpoint
def weirlaw06_CondAsks.l1 (t339 : Int) (t340 : List api_Ref) : Option (List api_Ref) :=
  (if (decide (t339 < (t340.length : Int))) = true then (if 0 ≤ t339 ∧ t339 < (t340.length : Int) then (weirlaw06_CondAsks.l1 (IntKind.i64.wrap (t339 + 1)) (setl t340 t339 (⟨(-9), (⟨#[]⟩ : ByteArray)⟩ : api_Ref))) else none) else some (t340))
 partial_fixpoint
def weirlaw06_CondAsks.l0 (a1 : weirlaw06_Set) (t48 : List api_Ref) (t375 : List Int) (t379 : Int) : Option (List Int) :=
  (if (decide (t379 < (t48.length : Int))) = true then (if 0 ≤ t379 ∧ t379 < (t48.length : Int) then (weirlaw06_Set__of.f (⟨a1.Refs, a1.Values, a1.Rest⟩ : weirlaw06_Set) (gt t48 t379) >>= (fun t398 => (if (t375.length + ([t398] : List Int).length) * 8 ≤ 140737488355328 then (weirlaw06_CondAsks.l0 a1 t48 (t375 ++ ([t398] : List Int)) (IntKind.i64.wrap (t379 + 1))) else none))) else none) else some (t375))
 partial_fixpoint
def weirlaw06_CondAsks.f (a0 : List api_Node) (a1 : weirlaw06_Set) : Option Bool :=
  (weirlaw06_lent.f a0 >>= (fun (t5, t6) => (if t6 ≤ t5.length then (cond_Refs.f (t5.take t6) >>= (fun (t16, t17) => (if t6 ≤ t5.length then (cond_Refs.f (t5.take t6) >>= (fun (t33, t34) => (weirref06_Refs.f a0 >>= (fun (t48, t49) => (weirlaw06_sameRefs.f t16 t48 >>= (fun t63 => (if (!t63) = true then some (false) else (weirlaw06_sameRefs.f t33 t48 >>= (fun t93 => (if (!t93) = true then some (false) else (weirlaw06_num.f t17 >>= (fun t123 => (if (t123 != t49) = true then some (false) else (if t6 ≤ t5.length then (cond_Holds.f (t5.take t6) t48 false (⟨a1.Refs, a1.Values, a1.Rest⟩ : weirlaw06_Set) >>= (fun (t147, t148, t149) => (weirlaw06_CondAsks.l0 a1 t48 [] 0 >>= (fun t177 => (weirref06_Holds.f a0 t48 t177 >>= (fun (t186, t187) => (weirlaw06_CondAsks.l1 0 t16 >>= (fun t211 => (weirlaw06_CondAsks.l2 t211 0 >>= (fun _ => (if (t147 == t186) = true then (weirlaw06_num.f t148 >>= (fun t228 => (if (t228 == t187) = true then (if (!t149) = true then (weirlaw06_sameRefs.f t33 t48 >>= (fun t239 => (if t239 = true then (weirlaw06_back.f t5 t6 a0 >>= (fun t266 => some (t266))) else some (false)))) else some (false)) else some (false)))) else some (false)))))))))))) else none)))))))))))))) else none))) else none)))
set_option maxHeartbeats 16000000 in
theorem weirlaw06_CondAsks.ok (a0 : List api_Node) (a1 : weirlaw06_Set) (Aa0 : Option Addr) (ca0 : Nat) (Aa1_0 : Option Addr) (ca1_0 : Nat) (Aa1_1 : Option Addr) (ca1_1 : Nat) {w0 : World} {Z : Zm} {fs : List XObj} {w : World} (hS0 : St w0 Z (fs) w) (ha0 : SlZ (flat enc_api_Node) 6 Z Aa0 ca0 a0) (ha1_0 : SlZ (flat enc_api_Ref) 2 Z Aa1_0 ca1_0 a1.Refs) (ha1_1 : SlZ (flat (encI .i64)) 1 Z Aa1_1 ca1_1 a1.Values) {q0 : Bool} (hp0 : weirlaw06_CondAsks.f a0 a1 = some q0) :
    Calls Try.prog 4 #[.slice Aa0 a0.length ca0, .agg #[.slice Aa1_0 a1.Refs.length ca1_0, .slice Aa1_1 a1.Values.length ca1_1, .int .i64 a1.Rest]] w (fun e w' => e = .returned (.bool q0) ∧ St w0 Z (fs) w') := by
  refine calls_abs ?_; intro R hR
  unfold weirlaw06_CondAsks.f at hp0
  refine calls_of_runs (fn := Try.f4) (c := cd4 []) Try.func4 (by kernel_rfl) (al := [.slice Aa0 a0.length ca0, .agg #[.slice Aa1_0 a1.Refs.length ca1_0, .slice Aa1_1 a1.Values.length ca1_1, .int .i64 a1.Rest]]) rfl (n := 121) rfl ?_
  refine sx_run 2 (todo' := [.inRegion (opsOf (cd4 [0])) [0, 1], .code (cd4 [1])]) (us := []) (by kernel_rfl) ?_
  refine r_box (c := (cd4 [0])) (i := 0) (d := (some 3)) (ty := 0) (x := (.tmp 1)) (v := .agg #[.slice Aa1_0 a1.Refs.length ca1_0, .slice Aa1_1 a1.Values.length ca1_1, .int .i64 a1.Rest]) (t := 37) (cs := [.slice Aa1_0 a1.Refs.length ca1_0, .slice Aa1_1 a1.Values.length ca1_1, .int .i64 a1.Rest]) hS0 (by kernel_rfl) (by kernel_rfl) (by kernel_rfl) (by kernel_rfl) ?_
  intro b1 w2 hS3
  refine sx_run 5 (todo' := [.inRegion (opsOf (cd4 [1, 0])) [1, 2], .code (cd4 [1, 1])]) (us := [(4, .bool false), (21, .slice Aa0 a0.length ca0)]) (by kernel_rfl) ?_
  obtain ⟨⟨t5, t6⟩, hr9, hp10⟩ := bind_some' hp0
  try dsimp only at hp10
  refine r_call1 (c := (cd4 [1, 0])) (i := 1) (d := (some 22)) (g := 5) (args := #[.slice Aa0 a0.length ca0]) (by kernel_rfl) (by kernel_rfl) (by kernel_rfl) (by kernel_rfl) (weirlaw06_lent.ok a0 Aa0 ca0 hS3 ha0 hr9) ?_
  rintro _ w12 ⟨Q7, Q8, rfl, hS13⟩
  refine ⟨.slice Q7 t6 Q8, rfl, ?_⟩
  refine sx_run 5 (todo' := [.inRegion (opsOf (cd4 [1, 1, 0])) [1, 2, 3, 4, 5, 6], .code (cd4 [1, 1, 1])]) (us := [(5, .slice Q7 t6 Q8), (24, .slice Q7 t6 Q8)]) (by kernel_rfl) ?_
  obtain ⟨g14, hp15⟩ := ite_some hp10
  obtain ⟨⟨t16, t17⟩, hr20, hp21⟩ := bind_some' hp15
  try dsimp only at hp21
  obtain ⟨Z23, hz24, hS25, hs26, hb27⟩ := hS13.lendrow len_api_Node (by omega)
  refine r_call1 (c := (cd4 [1, 1, 0])) (i := 1) (d := (some 25)) (g := 12) (args := #[.slice Q7 t6 Q8]) (by kernel_rfl) (by kernel_rfl) (by kernel_rfl) (by kernel_rfl) (args_eq (by rw [lenTake g14]) (cond_Refs.ok (t5.take t6) Q7 Q8 hS25 (hs26.take0 t6) hr20)) ?_
  rintro _ w28 ⟨Q18, Q19, rfl, hS29⟩
  refine ⟨.tuple #[.slice Q18 t16.length Q19, .int .i64 t17], rfl, ?_⟩
  have hS30 := hb27 _ _ hS29
  refine sx_run 9 (todo' := [.inRegion (opsOf (cd4 [1, 1, 1, 0])) [1, 2, 3, 4, 5, 6], .code (cd4 [1, 1, 1, 1])]) (us := [(23, .tuple #[.slice Q18 t16.length Q19, .int .i64 t17]), (26, .slice Q18 t16.length Q19), (27, .int .i64 t17), (6, .slice Q18 t16.length Q19), (7, .int .i64 t17), (29, .slice Q7 t6 Q8)]) (by kernel_rfl) ?_
  obtain ⟨g31, hp32⟩ := ite_some hp21
  obtain ⟨⟨t33, t34⟩, hr37, hp38⟩ := bind_some' hp32
  try dsimp only at hp38
  obtain ⟨Z40, hz41, hS42, hs43, hb44⟩ := hS30.lendrow len_api_Node (by omega)
  refine r_call1 (c := (cd4 [1, 1, 1, 0])) (i := 1) (d := (some 30)) (g := 12) (args := #[.slice Q7 t6 Q8]) (by kernel_rfl) (by kernel_rfl) (by kernel_rfl) (by kernel_rfl) (args_eq (by rw [lenTake g31]) (cond_Refs.ok (t5.take t6) Q7 Q8 hS42 (hs43.take0 t6) hr37)) ?_
  rintro _ w45 ⟨Q35, Q36, rfl, hS46⟩
  refine ⟨.tuple #[.slice Q35 t33.length Q36, .int .i64 t34], rfl, ?_⟩
  have hS47 := hb44 _ _ hS46
  refine sx_run 9 (todo' := [.inRegion (opsOf (cd4 [1, 1, 1, 1, 0])) [1, 2, 3, 4, 5, 6, 7], .code (cd4 [1, 1, 1, 1, 1])]) (us := [(28, .tuple #[.slice Q35 t33.length Q36, .int .i64 t34]), (31, .slice Q35 t33.length Q36), (32, .int .i64 t34), (8, .slice Q35 t33.length Q36), (9, .int .i64 t34), (34, .slice Aa0 a0.length ca0)]) (by kernel_rfl) ?_
  obtain ⟨⟨t48, t49⟩, hr52, hp53⟩ := bind_some' hp38
  try dsimp only at hp53
  refine r_call1 (c := (cd4 [1, 1, 1, 1, 0])) (i := 1) (d := (some 35)) (g := 13) (args := #[.slice Aa0 a0.length ca0]) (by kernel_rfl) (by kernel_rfl) (by kernel_rfl) (by kernel_rfl) (weirref06_Refs.ok a0 Aa0 ca0 hS47 ha0 hr52) ?_
  rintro _ w55 ⟨Q50, Q51, rfl, hS56⟩
  refine ⟨.tuple #[.slice Q50 t48.length Q51, .int .i64 t49], rfl, ?_⟩
  refine sx_run 3 (todo' := [.inRegion (opsOf (cd4 [1, 1, 1, 1, 0])) [5, 6, 7], .code (cd4 [1, 1, 1, 1, 1])]) (us := [(33, .tuple #[.slice Q50 t48.length Q51, .int .i64 t49]), (36, .slice Q50 t48.length Q51), (37, .int .i64 t49)]) (by kernel_rfl) ?_
  refine r_alloc (c := (cd4 [1, 1, 1, 1, 0])) (i := 5) (d := (some 10)) (ty := 0) (z := .slice none 0 0) (t := 34) (cs := [.slice none 0 0]) hS56 (by kernel_rfl) (by kernel_rfl) (by kernel_rfl) (by kernel_rfl) ?_
  intro b57 w58 hS59
  refine r_store (c := (cd4 [1, 1, 1, 1, 0])) (i := 6) (d := none) (ty := 0) (t := 34) (x := (.tmp 10)) (y := (.tmp 36)) (b := b57) (o := 0) (e := 34) (cs := [.slice none 0 0]) (v := .slice Q50 t48.length Q51) (vs := [.slice Q50 t48.length Q51]) (cs' := [.slice Q50 t48.length Q51]) hS59 (by kernel_rfl) (by kernel_rfl) (by kernel_rfl) (by kernel_rfl) (by kernel_rfl) (by kernel_rfl) (by kernel_rfl) (Nat.le_of_ble_eq_true (by kernel_rfl)) (by kernel_rfl) ?_
  intro w61 hS62
  refine sx_run 6 (todo' := [.inRegion (opsOf (cd4 [1, 1, 1, 1, 1, 0, 0])) [1, 2, 3, 4, 5, 6, 7, 8, 9, 10, 11, 12, 13, 14, 15], .code (cd4 [1, 1, 1, 1, 1, 0, 1]), .code (cd4 [1, 1, 1, 1, 1, 1])]) (us := [(11, .int .i64 t49), (38, .slice Q18 t16.length Q19)]) (by kernel_rfl) ?_
  refine r_load (c := (cd4 [1, 1, 1, 1, 1, 0, 0])) (i := 1) (d := (some 39)) (ty := 34) (t := 34) (x := (.tmp 10)) (p := ⟨b57, 0, none⟩) (v := .slice Q50 t48.length Q51) (by kernel_rfl) (by kernel_rfl) (by kernel_rfl) (loads_at 0 (hS62.blk 0 rfl) (by kernel_rfl) (by kernel_rfl)) ?_
  obtain ⟨t63, hr64, hp65⟩ := bind_some' hp53
  have hS66 := hS62.pick4
  obtain ⟨Z67, hz68, hS69, hs70, hb71⟩ := hS66.lendrow len_api_Ref (by omega)
  have hS72 := hS69.pick1
  obtain ⟨Z73, hz74, hS75, hs76, hb77⟩ := hS72.lendrow len_api_Ref (by omega)
  refine r_call1 (c := (cd4 [1, 1, 1, 1, 1, 0, 0])) (i := 2) (d := (some 40)) (g := 14) (args := #[.slice Q18 t16.length Q19, .slice Q50 t48.length Q51]) (by kernel_rfl) (by kernel_rfl) (by kernel_rfl) (by kernel_rfl) (weirlaw06_sameRefs.ok t16 t48 Q18 Q19 Q50 Q51 hS75 (hs70.up hz74) hs76 hr64) ?_
  rintro _ w78 ⟨rfl, hS79⟩
  refine ⟨.bool t63, rfl, ?_⟩
  have hS80 := hb77 _ _ hS79
  have hS81 := hb71 _ _ hS80
  refine sx_split 1 (todo' := [.inRegion (opsOf (cd4 [1, 1, 1, 1, 1, 0, 0])) [4, 5, 6, 7, 8, 9, 10, 11, 12, 13, 14, 15], .code (cd4 [1, 1, 1, 1, 1, 0, 1]), .code (cd4 [1, 1, 1, 1, 1, 1])]) (us := []) (d := 41) (t := (!t63)) (by kernel_rfl) (fun h82 => ?_) (fun h83 => ?_)
  ·skip
   have hp84 := ite_t hp65 h82
   refine sx_run 18 (todo' := [.code (cd4 [1, 1, 1, 1, 1, 0, 1, 0, 1]), .code (cd4 [1, 1, 1, 1, 1, 1])]) (us := [(42, .bool true), (43, undef), (44, undef), (45, undef), (46, undef), (47, .bool true), (48, .bool true), (49, undef), (50, undef), (51, undef), (52, undef), (53, .bool true), (4, .bool false)]) (by kernel_rfl) ?_
   have hS85 := hS81.drop
   have hS86 := hS85.drop
   have hS87 := hS86.drop
   have hS88 := hS87.drop
   have hS89 := hS88.drop
   have hS90 := hS89.drop
   refine runs_ret (fn := Try.f4) (v := .bool false) Try.func4 (by kernel_rfl) ?_
   have hr91 := (Option.some.inj hp84)
   cases hr91
   exact hR _ _ ⟨rfl, hS90⟩
  ·skip
   have hp92 := ite_f hp65 h83
   refine sx_run 2 (todo' := [.inRegion (opsOf (cd4 [1, 1, 1, 1, 1, 0, 0])) [6, 7, 8, 9, 10, 11, 12, 13, 14, 15], .code (cd4 [1, 1, 1, 1, 1, 0, 1]), .code (cd4 [1, 1, 1, 1, 1, 1])]) (us := [(42, .bool false), (43, .slice Q35 t33.length Q36)]) (by kernel_rfl) ?_
   refine r_load (c := (cd4 [1, 1, 1, 1, 1, 0, 0])) (i := 6) (d := (some 44)) (ty := 34) (t := 34) (x := (.tmp 10)) (p := ⟨b57, 0, none⟩) (v := .slice Q50 t48.length Q51) (by kernel_rfl) (by kernel_rfl) (by kernel_rfl) (loads_at 0 (hS81.blk 2 rfl) (by kernel_rfl) (by kernel_rfl)) ?_
   obtain ⟨t93, hr94, hp95⟩ := bind_some' hp92
   have hS96 := hS81.pick4
   obtain ⟨Z97, hz98, hS99, hs100, hb101⟩ := hS96.lendrow len_api_Ref (by omega)
   have hS102 := hS99.pick1
   obtain ⟨Z103, hz104, hS105, hs106, hb107⟩ := hS102.lendrow len_api_Ref (by omega)
   refine r_call1 (c := (cd4 [1, 1, 1, 1, 1, 0, 0])) (i := 7) (d := (some 45)) (g := 14) (args := #[.slice Q35 t33.length Q36, .slice Q50 t48.length Q51]) (by kernel_rfl) (by kernel_rfl) (by kernel_rfl) (by kernel_rfl) (weirlaw06_sameRefs.ok t33 t48 Q35 Q36 Q50 Q51 hS105 (hs100.up hz104) hs106 hr94) ?_
   rintro _ w108 ⟨rfl, hS109⟩
   refine ⟨.bool t93, rfl, ?_⟩
   have hS110 := hb107 _ _ hS109
   have hS111 := hb101 _ _ hS110
   refine sx_split 1 (todo' := [.inRegion (opsOf (cd4 [1, 1, 1, 1, 1, 0, 0])) [9, 10, 11, 12, 13, 14, 15], .code (cd4 [1, 1, 1, 1, 1, 0, 1]), .code (cd4 [1, 1, 1, 1, 1, 1])]) (us := []) (d := 46) (t := (!t93)) (by kernel_rfl) (fun h112 => ?_) (fun h113 => ?_)
   ·skip
    have hp114 := ite_t hp95 h112
    refine sx_run 13 (todo' := [.code (cd4 [1, 1, 1, 1, 1, 0, 1, 0, 1]), .code (cd4 [1, 1, 1, 1, 1, 1])]) (us := [(47, .bool true), (48, .bool true), (49, undef), (50, undef), (51, undef), (52, undef), (53, .bool true), (4, .bool false)]) (by kernel_rfl) ?_
    have hS115 := hS111.drop
    have hS116 := hS115.drop
    have hS117 := hS116.drop
    have hS118 := hS117.drop
    have hS119 := hS118.drop
    have hS120 := hS119.drop
    refine runs_ret (fn := Try.f4) (v := .bool false) Try.func4 (by kernel_rfl) ?_
    have hr121 := (Option.some.inj hp114)
    cases hr121
    exact hR _ _ ⟨rfl, hS120⟩
   ·skip
    have hp122 := ite_f hp95 h113
    refine sx_run 3 (todo' := [.inRegion (opsOf (cd4 [1, 1, 1, 1, 1, 0, 0])) [12, 13, 14, 15], .code (cd4 [1, 1, 1, 1, 1, 0, 1]), .code (cd4 [1, 1, 1, 1, 1, 1])]) (us := [(47, .bool false), (48, .bool false), (49, .int .i64 t17)]) (by kernel_rfl) ?_
    obtain ⟨t123, hr124, hp125⟩ := bind_some' hp122
    refine r_call1 (c := (cd4 [1, 1, 1, 1, 1, 0, 0])) (i := 12) (d := (some 50)) (g := 9) (args := #[.int .i64 t17]) (by kernel_rfl) (by kernel_rfl) (by kernel_rfl) (by kernel_rfl) (weirlaw06_num.ok t17 hS111 hr124) ?_
    rintro _ w126 ⟨rfl, hS127⟩
    refine ⟨.int .i64 t123, rfl, ?_⟩
    refine sx_split 2 (todo' := [.inRegion (opsOf (cd4 [1, 1, 1, 1, 1, 0, 0])) [15], .code (cd4 [1, 1, 1, 1, 1, 0, 1]), .code (cd4 [1, 1, 1, 1, 1, 1])]) (us := [(51, .int .i64 t49)]) (d := 52) (t := (t123 != t49)) (by kernel_rfl) (fun h128 => ?_) (fun h129 => ?_)
    ·skip
     have hp130 := ite_t hp125 h128
     refine sx_run 7 (todo' := [.code (cd4 [1, 1, 1, 1, 1, 0, 1, 0, 1]), .code (cd4 [1, 1, 1, 1, 1, 1])]) (us := [(53, .bool true), (4, .bool false)]) (by kernel_rfl) ?_
     have hS131 := hS127.drop
     have hS132 := hS131.drop
     have hS133 := hS132.drop
     have hS134 := hS133.drop
     have hS135 := hS134.drop
     have hS136 := hS135.drop
     refine runs_ret (fn := Try.f4) (v := .bool false) Try.func4 (by kernel_rfl) ?_
     have hr137 := (Option.some.inj hp130)
     cases hr137
     exact hR _ _ ⟨rfl, hS136⟩
    ·skip
     have hp138 := ite_f hp125 h129
     refine sx_run 6 (todo' := [.inRegion (opsOf (cd4 [1, 1, 1, 1, 1, 1, 0])) [0, 1], .code (cd4 [1, 1, 1, 1, 1, 1, 1])]) (us := [(53, .bool false)]) (by kernel_rfl) ?_
     refine r_alloc (c := (cd4 [1, 1, 1, 1, 1, 1, 0])) (i := 0) (d := (some 12)) (ty := 0) (z := .bool false) (t := 4) (cs := [.bool false]) hS127 (by kernel_rfl) (by kernel_rfl) (by kernel_rfl) (by kernel_rfl) ?_
     intro b139 w140 hS141
     refine r_store (c := (cd4 [1, 1, 1, 1, 1, 1, 0])) (i := 1) (d := none) (ty := 0) (t := 4) (x := (.tmp 12)) (y := (.const (.bool false))) (b := b139) (o := 0) (e := 4) (cs := [.bool false]) (v := .bool false) (vs := [.bool false]) (cs' := [.bool false]) hS141 (by kernel_rfl) (by kernel_rfl) (by kernel_rfl) (by kernel_rfl) (by kernel_rfl) (by kernel_rfl) (by kernel_rfl) (Nat.le_of_ble_eq_true (by kernel_rfl)) (by kernel_rfl) ?_
     intro w143 hS144
     refine sx_run 5 (todo' := [.inRegion (opsOf (cd4 [1, 1, 1, 1, 1, 1, 1, 0])) [2, 3, 4, 5, 6, 7], .code (cd4 [1, 1, 1, 1, 1, 1, 1, 1])]) (us := [(55, .slice Q7 t6 Q8), (56, .func (.func 16) #[] #[.pointer (some ⟨b57, 0, none⟩), .pointer (some ⟨b139, 0, none⟩), .pointer (some ⟨b1, 0, none⟩)])]) (by kernel_rfl) ?_
     obtain ⟨g145, hp146⟩ := ite_some hp138
     obtain ⟨⟨t147, t148, t149⟩, hr150, hp151⟩ := bind_some' hp146
     try dsimp only at hp151
     have hS155 := hS144.pick5
     obtain ⟨Z156, hz157, hS158, hs159, hb160⟩ := hS155.lendrow len_api_Node (by omega)
     have hS161 := hS158.pick2
     obtain ⟨Z162, hz163, hS164, hs165, hb166⟩ := hS161.lendrow len_api_Ref (by omega)
     have hS167 := hS164.pick4
     have hS168 := hS167.pick1
     have hS169 := hS168.pick4
     refine r_call1 (c := (cd4 [1, 1, 1, 1, 1, 1, 1, 0])) (i := 2) (d := (some 57)) (g := 15) (args := #[.slice Q7 t6 Q8, .func (.func 16) #[] #[.pointer (some ⟨b57, 0, none⟩), .pointer (some ⟨b139, 0, none⟩), .pointer (some ⟨b1, 0, none⟩)]]) (by kernel_rfl) (by kernel_rfl) (by kernel_rfl) (by kernel_rfl) (args_eq (by rw [lenTake g145]) (cond_Holds.ok (t5.take t6) t48 false (⟨a1.Refs, a1.Values, a1.Rest⟩ : weirlaw06_Set) Q7 Q8 b57 Q50 Q51 b139 b1 Aa1_0 ca1_0 Aa1_1 ca1_1 hS169 ((hs159.up hz163).take0 t6) hs165 (ha1_0.up (Zm.Le.trans hz157 hz163)) (ha1_1.up (Zm.Le.trans hz157 hz163)) hr150)) ?_
     rintro _ w170 ⟨rfl, hS171⟩
     refine ⟨.tuple #[.bool t147, .int .i64 t148], rfl, ?_⟩
     have hS172 := hb166 _ _ hS171
     have hS173 := hb160 _ _ hS172
     refine sx_run 17 (todo' := [.code (cd4 [1, 1, 1, 1, 1, 1, 1, 1, 1, 0, 1, 0, 0]), .inLoop (cd4 [1, 1, 1, 1, 1, 1, 1, 1, 1, 0, 1, 0, 0]), .inBlock 0, .code (cd4 [1, 1, 1, 1, 1, 1, 1, 1, 1, 1])]) (us := [(54, .tuple #[.bool t147, .int .i64 t148]), (58, .bool t147), (59, .int .i64 t148), (13, .bool t147), (14, .int .i64 t148), (15, .slice none 0 0), (16, .int .i64 0)]) (by kernel_rfl) ?_
     obtain ⟨v174, hv175, hp176⟩ := bind_some' hp151
     have J183 : ∀ (t177 : List Int) (he185 : t177 = v174) (l184 : List Value) (A178 : Option Addr) (c179 : Nat) (w181 : World) (hS182 : St w0 Z (xrow Q7 Q8 52 6 (t5.flatMap enc_api_Node) :: xrow Q18 Q19 46 2 (t16.flatMap enc_api_Ref) :: xrow Q35 Q36 46 2 (t33.flatMap enc_api_Ref) :: xblk b57 34 ([.slice Q50 t48.length Q51]) :: xrow Q50 Q51 46 2 (t48.flatMap enc_api_Ref) :: xblk b139 4 ([.bool t149]) :: xrow A178 c179 2 1 (t177.flatMap (encI .i64)) :: fs) w181), Runs Try.prog 4 [.code (cd4 [1, 1, 1, 1, 1, 1, 1, 1, 1, 1])] (fill [some (.slice Aa0 a0.length ca0), none, none, none, none, some (.slice Q7 t6 Q8), some (.slice Q18 t16.length Q19), none, some (.slice Q35 t33.length Q36), none, some (.pointer (some ⟨b57, 0, none⟩)), none, some (.pointer (some ⟨b139, 0, none⟩)), some (.bool t147), some (.int .i64 t148), some (.slice A178 t177.length c179), none, none, none, none, none, none, none, none, none, none, none, none, none, none, none, none, none, none, none, none, none, none, none, none, none, none, none, none, none, none, none, none, none, none, none, none, none, none, none, none, none, none, none, none, none, none, none, none, none, none, none, none, none, none, none, none, none, none, none, none, none, none, none, none, none, none, none, none, none, none, none, none, none, none, none, none, none, none, none, none, none, none, none, none, none, none, none, none, none, none, none, none, none, none, none, none, none, none, none, none, none, none, none, none, none, none, none] l184) w181 R := by
      intro t177 he185 l184 A178 c179 w181 hS182
      subst he185
      try dsimp only at hp176
      refine sx_run 3 (todo' := [.inRegion (opsOf (cd4 [1, 1, 1, 1, 1, 1, 1, 1, 1, 1, 0])) [1, 2, 3, 4, 5, 6, 7, 8], .code (cd4 [1, 1, 1, 1, 1, 1, 1, 1, 1, 1, 1])]) (us := [(76, .slice Aa0 a0.length ca0)]) (by kernel_rfl) ?_
      refine r_load (c := (cd4 [1, 1, 1, 1, 1, 1, 1, 1, 1, 1, 0])) (i := 1) (d := (some 77)) (ty := 34) (t := 34) (x := (.tmp 10)) (p := ⟨b57, 0, none⟩) (v := .slice Q50 t48.length Q51) (by kernel_rfl) (by kernel_rfl) (by kernel_rfl) (loads_at 0 (hS182.blk 3 rfl) (by kernel_rfl) (by kernel_rfl)) ?_
      refine sx_run 1 (todo' := [.inRegion (opsOf (cd4 [1, 1, 1, 1, 1, 1, 1, 1, 1, 1, 0])) [3, 4, 5, 6, 7, 8], .code (cd4 [1, 1, 1, 1, 1, 1, 1, 1, 1, 1, 1])]) (us := [(78, .slice A178 t177.length c179)]) (by kernel_rfl) ?_
      obtain ⟨⟨t186, t187⟩, hr188, hp189⟩ := bind_some' hp176
      try dsimp only at hp189
      have hS190 := hS182.pick4
      obtain ⟨Z191, hz192, hS193, hs194, hb195⟩ := hS190.lendrow len_api_Ref (by omega)
      have hS196 := hS193.pick5
      obtain ⟨Z197, hz198, hS199, hs200, hb201⟩ := hS196.lendrow (len_encI .i64) (by omega)
      refine r_call1 (c := (cd4 [1, 1, 1, 1, 1, 1, 1, 1, 1, 1, 0])) (i := 3) (d := (some 79)) (g := 18) (args := #[.slice Aa0 a0.length ca0, .slice Q50 t48.length Q51, .slice A178 t177.length c179]) (by kernel_rfl) (by kernel_rfl) (by kernel_rfl) (by kernel_rfl) (weirref06_Holds.ok a0 t48 t177 Aa0 ca0 Q50 Q51 A178 c179 hS199 (ha0.up (Zm.Le.trans hz192 hz198)) (hs194.up hz198) hs200 hr188) ?_
      rintro _ w202 ⟨rfl, hS203⟩
      refine ⟨.tuple #[.bool t186, .int .i64 t187], rfl, ?_⟩
      have hS204 := hb201 _ _ hS203
      have hS205 := hb195 _ _ hS204
      refine sx_run 13 (todo' := [.code (cd4 [1, 1, 1, 1, 1, 1, 1, 1, 1, 1, 1, 0, 1, 0, 0]), .inLoop (cd4 [1, 1, 1, 1, 1, 1, 1, 1, 1, 1, 1, 0, 1, 0, 0]), .inBlock 2, .code (cd4 [1, 1, 1, 1, 1, 1, 1, 1, 1, 1, 1, 1])]) (us := [(75, .tuple #[.bool t186, .int .i64 t187]), (80, .bool t186), (81, .int .i64 t187), (17, .bool t186), (18, .int .i64 t187), (19, .int .i64 0)]) (by kernel_rfl) ?_
      have hS206 := hS205.pick1
      have hS207 := hS206.drop
      obtain ⟨v208, hv209, hp210⟩ := bind_some' hp189
      have J214 : ∀ (t211 : List api_Ref) (he216 : t211 = v208) (l215 : List Value) (w212 : World) (hS213 : St w0 Z (xrow Q7 Q8 52 6 (t5.flatMap enc_api_Node) :: xrow Q18 Q19 46 2 (t211.flatMap enc_api_Ref) :: xrow Q35 Q36 46 2 (t33.flatMap enc_api_Ref) :: xblk b57 34 ([.slice Q50 t48.length Q51]) :: xrow Q50 Q51 46 2 (t48.flatMap enc_api_Ref) :: xblk b139 4 ([.bool t149]) :: fs) w212), Runs Try.prog 4 [.code (cd4 [1, 1, 1, 1, 1, 1, 1, 1, 1, 1, 1, 1])] (fill [some (.slice Aa0 a0.length ca0), none, none, none, none, some (.slice Q7 t6 Q8), some (.slice Q18 t211.length Q19), none, some (.slice Q35 t33.length Q36), none, some (.pointer (some ⟨b57, 0, none⟩)), none, some (.pointer (some ⟨b139, 0, none⟩)), some (.bool t147), some (.int .i64 t148), none, none, some (.bool t186), some (.int .i64 t187), none, none, none, none, none, none, none, none, none, none, none, none, none, none, none, none, none, none, none, none, none, none, none, none, none, none, none, none, none, none, none, none, none, none, none, none, none, none, none, none, none, none, none, none, none, none, none, none, none, none, none, none, none, none, none, none, none, none, none, none, none, none, none, none, none, none, none, none, none, none, none, none, none, none, none, none, none, none, none, none, none, none, none, none, none, none, none, none, none, none, none, none, none, none, none, none, none, none, none, none, none, none, none, none] l215) w212 R := by
       intro t211 he216 l215 w212 hS213
       subst he216
       try dsimp only at hp210
       refine sx_run 7 (todo' := [.code (cd4 [1, 1, 1, 1, 1, 1, 1, 1, 1, 1, 1, 1, 0, 1, 0, 0]), .inLoop (cd4 [1, 1, 1, 1, 1, 1, 1, 1, 1, 1, 1, 1, 0, 1, 0, 0]), .inBlock 4, .code (cd4 [1, 1, 1, 1, 1, 1, 1, 1, 1, 1, 1, 1, 1])]) (us := [(20, .int .i64 0)]) (by kernel_rfl) ?_
       obtain ⟨v217, hv218, hp219⟩ := bind_some' hp210
       have J222 : ∀ (he224 : () = v217) (l223 : List Value) (w220 : World) (hS221 : St w0 Z (xrow Q7 Q8 52 6 (t5.flatMap enc_api_Node) :: xrow Q35 Q36 46 2 (t33.flatMap enc_api_Ref) :: xblk b57 34 ([.slice Q50 t48.length Q51]) :: xrow Q50 Q51 46 2 (t48.flatMap enc_api_Ref) :: xblk b139 4 ([.bool t149]) :: fs) w220), Runs Try.prog 4 [.code (cd4 [1, 1, 1, 1, 1, 1, 1, 1, 1, 1, 1, 1, 1])] (fill [some (.slice Aa0 a0.length ca0), none, none, none, none, some (.slice Q7 t6 Q8), none, none, some (.slice Q35 t33.length Q36), none, some (.pointer (some ⟨b57, 0, none⟩)), none, some (.pointer (some ⟨b139, 0, none⟩)), some (.bool t147), some (.int .i64 t148), none, none, some (.bool t186), some (.int .i64 t187), none, none, none, none, none, none, none, none, none, none, none, none, none, none, none, none, none, none, none, none, none, none, none, none, none, none, none, none, none, none, none, none, none, none, none, none, none, none, none, none, none, none, none, none, none, none, none, none, none, none, none, none, none, none, none, none, none, none, none, none, none, none, none, none, none, none, none, none, none, none, none, none, none, none, none, none, none, none, none, none, none, none, none, none, none, none, none, none, none, none, none, none, none, none, none, none, none, none, none, none, none, none, none, none] l223) w220 R := by
        intro he224 l223 w220 hS221
        subst he224
        try dsimp only at hp219
        refine sx_split 5 (todo' := [.inRegion (opsOf (cd4 [1, 1, 1, 1, 1, 1, 1, 1, 1, 1, 1, 1, 1, 0])) [3, 4, 5, 6, 7, 8, 9, 10, 11, 12, 13, 14, 15, 16, 17, 18, 19, 20, 21, 22, 23], .code (cd4 [1, 1, 1, 1, 1, 1, 1, 1, 1, 1, 1, 1, 1, 1])]) (us := [(100, .bool t147), (101, .bool t186)]) (d := 102) (t := (t147 == t186)) (by kernel_rfl) (fun h225 => ?_) (fun h226 => ?_)
        ·skip
         have hp227 := ite_t hp219 h225
         refine sx_run 2 (todo' := [.inRegion (opsOf (cd4 [1, 1, 1, 1, 1, 1, 1, 1, 1, 1, 1, 1, 1, 0])) [5, 6, 7, 8, 9, 10, 11, 12, 13, 14, 15, 16, 17, 18, 19, 20, 21, 22, 23], .code (cd4 [1, 1, 1, 1, 1, 1, 1, 1, 1, 1, 1, 1, 1, 1])]) (us := [(103, .bool true), (104, .int .i64 t148)]) (by kernel_rfl) ?_
         obtain ⟨t228, hr229, hp230⟩ := bind_some' hp227
         refine r_call1 (c := (cd4 [1, 1, 1, 1, 1, 1, 1, 1, 1, 1, 1, 1, 1, 0])) (i := 5) (d := (some 105)) (g := 9) (args := #[.int .i64 t148]) (by kernel_rfl) (by kernel_rfl) (by kernel_rfl) (by kernel_rfl) (weirlaw06_num.ok t148 hS221 hr229) ?_
         rintro _ w231 ⟨rfl, hS232⟩
         refine ⟨.int .i64 t228, rfl, ?_⟩
         refine sx_split 2 (todo' := [.inRegion (opsOf (cd4 [1, 1, 1, 1, 1, 1, 1, 1, 1, 1, 1, 1, 1, 0])) [8, 9, 10, 11, 12, 13, 14, 15, 16, 17, 18, 19, 20, 21, 22, 23], .code (cd4 [1, 1, 1, 1, 1, 1, 1, 1, 1, 1, 1, 1, 1, 1])]) (us := [(106, .int .i64 t187)]) (d := 107) (t := (t228 == t187)) (by kernel_rfl) (fun h233 => ?_) (fun h234 => ?_)
         ·skip
          have hp235 := ite_t hp230 h233
          refine sx_run 2 (todo' := [.inRegion (opsOf (cd4 [1, 1, 1, 1, 1, 1, 1, 1, 1, 1, 1, 1, 1, 0])) [10, 11, 12, 13, 14, 15, 16, 17, 18, 19, 20, 21, 22, 23], .code (cd4 [1, 1, 1, 1, 1, 1, 1, 1, 1, 1, 1, 1, 1, 1])]) (us := [(108, .bool true), (109, .bool true)]) (by kernel_rfl) ?_
          refine r_load (c := (cd4 [1, 1, 1, 1, 1, 1, 1, 1, 1, 1, 1, 1, 1, 0])) (i := 10) (d := (some 110)) (ty := 4) (t := 4) (x := (.tmp 12)) (p := ⟨b139, 0, none⟩) (v := .bool t149) (by kernel_rfl) (by kernel_rfl) (by kernel_rfl) (loads_at 0 (hS232.blk 4 rfl) (by kernel_rfl) (by kernel_rfl)) ?_
          refine sx_split 1 (todo' := [.inRegion (opsOf (cd4 [1, 1, 1, 1, 1, 1, 1, 1, 1, 1, 1, 1, 1, 0])) [12, 13, 14, 15, 16, 17, 18, 19, 20, 21, 22, 23], .code (cd4 [1, 1, 1, 1, 1, 1, 1, 1, 1, 1, 1, 1, 1, 1])]) (us := []) (d := 111) (t := (!t149)) (by kernel_rfl) (fun h236 => ?_) (fun h237 => ?_)
          ·skip
           have hp238 := ite_t hp235 h236
           refine sx_run 3 (todo' := [.inRegion (opsOf (cd4 [1, 1, 1, 1, 1, 1, 1, 1, 1, 1, 1, 1, 1, 0])) [15, 16, 17, 18, 19, 20, 21, 22, 23], .code (cd4 [1, 1, 1, 1, 1, 1, 1, 1, 1, 1, 1, 1, 1, 1])]) (us := [(112, .bool true), (113, .bool true), (114, .slice Q35 t33.length Q36)]) (by kernel_rfl) ?_
           refine r_load (c := (cd4 [1, 1, 1, 1, 1, 1, 1, 1, 1, 1, 1, 1, 1, 0])) (i := 15) (d := (some 115)) (ty := 34) (t := 34) (x := (.tmp 10)) (p := ⟨b57, 0, none⟩) (v := .slice Q50 t48.length Q51) (by kernel_rfl) (by kernel_rfl) (by kernel_rfl) (loads_at 0 (hS232.blk 2 rfl) (by kernel_rfl) (by kernel_rfl)) ?_
           obtain ⟨t239, hr240, hp241⟩ := bind_some' hp238
           have hS242 := hS232.pick1
           obtain ⟨Z243, hz244, hS245, hs246, hb247⟩ := hS242.lendrow len_api_Ref (by omega)
           have hS248 := hS245.pick2
           obtain ⟨Z249, hz250, hS251, hs252, hb253⟩ := hS248.lendrow len_api_Ref (by omega)
           refine r_call1 (c := (cd4 [1, 1, 1, 1, 1, 1, 1, 1, 1, 1, 1, 1, 1, 0])) (i := 16) (d := (some 116)) (g := 14) (args := #[.slice Q35 t33.length Q36, .slice Q50 t48.length Q51]) (by kernel_rfl) (by kernel_rfl) (by kernel_rfl) (by kernel_rfl) (weirlaw06_sameRefs.ok t33 t48 Q35 Q36 Q50 Q51 hS251 (hs246.up hz250) hs252 hr240) ?_
           rintro _ w254 ⟨rfl, hS255⟩
           refine ⟨.bool t239, rfl, ?_⟩
           have hS256 := hb253 _ _ hS255
           have hS257 := hb247 _ _ hS256
           refine sx_run 2 (todo' := [.inRegion (opsOf (cd4 [1, 1, 1, 1, 1, 1, 1, 1, 1, 1, 1, 1, 1, 0])) [19, 20, 21, 22, 23], .code (cd4 [1, 1, 1, 1, 1, 1, 1, 1, 1, 1, 1, 1, 1, 1])]) (us := [(117, .bool t239), (118, .bool t239)]) (by kernel_rfl) ?_
           cases t239
           ·skip
            have hp258 := ite_f hp241 rfl
            refine sx_run 6 (todo' := [.code (cd4 [1, 1, 1, 1, 1, 1, 1, 1, 1, 1, 1, 1, 1, 1])]) (us := [(119, undef), (120, undef), (121, undef), (122, .bool false), (4, .bool false)]) (by kernel_rfl) ?_
            have hS259 := hS257.drop
            have hS260 := hS259.drop
            have hS261 := hS260.drop
            have hS262 := hS261.drop
            have hS263 := hS262.drop
            refine runs_ret (fn := Try.f4) (v := .bool false) Try.func4 (by kernel_rfl) ?_
            have hr264 := (Option.some.inj hp258)
            cases hr264
            exact hR _ _ ⟨rfl, hS263⟩
           ·skip
            have hp265 := ite_t hp241 rfl
            refine sx_run 2 (todo' := [.inRegion (opsOf (cd4 [1, 1, 1, 1, 1, 1, 1, 1, 1, 1, 1, 1, 1, 0])) [21, 22, 23], .code (cd4 [1, 1, 1, 1, 1, 1, 1, 1, 1, 1, 1, 1, 1, 1])]) (us := [(119, .slice Q7 t6 Q8), (120, .slice Aa0 a0.length ca0)]) (by kernel_rfl) ?_
            obtain ⟨t266, hr267, hp268⟩ := bind_some' hp265
            have hS269 := hS257.pick2
            refine r_call1 (c := (cd4 [1, 1, 1, 1, 1, 1, 1, 1, 1, 1, 1, 1, 1, 0])) (i := 21) (d := (some 121)) (g := 10) (args := #[.slice Q7 t6 Q8, .slice Aa0 a0.length ca0]) (by kernel_rfl) (by kernel_rfl) (by kernel_rfl) (by kernel_rfl) (weirlaw06_back.ok t5 t6 a0 Q7 Q8 Aa0 ca0 hS269 ha0 hr267) ?_
            rintro _ w270 ⟨rfl, hS271⟩
            refine ⟨.bool t266, rfl, ?_⟩
            refine sx_run 3 (todo' := [.code (cd4 [1, 1, 1, 1, 1, 1, 1, 1, 1, 1, 1, 1, 1, 1])]) (us := [(122, .bool t266), (4, .bool t266)]) (by kernel_rfl) ?_
            have hS272 := hS271.drop
            have hS273 := hS272.drop
            have hS274 := hS273.drop
            have hS275 := hS274.drop
            have hS276 := hS275.drop
            refine runs_ret (fn := Try.f4) (v := .bool t266) Try.func4 (by kernel_rfl) ?_
            have hr277 := (Option.some.inj hp268)
            cases hr277
            exact hR _ _ ⟨rfl, hS276⟩
          ·skip
           have hp278 := ite_f hp235 h237
           refine sx_run 13 (todo' := [.code (cd4 [1, 1, 1, 1, 1, 1, 1, 1, 1, 1, 1, 1, 1, 1])]) (us := [(112, .bool false), (113, .bool false), (114, undef), (115, undef), (116, undef), (117, .bool false), (118, .bool false), (119, undef), (120, undef), (121, undef), (122, .bool false), (4, .bool false)]) (by kernel_rfl) ?_
           have hS279 := hS232.drop
           have hS280 := hS279.drop
           have hS281 := hS280.drop
           have hS282 := hS281.drop
           have hS283 := hS282.drop
           refine runs_ret (fn := Try.f4) (v := .bool false) Try.func4 (by kernel_rfl) ?_
           have hr284 := (Option.some.inj hp278)
           cases hr284
           exact hR _ _ ⟨rfl, hS283⟩
         ·skip
          have hp285 := ite_f hp230 h234
          refine sx_run 17 (todo' := [.code (cd4 [1, 1, 1, 1, 1, 1, 1, 1, 1, 1, 1, 1, 1, 1])]) (us := [(108, .bool false), (109, .bool false), (110, undef), (111, undef), (112, .bool false), (113, .bool false), (114, undef), (115, undef), (116, undef), (117, .bool false), (118, .bool false), (119, undef), (120, undef), (121, undef), (122, .bool false), (4, .bool false)]) (by kernel_rfl) ?_
          have hS286 := hS232.drop
          have hS287 := hS286.drop
          have hS288 := hS287.drop
          have hS289 := hS288.drop
          have hS290 := hS289.drop
          refine runs_ret (fn := Try.f4) (v := .bool false) Try.func4 (by kernel_rfl) ?_
          have hr291 := (Option.some.inj hp285)
          cases hr291
          exact hR _ _ ⟨rfl, hS290⟩
        ·skip
         have hp292 := ite_f hp219 h226
         refine sx_run 22 (todo' := [.code (cd4 [1, 1, 1, 1, 1, 1, 1, 1, 1, 1, 1, 1, 1, 1])]) (us := [(103, .bool false), (104, undef), (105, undef), (106, undef), (107, undef), (108, .bool false), (109, .bool false), (110, undef), (111, undef), (112, .bool false), (113, .bool false), (114, undef), (115, undef), (116, undef), (117, .bool false), (118, .bool false), (119, undef), (120, undef), (121, undef), (122, .bool false), (4, .bool false)]) (by kernel_rfl) ?_
         have hS293 := hS221.drop
         have hS294 := hS293.drop
         have hS295 := hS294.drop
         have hS296 := hS295.drop
         have hS297 := hS296.drop
         refine runs_ret (fn := Try.f4) (v := .bool false) Try.func4 (by kernel_rfl) ?_
         have hr298 := (Option.some.inj hp292)
         cases hr298
         exact hR _ _ ⟨rfl, hS297⟩
       have L312 : ∀ (t299 : List api_Ref) (t303 : Int) (e307 : Unit), weirlaw06_CondAsks.l2 t299 t303 = some e307 → e307 = v217 → ∀ (l306 : List Value) (A300 : Option Addr) (c301 : Nat) (w304 : World) (hS305 : St w0 Z (xrow Q7 Q8 52 6 (t5.flatMap enc_api_Node) :: xrow A300 c301 46 2 (t299.flatMap enc_api_Ref) :: xrow Q35 Q36 46 2 (t33.flatMap enc_api_Ref) :: xblk b57 34 ([.slice Q50 t48.length Q51]) :: xrow Q50 Q51 46 2 (t48.flatMap enc_api_Ref) :: xblk b139 4 ([.bool t149]) :: fs) w304), Runs Try.prog 4 [.code (cd4 [1, 1, 1, 1, 1, 1, 1, 1, 1, 1, 1, 1, 0, 1, 0, 0]), .inLoop (cd4 [1, 1, 1, 1, 1, 1, 1, 1, 1, 1, 1, 1, 0, 1, 0, 0]), .inBlock 4, .code (cd4 [1, 1, 1, 1, 1, 1, 1, 1, 1, 1, 1, 1, 1])] (fill [some (.slice Aa0 a0.length ca0), none, none, none, none, some (.slice Q7 t6 Q8), some (.slice A300 t299.length c301), none, some (.slice Q35 t33.length Q36), none, some (.pointer (some ⟨b57, 0, none⟩)), none, some (.pointer (some ⟨b139, 0, none⟩)), some (.bool t147), some (.int .i64 t148), none, none, some (.bool t186), some (.int .i64 t187), none, some (.int .i64 t303), none, none, none, none, none, none, none, none, none, none, none, none, none, none, none, none, none, none, none, none, none, none, none, none, none, none, none, none, none, none, none, none, none, none, none, none, none, none, none, none, none, none, none, none, none, none, none, none, none, none, none, none, none, none, none, none, none, none, none, none, none, none, none, none, none, none, none, none, none, none, none, none, none, none, none, none, none, none, none, none, none, none, none, none, none, none, none, none, none, none, none, none, none, none, none, none, none, none, none, none, none, none] l306) w304 R := by
        refine weirlaw06_CondAsks.l2.partial_correctness (fun t299 t303 e307 => e307 = v217 → ∀ (l306 : List Value) (A300 : Option Addr) (c301 : Nat) (w304 : World) (hS305 : St w0 Z (xrow Q7 Q8 52 6 (t5.flatMap enc_api_Node) :: xrow A300 c301 46 2 (t299.flatMap enc_api_Ref) :: xrow Q35 Q36 46 2 (t33.flatMap enc_api_Ref) :: xblk b57 34 ([.slice Q50 t48.length Q51]) :: xrow Q50 Q51 46 2 (t48.flatMap enc_api_Ref) :: xblk b139 4 ([.bool t149]) :: fs) w304), Runs Try.prog 4 [.code (cd4 [1, 1, 1, 1, 1, 1, 1, 1, 1, 1, 1, 1, 0, 1, 0, 0]), .inLoop (cd4 [1, 1, 1, 1, 1, 1, 1, 1, 1, 1, 1, 1, 0, 1, 0, 0]), .inBlock 4, .code (cd4 [1, 1, 1, 1, 1, 1, 1, 1, 1, 1, 1, 1, 1])] (fill [some (.slice Aa0 a0.length ca0), none, none, none, none, some (.slice Q7 t6 Q8), some (.slice A300 t299.length c301), none, some (.slice Q35 t33.length Q36), none, some (.pointer (some ⟨b57, 0, none⟩)), none, some (.pointer (some ⟨b139, 0, none⟩)), some (.bool t147), some (.int .i64 t148), none, none, some (.bool t186), some (.int .i64 t187), none, some (.int .i64 t303), none, none, none, none, none, none, none, none, none, none, none, none, none, none, none, none, none, none, none, none, none, none, none, none, none, none, none, none, none, none, none, none, none, none, none, none, none, none, none, none, none, none, none, none, none, none, none, none, none, none, none, none, none, none, none, none, none, none, none, none, none, none, none, none, none, none, none, none, none, none, none, none, none, none, none, none, none, none, none, none, none, none, none, none, none, none, none, none, none, none, none, none, none, none, none, none, none, none, none, none, none, none] l306) w304 R) ?_
        intro rec311 ih310 t299 t303 e307 hb309 he308 l306 A300 c301 w304 hS305
        refine sx_split 5 (todo' := [.inRegion (opsOf (cd4 [1, 1, 1, 1, 1, 1, 1, 1, 1, 1, 1, 1, 0, 1, 0, 0, 0, 0])) [], .code (cd4 [1, 1, 1, 1, 1, 1, 1, 1, 1, 1, 1, 1, 0, 1, 0, 0, 0, 1]), .code (cd4 [1, 1, 1, 1, 1, 1, 1, 1, 1, 1, 1, 1, 0, 1, 0, 0, 1]), .inLoop (cd4 [1, 1, 1, 1, 1, 1, 1, 1, 1, 1, 1, 1, 0, 1, 0, 0]), .inBlock 4, .code (cd4 [1, 1, 1, 1, 1, 1, 1, 1, 1, 1, 1, 1, 1])]) (us := [(92, .int .i64 t303)]) (d := 93) (t := (decide (t303 < 20))) (by kernel_rfl) (fun h313 => ?_) (fun h314 => ?_)
        ·skip
         have hp315 := ite_t hb309 h313
         refine sx_run 8 (todo' := [.inRegion (opsOf (cd4 [1, 1, 1, 1, 1, 1, 1, 1, 1, 1, 1, 1, 0, 1, 0, 0, 1, 0, 0])) [2, 3, 4], .inBlock 5, .code (cd4 [1, 1, 1, 1, 1, 1, 1, 1, 1, 1, 1, 1, 0, 1, 0, 0, 1, 1]), .inLoop (cd4 [1, 1, 1, 1, 1, 1, 1, 1, 1, 1, 1, 1, 0, 1, 0, 0]), .inBlock 4, .code (cd4 [1, 1, 1, 1, 1, 1, 1, 1, 1, 1, 1, 1, 1])]) (us := [(96, .slice A300 t299.length c301), (97, .agg (enc_api_Ref (⟨(-8), (⟨#[]⟩ : ByteArray)⟩ : api_Ref)).toArray)]) (by kernel_rfl) ?_
         refine r_lit (c := (cd4 [1, 1, 1, 1, 1, 1, 1, 1, 1, 1, 1, 1, 0, 1, 0, 0, 1, 0, 0])) (i := 2) (d := (some 98)) (ty := 34) (t := 34) (e := 46) (sz := 2) (n := 1) (parts := #[(0, (.tmp 97))]) (vs := [(0, .agg (enc_api_Ref (⟨(-8), (⟨#[]⟩ : ByteArray)⟩ : api_Ref)).toArray)]) (z := zeroOf Try.prog 46) (cs' := ([(⟨(-8), (⟨#[]⟩ : ByteArray)⟩ : api_Ref)] : List api_Ref).flatMap enc_api_Ref) hS305 (by kernel_rfl) (by kernel_rfl) (by kernel_rfl) (by kernel_rfl) (by kernel_rfl) (by decide) (by decide) (by kernel_rfl) rfl (Parts.cons (c := enc_api_Ref (⟨(-8), (⟨#[]⟩ : ByteArray)⟩ : api_Ref)) (by kernel_rfl) (len_api_Ref _) Parts.nil) rfl ?_
         intro b317 w318 hS319
         have hS320 := hS319.pick2
         obtain ⟨g321, hp322⟩ := ite_some hp315
         refine r_append (c := (cd4 [1, 1, 1, 1, 1, 1, 1, 1, 1, 1, 1, 1, 0, 1, 0, 0, 1, 0, 0])) (i := 3) (d := (some 99)) (ty := 34) (enc := enc_api_Ref) (e := 46) (u := 46) (t := 34) (t2 := 34) (sz := 2) (cp := c301) (A := A300) (bytes := 24) (xs := t299) (ys := ([(⟨(-8), (⟨#[]⟩ : ByteArray)⟩ : api_Ref)] : List api_Ref)) (s := (.tmp 96)) (x := (.tmp 98)) (xv := .slice (some ⟨b317, 0, none⟩) ([(⟨(-8), (⟨#[]⟩ : ByteArray)⟩ : api_Ref)] : List api_Ref).length 1) (info := infoOf Try.prog 46) (z := zeroOf Try.prog 46) (ycs := ([(⟨(-8), (⟨#[]⟩ : ByteArray)⟩ : api_Ref)] : List api_Ref).flatMap enc_api_Ref) hS320 (by kernel_rfl) (by kernel_rfl) (by kernel_rfl) (by kernel_rfl) (by kernel_rfl) (.inl (by kernel_rfl)) (by kernel_rfl) (by kernel_rfl) (by kernel_rfl) (by kernel_rfl) (by kernel_rfl) (by omega) len_api_Ref one_api_Ref (src_row (hS320.row 1 rfl) (by omega) len_api_Ref) rfl g321 (by omega) ?_
         intro A323 c324 w325 hS326
         refine sx_run 8 (todo' := [.inLoop (cd4 [1, 1, 1, 1, 1, 1, 1, 1, 1, 1, 1, 1, 0, 1, 0, 0]), .inBlock 4, .code (cd4 [1, 1, 1, 1, 1, 1, 1, 1, 1, 1, 1, 1, 1])]) (us := [(6, .slice A323 (t299 ++ ([(⟨(-8), (⟨#[]⟩ : ByteArray)⟩ : api_Ref)] : List api_Ref)).length c324), (94, .int .i64 t303), (95, .int .i64 (IntKind.i64.wrap (t303 + 1))), (20, .int .i64 (IntKind.i64.wrap (t303 + 1)))]) (by kernel_rfl) ?_
         have hS328 := hS326.pick1
         have hS329 := hS328.drop
         have hS330 := hS329.pick5
         have hS331 := hS330.pick5
         have hS332 := hS331.pick5
         have hS333 := hS332.pick5
         have hS334 := hS333.pick4
         have hS335 := hS334.pick5
         refine sx_run 1 (todo' := [.code (cd4 [1, 1, 1, 1, 1, 1, 1, 1, 1, 1, 1, 1, 0, 1, 0, 0]), .inLoop (cd4 [1, 1, 1, 1, 1, 1, 1, 1, 1, 1, 1, 1, 0, 1, 0, 0]), .inBlock 4, .code (cd4 [1, 1, 1, 1, 1, 1, 1, 1, 1, 1, 1, 1, 1])]) (us := []) (by kernel_rfl) ?_
         refine Runs.fill (m := [some (.slice Aa0 a0.length ca0), none, none, none, none, some (.slice Q7 t6 Q8), some (.slice A323 (t299 ++ ([(⟨(-8), (⟨#[]⟩ : ByteArray)⟩ : api_Ref)] : List api_Ref)).length c324), none, some (.slice Q35 t33.length Q36), none, some (.pointer (some ⟨b57, 0, none⟩)), none, some (.pointer (some ⟨b139, 0, none⟩)), some (.bool t147), some (.int .i64 t148), none, none, some (.bool t186), some (.int .i64 t187), none, some (.int .i64 (IntKind.i64.wrap (t303 + 1))), none, none, none, none, none, none, none, none, none, none, none, none, none, none, none, none, none, none, none, none, none, none, none, none, none, none, none, none, none, none, none, none, none, none, none, none, none, none, none, none, none, none, none, none, none, none, none, none, none, none, none, none, none, none, none, none, none, none, none, none, none, none, none, none, none, none, none, none, none, none, none, none, none, none, none, none, none, none, none, none, none, none, none, none, none, none, none, none, none, none, none, none, none, none, none, none, none, none, none, none, none, none]) (by kernel_rfl) ?_
         exact ih310 (t299 ++ ([(⟨(-8), (⟨#[]⟩ : ByteArray)⟩ : api_Ref)] : List api_Ref)) (IntKind.i64.wrap (t303 + 1)) _ hp322 he308 _ A323 c324 _ hS335
        ·skip
         have hp336 := ite_f hb309 h314
         refine sx_run 3 (todo' := [.code (cd4 [1, 1, 1, 1, 1, 1, 1, 1, 1, 1, 1, 1, 1])]) (us := []) (by kernel_rfl) ?_
         have hS337 := hS305.pick1
         have hS338 := hS337.drop
         refine Runs.fill (m := [some (.slice Aa0 a0.length ca0), none, none, none, none, some (.slice Q7 t6 Q8), none, none, some (.slice Q35 t33.length Q36), none, some (.pointer (some ⟨b57, 0, none⟩)), none, some (.pointer (some ⟨b139, 0, none⟩)), some (.bool t147), some (.int .i64 t148), none, none, some (.bool t186), some (.int .i64 t187), none, none, none, none, none, none, none, none, none, none, none, none, none, none, none, none, none, none, none, none, none, none, none, none, none, none, none, none, none, none, none, none, none, none, none, none, none, none, none, none, none, none, none, none, none, none, none, none, none, none, none, none, none, none, none, none, none, none, none, none, none, none, none, none, none, none, none, none, none, none, none, none, none, none, none, none, none, none, none, none, none, none, none, none, none, none, none, none, none, none, none, none, none, none, none, none, none, none, none, none, none, none, none, none]) (by kernel_rfl) ?_
         exact J222 ((Option.some.inj hp336).trans he308) _ _ hS338
       refine Runs.fill (m := [some (.slice Aa0 a0.length ca0), none, none, none, none, some (.slice Q7 t6 Q8), some (.slice Q18 t211.length Q19), none, some (.slice Q35 t33.length Q36), none, some (.pointer (some ⟨b57, 0, none⟩)), none, some (.pointer (some ⟨b139, 0, none⟩)), some (.bool t147), some (.int .i64 t148), none, none, some (.bool t186), some (.int .i64 t187), none, some (.int .i64 0), none, none, none, none, none, none, none, none, none, none, none, none, none, none, none, none, none, none, none, none, none, none, none, none, none, none, none, none, none, none, none, none, none, none, none, none, none, none, none, none, none, none, none, none, none, none, none, none, none, none, none, none, none, none, none, none, none, none, none, none, none, none, none, none, none, none, none, none, none, none, none, none, none, none, none, none, none, none, none, none, none, none, none, none, none, none, none, none, none, none, none, none, none, none, none, none, none, none, none, none, none, none]) (by kernel_rfl) ?_
       exact L312 t211 0 _ hv218 rfl _ Q18 Q19 _ hS213
      have L349 : ∀ (t339 : Int) (t340 : List api_Ref) (e344 : (List api_Ref)), weirlaw06_CondAsks.l1 t339 t340 = some e344 → e344 = v208 → ∀ (l343 : List Value) (w341 : World) (hS342 : St w0 Z (xrow Q7 Q8 52 6 (t5.flatMap enc_api_Node) :: xrow Q18 Q19 46 2 (t340.flatMap enc_api_Ref) :: xrow Q35 Q36 46 2 (t33.flatMap enc_api_Ref) :: xblk b57 34 ([.slice Q50 t48.length Q51]) :: xrow Q50 Q51 46 2 (t48.flatMap enc_api_Ref) :: xblk b139 4 ([.bool t149]) :: fs) w341), Runs Try.prog 4 [.code (cd4 [1, 1, 1, 1, 1, 1, 1, 1, 1, 1, 1, 0, 1, 0, 0]), .inLoop (cd4 [1, 1, 1, 1, 1, 1, 1, 1, 1, 1, 1, 0, 1, 0, 0]), .inBlock 2, .code (cd4 [1, 1, 1, 1, 1, 1, 1, 1, 1, 1, 1, 1])] (fill [some (.slice Aa0 a0.length ca0), none, none, none, none, some (.slice Q7 t6 Q8), some (.slice Q18 t340.length Q19), none, some (.slice Q35 t33.length Q36), none, some (.pointer (some ⟨b57, 0, none⟩)), none, some (.pointer (some ⟨b139, 0, none⟩)), some (.bool t147), some (.int .i64 t148), none, none, some (.bool t186), some (.int .i64 t187), some (.int .i64 t339), none, none, none, none, none, none, none, none, none, none, none, none, none, none, none, none, none, none, none, none, none, none, none, none, none, none, none, none, none, none, none, none, none, none, none, none, none, none, none, none, none, none, none, none, none, none, none, none, none, none, none, none, none, none, none, none, none, none, none, none, none, none, none, none, none, none, none, none, none, none, none, none, none, none, none, none, none, none, none, none, none, none, none, none, none, none, none, none, none, none, none, none, none, none, none, none, none, none, none, none, none, none, none] l343) w341 R := by
       refine weirlaw06_CondAsks.l1.partial_correctness (fun t339 t340 e344 => e344 = v208 → ∀ (l343 : List Value) (w341 : World) (hS342 : St w0 Z (xrow Q7 Q8 52 6 (t5.flatMap enc_api_Node) :: xrow Q18 Q19 46 2 (t340.flatMap enc_api_Ref) :: xrow Q35 Q36 46 2 (t33.flatMap enc_api_Ref) :: xblk b57 34 ([.slice Q50 t48.length Q51]) :: xrow Q50 Q51 46 2 (t48.flatMap enc_api_Ref) :: xblk b139 4 ([.bool t149]) :: fs) w341), Runs Try.prog 4 [.code (cd4 [1, 1, 1, 1, 1, 1, 1, 1, 1, 1, 1, 0, 1, 0, 0]), .inLoop (cd4 [1, 1, 1, 1, 1, 1, 1, 1, 1, 1, 1, 0, 1, 0, 0]), .inBlock 2, .code (cd4 [1, 1, 1, 1, 1, 1, 1, 1, 1, 1, 1, 1])] (fill [some (.slice Aa0 a0.length ca0), none, none, none, none, some (.slice Q7 t6 Q8), some (.slice Q18 t340.length Q19), none, some (.slice Q35 t33.length Q36), none, some (.pointer (some ⟨b57, 0, none⟩)), none, some (.pointer (some ⟨b139, 0, none⟩)), some (.bool t147), some (.int .i64 t148), none, none, some (.bool t186), some (.int .i64 t187), some (.int .i64 t339), none, none, none, none, none, none, none, none, none, none, none, none, none, none, none, none, none, none, none, none, none, none, none, none, none, none, none, none, none, none, none, none, none, none, none, none, none, none, none, none, none, none, none, none, none, none, none, none, none, none, none, none, none, none, none, none, none, none, none, none, none, none, none, none, none, none, none, none, none, none, none, none, none, none, none, none, none, none, none, none, none, none, none, none, none, none, none, none, none, none, none, none, none, none, none, none, none, none, none, none, none, none, none] l343) w341 R) ?_
       intro rec348 ih347 t339 t340 e344 hb346 he345 l343 w341 hS342
       refine sx_split 7 (todo' := [.inRegion (opsOf (cd4 [1, 1, 1, 1, 1, 1, 1, 1, 1, 1, 1, 0, 1, 0, 0, 0, 0])) [], .code (cd4 [1, 1, 1, 1, 1, 1, 1, 1, 1, 1, 1, 0, 1, 0, 0, 0, 1]), .code (cd4 [1, 1, 1, 1, 1, 1, 1, 1, 1, 1, 1, 0, 1, 0, 0, 1]), .inLoop (cd4 [1, 1, 1, 1, 1, 1, 1, 1, 1, 1, 1, 0, 1, 0, 0]), .inBlock 2, .code (cd4 [1, 1, 1, 1, 1, 1, 1, 1, 1, 1, 1, 1])]) (us := [(82, .int .i64 t339), (83, .slice Q18 t340.length Q19), (84, .int .i64 (t340.length : Int))]) (d := 85) (t := (decide (t339 < (t340.length : Int)))) (by kernel_rfl) (fun h350 => ?_) (fun h351 => ?_)
       ·skip
        have hp352 := ite_t hb346 h350
        refine sx_run 9 (todo' := [.inRegion (opsOf (cd4 [1, 1, 1, 1, 1, 1, 1, 1, 1, 1, 1, 0, 1, 0, 0, 1, 0, 0])) [3, 4], .inBlock 3, .code (cd4 [1, 1, 1, 1, 1, 1, 1, 1, 1, 1, 1, 0, 1, 0, 0, 1, 1]), .inLoop (cd4 [1, 1, 1, 1, 1, 1, 1, 1, 1, 1, 1, 0, 1, 0, 0]), .inBlock 2, .code (cd4 [1, 1, 1, 1, 1, 1, 1, 1, 1, 1, 1, 1])]) (us := [(88, .slice Q18 t340.length Q19), (89, .int .i64 t339), (90, .agg (enc_api_Ref (⟨(-9), (⟨#[]⟩ : ByteArray)⟩ : api_Ref)).toArray)]) (by kernel_rfl) ?_
        obtain ⟨g353, hp354⟩ := ite_some hp352
        obtain ⟨b355, p356, hA357, -⟩ := (hS342.row 1 rfl).at_ len_api_Ref (by omega) g353.1 g353.2
        refine r_indexAddr (c := (cd4 [1, 1, 1, 1, 1, 1, 1, 1, 1, 1, 1, 0, 1, 0, 0, 1, 0, 0])) (i := 3) (d := (some 91)) (ty := 0) (t := 34) (e := 46) (n := t340.length) (cp := Q19) (sz := 2) (kk := .i64) (x := (.tmp 88)) (y := (.tmp 89)) (b := b355) (o' := p356) (j := t339) (by kernel_rfl) (by kernel_rfl) (slv (by kernel_rfl) hA357) (by kernel_rfl) (by kernel_rfl) (by kernel_rfl) g353.1 g353.2 ?_
        have hS359 := hS342.pick1
        refine r_storeEl (c := (cd4 [1, 1, 1, 1, 1, 1, 1, 1, 1, 1, 1, 0, 1, 0, 0, 1, 0, 0])) (i := 4) (d := none) (ty := 0) (enc := enc_api_Ref) (e := 46) (t := 46) (sz := 2) (cp := Q19) (A := Q18) (xs := t340) (x := (.tmp 91)) (y := (.tmp 90)) (el := gt t340 t339) (el' := (⟨(-9), (⟨#[]⟩ : ByteArray)⟩ : api_Ref)) (j := t339) (off := 0) (b := b355) (p := p356) (v := .agg (enc_api_Ref (⟨(-9), (⟨#[]⟩ : ByteArray)⟩ : api_Ref)).toArray) (vs := enc_api_Ref (⟨(-9), (⟨#[]⟩ : ByteArray)⟩ : api_Ref)) (ad := ⟨b355, p356 + t339.toNat * 2, none⟩) hS359 (by kernel_rfl) (by kernel_rfl) (by kernel_rfl) (by simp) (by kernel_rfl) hA357 g353 rfl len_api_Ref (by kernel_rfl) (by kernel_rfl) (one_api_Ref _) (by rw [len_api_Ref]; omega) (by rw [len_api_Ref]; omega) (by kernel_rfl) ?_
        intro w360 hS361
        refine Runs.fill (m := [none, none, none, none, none, none, some (.slice Q18 t340.length Q19), none, none, none, none, none, none, none, none, none, none, none, none, none, none, none, none, none, none, none, none, none, none, none, none, none, none, none, none, none, none, none, none, none, none, none, none, none, none, none, none, none, none, none, none, none, none, none, none, none, none, none, none, none, none, none, none, none, none, none, none, none, none, none, none, none, none, none, none, none, none, none, none, none, none, none, none, some (.slice Q18 t340.length Q19), none, none, none, none, some (.slice Q18 t340.length Q19), none, none, none, none, none, none, none, none, none, none, none, none, none, none, none, none, none, none, none, none, none, none, none, none, none, none, none, none, none, none, none, none, none, none]) (by kernel_rfl) ?_
        refine Runs.refill (m' := [none, none, none, none, none, none, some (.slice Q18 (setl t340 t339 (⟨(-9), (⟨#[]⟩ : ByteArray)⟩ : api_Ref)).length Q19), none, none, none, none, none, none, none, none, none, none, none, none, none, none, none, none, none, none, none, none, none, none, none, none, none, none, none, none, none, none, none, none, none, none, none, none, none, none, none, none, none, none, none, none, none, none, none, none, none, none, none, none, none, none, none, none, none, none, none, none, none, none, none, none, none, none, none, none, none, none, none, none, none, none, none, none, some (.slice Q18 (setl t340 t339 (⟨(-9), (⟨#[]⟩ : ByteArray)⟩ : api_Ref)).length Q19), none, none, none, none, some (.slice Q18 (setl t340 t339 (⟨(-9), (⟨#[]⟩ : ByteArray)⟩ : api_Ref)).length Q19), none, none, none, none, none, none, none, none, none, none, none, none, none, none, none, none, none, none, none, none, none, none, none, none, none, none, none, none, none, none, none, none, none, none]) (by simp only [setl_len]) ?_
        refine sx_run 7 (todo' := [.inLoop (cd4 [1, 1, 1, 1, 1, 1, 1, 1, 1, 1, 1, 0, 1, 0, 0]), .inBlock 2, .code (cd4 [1, 1, 1, 1, 1, 1, 1, 1, 1, 1, 1, 1])]) (us := [(86, .int .i64 t339), (87, .int .i64 (IntKind.i64.wrap (t339 + 1))), (19, .int .i64 (IntKind.i64.wrap (t339 + 1)))]) (by kernel_rfl) ?_
        have hS362 := hS361.pick5
        have hS363 := hS362.pick5
        have hS364 := hS363.pick5
        have hS365 := hS364.pick5
        have hS366 := hS365.pick4
        have hS367 := hS366.pick5
        refine sx_run 1 (todo' := [.code (cd4 [1, 1, 1, 1, 1, 1, 1, 1, 1, 1, 1, 0, 1, 0, 0]), .inLoop (cd4 [1, 1, 1, 1, 1, 1, 1, 1, 1, 1, 1, 0, 1, 0, 0]), .inBlock 2, .code (cd4 [1, 1, 1, 1, 1, 1, 1, 1, 1, 1, 1, 1])]) (us := []) (by kernel_rfl) ?_
        refine Runs.fill (m := [some (.slice Aa0 a0.length ca0), none, none, none, none, some (.slice Q7 t6 Q8), some (.slice Q18 (setl t340 t339 (⟨(-9), (⟨#[]⟩ : ByteArray)⟩ : api_Ref)).length Q19), none, some (.slice Q35 t33.length Q36), none, some (.pointer (some ⟨b57, 0, none⟩)), none, some (.pointer (some ⟨b139, 0, none⟩)), some (.bool t147), some (.int .i64 t148), none, none, some (.bool t186), some (.int .i64 t187), some (.int .i64 (IntKind.i64.wrap (t339 + 1))), none, none, none, none, none, none, none, none, none, none, none, none, none, none, none, none, none, none, none, none, none, none, none, none, none, none, none, none, none, none, none, none, none, none, none, none, none, none, none, none, none, none, none, none, none, none, none, none, none, none, none, none, none, none, none, none, none, none, none, none, none, none, none, none, none, none, none, none, none, none, none, none, none, none, none, none, none, none, none, none, none, none, none, none, none, none, none, none, none, none, none, none, none, none, none, none, none, none, none, none, none, none, none]) (by kernel_rfl) ?_
        exact ih347 (IntKind.i64.wrap (t339 + 1)) (setl t340 t339 (⟨(-9), (⟨#[]⟩ : ByteArray)⟩ : api_Ref)) _ hp354 he345 _ _ hS367
       ·skip
        have hp368 := ite_f hb346 h351
        refine sx_run 3 (todo' := [.code (cd4 [1, 1, 1, 1, 1, 1, 1, 1, 1, 1, 1, 1])]) (us := []) (by kernel_rfl) ?_
        refine Runs.fill (m := [some (.slice Aa0 a0.length ca0), none, none, none, none, some (.slice Q7 t6 Q8), some (.slice Q18 t340.length Q19), none, some (.slice Q35 t33.length Q36), none, some (.pointer (some ⟨b57, 0, none⟩)), none, some (.pointer (some ⟨b139, 0, none⟩)), some (.bool t147), some (.int .i64 t148), none, none, some (.bool t186), some (.int .i64 t187), none, none, none, none, none, none, none, none, none, none, none, none, none, none, none, none, none, none, none, none, none, none, none, none, none, none, none, none, none, none, none, none, none, none, none, none, none, none, none, none, none, none, none, none, none, none, none, none, none, none, none, none, none, none, none, none, none, none, none, none, none, none, none, none, none, none, none, none, none, none, none, none, none, none, none, none, none, none, none, none, none, none, none, none, none, none, none, none, none, none, none, none, none, none, none, none, none, none, none, none, none, none, none, none]) (by kernel_rfl) ?_
        exact J214 t340 ((Option.some.inj hp368).trans he345) _ _ hS342
      have hS369 := hS207.pick5
      have hS370 := hS369.pick1
      have hS371 := hS370.pick5
      have hS372 := hS371.pick5
      have hS373 := hS372.pick5
      have hS374 := hS373.pick5
      refine Runs.fill (m := [some (.slice Aa0 a0.length ca0), none, none, none, none, some (.slice Q7 t6 Q8), some (.slice Q18 t16.length Q19), none, some (.slice Q35 t33.length Q36), none, some (.pointer (some ⟨b57, 0, none⟩)), none, some (.pointer (some ⟨b139, 0, none⟩)), some (.bool t147), some (.int .i64 t148), none, none, some (.bool t186), some (.int .i64 t187), some (.int .i64 0), none, none, none, none, none, none, none, none, none, none, none, none, none, none, none, none, none, none, none, none, none, none, none, none, none, none, none, none, none, none, none, none, none, none, none, none, none, none, none, none, none, none, none, none, none, none, none, none, none, none, none, none, none, none, none, none, none, none, none, none, none, none, none, none, none, none, none, none, none, none, none, none, none, none, none, none, none, none, none, none, none, none, none, none, none, none, none, none, none, none, none, none, none, none, none, none, none, none, none, none, none, none, none]) (by kernel_rfl) ?_
      exact L349 0 t16 _ hv209 rfl _ _ hS374
     have L388 : ∀ (t375 : List Int) (t379 : Int) (e383 : (List Int)), weirlaw06_CondAsks.l0 a1 t48 t375 t379 = some e383 → e383 = v174 → ∀ (l382 : List Value) (A376 : Option Addr) (c377 : Nat) (w380 : World) (hS381 : St w0 Z (xblk b1 37 ([.slice Aa1_0 a1.Refs.length ca1_0, .slice Aa1_1 a1.Values.length ca1_1, .int .i64 a1.Rest]) :: xrow Q7 Q8 52 6 (t5.flatMap enc_api_Node) :: xrow Q18 Q19 46 2 (t16.flatMap enc_api_Ref) :: xrow Q35 Q36 46 2 (t33.flatMap enc_api_Ref) :: xblk b57 34 ([.slice Q50 t48.length Q51]) :: xrow Q50 Q51 46 2 (t48.flatMap enc_api_Ref) :: xblk b139 4 ([.bool t149]) :: xrow A376 c377 2 1 (t375.flatMap (encI .i64)) :: fs) w380), Runs Try.prog 4 [.code (cd4 [1, 1, 1, 1, 1, 1, 1, 1, 1, 0, 1, 0, 0]), .inLoop (cd4 [1, 1, 1, 1, 1, 1, 1, 1, 1, 0, 1, 0, 0]), .inBlock 0, .code (cd4 [1, 1, 1, 1, 1, 1, 1, 1, 1, 1])] (fill [some (.slice Aa0 a0.length ca0), none, none, some (.pointer (some ⟨b1, 0, none⟩)), none, some (.slice Q7 t6 Q8), some (.slice Q18 t16.length Q19), none, some (.slice Q35 t33.length Q36), none, some (.pointer (some ⟨b57, 0, none⟩)), none, some (.pointer (some ⟨b139, 0, none⟩)), some (.bool t147), some (.int .i64 t148), some (.slice A376 t375.length c377), some (.int .i64 t379), none, none, none, none, none, none, none, none, none, none, none, none, none, none, none, none, none, none, none, none, none, none, none, none, none, none, none, none, none, none, none, none, none, none, none, none, none, none, none, none, none, none, none, none, none, none, none, none, none, none, none, none, none, none, none, none, none, none, none, none, none, none, none, none, none, none, none, none, none, none, none, none, none, none, none, none, none, none, none, none, none, none, none, none, none, none, none, none, none, none, none, none, none, none, none, none, none, none, none, none, none, none, none, none, none, none] l382) w380 R := by
      refine weirlaw06_CondAsks.l0.partial_correctness a1 t48 (fun t375 t379 e383 => e383 = v174 → ∀ (l382 : List Value) (A376 : Option Addr) (c377 : Nat) (w380 : World) (hS381 : St w0 Z (xblk b1 37 ([.slice Aa1_0 a1.Refs.length ca1_0, .slice Aa1_1 a1.Values.length ca1_1, .int .i64 a1.Rest]) :: xrow Q7 Q8 52 6 (t5.flatMap enc_api_Node) :: xrow Q18 Q19 46 2 (t16.flatMap enc_api_Ref) :: xrow Q35 Q36 46 2 (t33.flatMap enc_api_Ref) :: xblk b57 34 ([.slice Q50 t48.length Q51]) :: xrow Q50 Q51 46 2 (t48.flatMap enc_api_Ref) :: xblk b139 4 ([.bool t149]) :: xrow A376 c377 2 1 (t375.flatMap (encI .i64)) :: fs) w380), Runs Try.prog 4 [.code (cd4 [1, 1, 1, 1, 1, 1, 1, 1, 1, 0, 1, 0, 0]), .inLoop (cd4 [1, 1, 1, 1, 1, 1, 1, 1, 1, 0, 1, 0, 0]), .inBlock 0, .code (cd4 [1, 1, 1, 1, 1, 1, 1, 1, 1, 1])] (fill [some (.slice Aa0 a0.length ca0), none, none, some (.pointer (some ⟨b1, 0, none⟩)), none, some (.slice Q7 t6 Q8), some (.slice Q18 t16.length Q19), none, some (.slice Q35 t33.length Q36), none, some (.pointer (some ⟨b57, 0, none⟩)), none, some (.pointer (some ⟨b139, 0, none⟩)), some (.bool t147), some (.int .i64 t148), some (.slice A376 t375.length c377), some (.int .i64 t379), none, none, none, none, none, none, none, none, none, none, none, none, none, none, none, none, none, none, none, none, none, none, none, none, none, none, none, none, none, none, none, none, none, none, none, none, none, none, none, none, none, none, none, none, none, none, none, none, none, none, none, none, none, none, none, none, none, none, none, none, none, none, none, none, none, none, none, none, none, none, none, none, none, none, none, none, none, none, none, none, none, none, none, none, none, none, none, none, none, none, none, none, none, none, none, none, none, none, none, none, none, none, none, none, none, none] l382) w380 R) ?_
      intro rec387 ih386 t375 t379 e383 hb385 he384 l382 A376 c377 w380 hS381
      refine sx_run 4 (todo' := [.inRegion (opsOf (cd4 [1, 1, 1, 1, 1, 1, 1, 1, 1, 0, 1, 0, 0, 0, 0])) [1, 2, 3], .code (cd4 [1, 1, 1, 1, 1, 1, 1, 1, 1, 0, 1, 0, 0, 0, 1]), .code (cd4 [1, 1, 1, 1, 1, 1, 1, 1, 1, 0, 1, 0, 0, 1]), .inLoop (cd4 [1, 1, 1, 1, 1, 1, 1, 1, 1, 0, 1, 0, 0]), .inBlock 0, .code (cd4 [1, 1, 1, 1, 1, 1, 1, 1, 1, 1])]) (us := [(60, .int .i64 t379)]) (by kernel_rfl) ?_
      refine r_load (c := (cd4 [1, 1, 1, 1, 1, 1, 1, 1, 1, 0, 1, 0, 0, 0, 0])) (i := 1) (d := (some 61)) (ty := 34) (t := 34) (x := (.tmp 10)) (p := ⟨b57, 0, none⟩) (v := .slice Q50 t48.length Q51) (by kernel_rfl) (by kernel_rfl) (by kernel_rfl) (loads_at 0 (hS381.blk 4 rfl) (by kernel_rfl) (by kernel_rfl)) ?_
      refine sx_split 2 (todo' := [.inRegion (opsOf (cd4 [1, 1, 1, 1, 1, 1, 1, 1, 1, 0, 1, 0, 0, 0, 0])) [], .code (cd4 [1, 1, 1, 1, 1, 1, 1, 1, 1, 0, 1, 0, 0, 0, 1]), .code (cd4 [1, 1, 1, 1, 1, 1, 1, 1, 1, 0, 1, 0, 0, 1]), .inLoop (cd4 [1, 1, 1, 1, 1, 1, 1, 1, 1, 0, 1, 0, 0]), .inBlock 0, .code (cd4 [1, 1, 1, 1, 1, 1, 1, 1, 1, 1])]) (us := [(62, .int .i64 (t48.length : Int))]) (d := 63) (t := (decide (t379 < (t48.length : Int)))) (by kernel_rfl) (fun h389 => ?_) (fun h390 => ?_)
      ·skip
       have hp391 := ite_t hb385 h389
       refine sx_run 5 (todo' := [.code (cd4 [1, 1, 1, 1, 1, 1, 1, 1, 1, 0, 1, 0, 0, 1, 0, 0]), .inBlock 1, .code (cd4 [1, 1, 1, 1, 1, 1, 1, 1, 1, 0, 1, 0, 0, 1, 1]), .inLoop (cd4 [1, 1, 1, 1, 1, 1, 1, 1, 1, 0, 1, 0, 0]), .inBlock 0, .code (cd4 [1, 1, 1, 1, 1, 1, 1, 1, 1, 1])]) (us := []) (by kernel_rfl) ?_
       obtain ⟨g392, hp393⟩ := ite_some hp391
       obtain ⟨b394, p395, hA396, -⟩ := (hS381.row 5 rfl).at_ len_api_Ref (by omega) g392.1 g392.2
       obtain ⟨t398, hr399, hp400⟩ := bind_some' hp393
       obtain ⟨g403, hp404⟩ := ite_some hp400
       refine r_drawnG (S := Option (Nat × Option (Option Addr × Nat))) (rank := (fun st => match st with | none => 0 | some (b401, none) => 1 | some (b401, some x408) => 2)) (C := (fun st w' => match st with | none => St w0 Z (xblk b1 37 ([.slice Aa1_0 a1.Refs.length ca1_0, .slice Aa1_1 a1.Values.length ca1_1, .int .i64 a1.Rest]) :: xrow Q7 Q8 52 6 (t5.flatMap enc_api_Node) :: xrow Q18 Q19 46 2 (t16.flatMap enc_api_Ref) :: xrow Q35 Q36 46 2 (t33.flatMap enc_api_Ref) :: xblk b57 34 ([.slice Q50 t48.length Q51]) :: xrow Q50 Q51 46 2 (t48.flatMap enc_api_Ref) :: xblk b139 4 ([.bool t149]) :: xrow A376 c377 2 1 (t375.flatMap (encI .i64)) :: fs) w' | some (b401, none) => St w0 Z (xrow (some ⟨b401, 0, none⟩) 1 2 1 (([t398] : List Int).flatMap (encI .i64)) :: xblk b1 37 ([.slice Aa1_0 a1.Refs.length ca1_0, .slice Aa1_1 a1.Values.length ca1_1, .int .i64 a1.Rest]) :: xrow Q7 Q8 52 6 (t5.flatMap enc_api_Node) :: xrow Q18 Q19 46 2 (t16.flatMap enc_api_Ref) :: xrow Q35 Q36 46 2 (t33.flatMap enc_api_Ref) :: xblk b57 34 ([.slice Q50 t48.length Q51]) :: xrow Q50 Q51 46 2 (t48.flatMap enc_api_Ref) :: xblk b139 4 ([.bool t149]) :: xrow A376 c377 2 1 (t375.flatMap (encI .i64)) :: fs) w' | some (b401, some x408) => St w0 Z (xrow x408.1 x408.2 2 1 ((t375 ++ ([t398] : List Int)).flatMap (encI .i64)) :: xrow (some ⟨b401, 0, none⟩) 1 2 1 (([t398] : List Int).flatMap (encI .i64)) :: xblk b1 37 ([.slice Aa1_0 a1.Refs.length ca1_0, .slice Aa1_1 a1.Values.length ca1_1, .int .i64 a1.Rest]) :: xrow Q7 Q8 52 6 (t5.flatMap enc_api_Node) :: xrow Q18 Q19 46 2 (t16.flatMap enc_api_Ref) :: xrow Q35 Q36 46 2 (t33.flatMap enc_api_Ref) :: xblk b57 34 ([.slice Q50 t48.length Q51]) :: xrow Q50 Q51 46 2 (t48.flatMap enc_api_Ref) :: xblk b139 4 ([.bool t149]) :: fs) w')) (v := (fun st => match st with | none => [.slice A376 t375.length c377, .agg #[.slice Aa1_0 a1.Refs.length ca1_0, .slice Aa1_1 a1.Values.length ca1_1, .int .i64 a1.Rest], .slice Q50 t48.length Q51, .int .i64 t379, .pointer (some ⟨b394, p395 + t379.toNat * 2, none⟩), .agg (enc_api_Ref (gt t48 t379)).toArray, .int .i64 t398, undef, undef, undef] | some (b401, none) => [.slice A376 t375.length c377, .agg #[.slice Aa1_0 a1.Refs.length ca1_0, .slice Aa1_1 a1.Values.length ca1_1, .int .i64 a1.Rest], .slice Q50 t48.length Q51, .int .i64 t379, .pointer (some ⟨b394, p395 + t379.toNat * 2, none⟩), .agg (enc_api_Ref (gt t48 t379)).toArray, .int .i64 t398, .slice (some ⟨b401, 0, none⟩) ([t398] : List Int).length 1, undef, undef] | some (b401, some x408) => [.slice A376 t375.length c377, .agg #[.slice Aa1_0 a1.Refs.length ca1_0, .slice Aa1_1 a1.Values.length ca1_1, .int .i64 a1.Rest], .slice Q50 t48.length Q51, .int .i64 t379, .pointer (some ⟨b394, p395 + t379.toNat * 2, none⟩), .agg (enc_api_Ref (gt t48 t379)).toArray, .int .i64 t398, .slice (some ⟨b401, 0, none⟩) ([t398] : List Int).length 1, .slice x408.1 (t375 ++ ([t398] : List Int)).length x408.2, .slice x408.1 (t375 ++ ([t398] : List Int)).length x408.2])) (c := (cd4 [1, 1, 1, 1, 1, 1, 1, 1, 1, 0, 1, 0, 0, 1, 0, 0])) (id := 13) none 0 10 [7, 8] [0, 0, 0, 0, 0, 0, 0, 0, 1, 2] [1, 2, 2, 2, 2, 2, 0, 1, 2, 2] [9] (by kernel_rfl) (by kernel_rfl) (by kernel_rfl) (by kernel_rfl) (by kernel_rfl) (by kernel_rfl) (by kernel_rfl) (by kernel_rfl) (by kernel_rfl) (by kernel_rfl) rfl hS381.drew ?_ ?_ ?_ ?_
       ·intro st w hC
        rcases st with _ | ⟨b401, _ | x408⟩
        ·exact Nat.le_of_ble_eq_true rfl
        ·exact Nat.le_of_ble_eq_true rfl
        ·exact Nat.le_of_ble_eq_true rfl
       ·intro i hi he st w hC hr hu
        match i, hi, he with
        | 0, _, _ =>
         rcases st with _ | ⟨b401, _ | x408⟩
         ·replace hC : St w0 Z (xblk b1 37 ([.slice Aa1_0 a1.Refs.length ca1_0, .slice Aa1_1 a1.Values.length ca1_1, .int .i64 a1.Rest]) :: xrow Q7 Q8 52 6 (t5.flatMap enc_api_Node) :: xrow Q18 Q19 46 2 (t16.flatMap enc_api_Ref) :: xrow Q35 Q36 46 2 (t33.flatMap enc_api_Ref) :: xblk b57 34 ([.slice Q50 t48.length Q51]) :: xrow Q50 Q51 46 2 (t48.flatMap enc_api_Ref) :: xblk b139 4 ([.bool t149]) :: xrow A376 c377 2 1 (t375.flatMap (encI .i64)) :: fs) w := hC
          exact does_pure (v := .slice A376 t375.length c377) (by kernel_rfl) rfl hC
         ·replace hC : St w0 Z (xrow (some ⟨b401, 0, none⟩) 1 2 1 (([t398] : List Int).flatMap (encI .i64)) :: xblk b1 37 ([.slice Aa1_0 a1.Refs.length ca1_0, .slice Aa1_1 a1.Values.length ca1_1, .int .i64 a1.Rest]) :: xrow Q7 Q8 52 6 (t5.flatMap enc_api_Node) :: xrow Q18 Q19 46 2 (t16.flatMap enc_api_Ref) :: xrow Q35 Q36 46 2 (t33.flatMap enc_api_Ref) :: xblk b57 34 ([.slice Q50 t48.length Q51]) :: xrow Q50 Q51 46 2 (t48.flatMap enc_api_Ref) :: xblk b139 4 ([.bool t149]) :: xrow A376 c377 2 1 (t375.flatMap (encI .i64)) :: fs) w := hC
          exact does_pure (v := .slice A376 t375.length c377) (by kernel_rfl) rfl hC
         ·exact absurd hu (Nat.not_le_of_gt (Nat.le_of_ble_eq_true rfl))
        | 1, _, _ =>
         rcases st with _ | ⟨b401, _ | x408⟩
         ·replace hC : St w0 Z (xblk b1 37 ([.slice Aa1_0 a1.Refs.length ca1_0, .slice Aa1_1 a1.Values.length ca1_1, .int .i64 a1.Rest]) :: xrow Q7 Q8 52 6 (t5.flatMap enc_api_Node) :: xrow Q18 Q19 46 2 (t16.flatMap enc_api_Ref) :: xrow Q35 Q36 46 2 (t33.flatMap enc_api_Ref) :: xblk b57 34 ([.slice Q50 t48.length Q51]) :: xrow Q50 Q51 46 2 (t48.flatMap enc_api_Ref) :: xblk b139 4 ([.bool t149]) :: xrow A376 c377 2 1 (t375.flatMap (encI .i64)) :: fs) w := hC
          exact does_run (x_load (t := 37) (x := (.tmp 3)) (p := ⟨b1, 0, none⟩) (v := .agg #[.slice Aa1_0 a1.Refs.length ca1_0, .slice Aa1_1 a1.Values.length ca1_1, .int .i64 a1.Rest]) (by kernel_rfl) (loads_agg (hC.blk 0 rfl) (by kernel_rfl) (by kernel_rfl)) (by kernel_rfl)) rfl hC
         ·replace hC : St w0 Z (xrow (some ⟨b401, 0, none⟩) 1 2 1 (([t398] : List Int).flatMap (encI .i64)) :: xblk b1 37 ([.slice Aa1_0 a1.Refs.length ca1_0, .slice Aa1_1 a1.Values.length ca1_1, .int .i64 a1.Rest]) :: xrow Q7 Q8 52 6 (t5.flatMap enc_api_Node) :: xrow Q18 Q19 46 2 (t16.flatMap enc_api_Ref) :: xrow Q35 Q36 46 2 (t33.flatMap enc_api_Ref) :: xblk b57 34 ([.slice Q50 t48.length Q51]) :: xrow Q50 Q51 46 2 (t48.flatMap enc_api_Ref) :: xblk b139 4 ([.bool t149]) :: xrow A376 c377 2 1 (t375.flatMap (encI .i64)) :: fs) w := hC
          exact does_run (x_load (t := 37) (x := (.tmp 3)) (p := ⟨b1, 0, none⟩) (v := .agg #[.slice Aa1_0 a1.Refs.length ca1_0, .slice Aa1_1 a1.Values.length ca1_1, .int .i64 a1.Rest]) (by kernel_rfl) (loads_agg (hC.blk 1 rfl) (by kernel_rfl) (by kernel_rfl)) (by kernel_rfl)) rfl hC
         ·replace hC : St w0 Z (xrow x408.1 x408.2 2 1 ((t375 ++ ([t398] : List Int)).flatMap (encI .i64)) :: xrow (some ⟨b401, 0, none⟩) 1 2 1 (([t398] : List Int).flatMap (encI .i64)) :: xblk b1 37 ([.slice Aa1_0 a1.Refs.length ca1_0, .slice Aa1_1 a1.Values.length ca1_1, .int .i64 a1.Rest]) :: xrow Q7 Q8 52 6 (t5.flatMap enc_api_Node) :: xrow Q18 Q19 46 2 (t16.flatMap enc_api_Ref) :: xrow Q35 Q36 46 2 (t33.flatMap enc_api_Ref) :: xblk b57 34 ([.slice Q50 t48.length Q51]) :: xrow Q50 Q51 46 2 (t48.flatMap enc_api_Ref) :: xblk b139 4 ([.bool t149]) :: fs) w := hC
          exact does_run (x_load (t := 37) (x := (.tmp 3)) (p := ⟨b1, 0, none⟩) (v := .agg #[.slice Aa1_0 a1.Refs.length ca1_0, .slice Aa1_1 a1.Values.length ca1_1, .int .i64 a1.Rest]) (by kernel_rfl) (loads_agg (hC.blk 2 rfl) (by kernel_rfl) (by kernel_rfl)) (by kernel_rfl)) rfl hC
        | 2, _, _ =>
         rcases st with _ | ⟨b401, _ | x408⟩
         ·replace hC : St w0 Z (xblk b1 37 ([.slice Aa1_0 a1.Refs.length ca1_0, .slice Aa1_1 a1.Values.length ca1_1, .int .i64 a1.Rest]) :: xrow Q7 Q8 52 6 (t5.flatMap enc_api_Node) :: xrow Q18 Q19 46 2 (t16.flatMap enc_api_Ref) :: xrow Q35 Q36 46 2 (t33.flatMap enc_api_Ref) :: xblk b57 34 ([.slice Q50 t48.length Q51]) :: xrow Q50 Q51 46 2 (t48.flatMap enc_api_Ref) :: xblk b139 4 ([.bool t149]) :: xrow A376 c377 2 1 (t375.flatMap (encI .i64)) :: fs) w := hC
          exact does_run (x_load (t := 34) (x := (.tmp 10)) (p := ⟨b57, 0, none⟩) (v := .slice Q50 t48.length Q51) (by kernel_rfl) (loads_at 0 (hC.blk 4 rfl) (by kernel_rfl) (by kernel_rfl)) (by kernel_rfl)) rfl hC
         ·replace hC : St w0 Z (xrow (some ⟨b401, 0, none⟩) 1 2 1 (([t398] : List Int).flatMap (encI .i64)) :: xblk b1 37 ([.slice Aa1_0 a1.Refs.length ca1_0, .slice Aa1_1 a1.Values.length ca1_1, .int .i64 a1.Rest]) :: xrow Q7 Q8 52 6 (t5.flatMap enc_api_Node) :: xrow Q18 Q19 46 2 (t16.flatMap enc_api_Ref) :: xrow Q35 Q36 46 2 (t33.flatMap enc_api_Ref) :: xblk b57 34 ([.slice Q50 t48.length Q51]) :: xrow Q50 Q51 46 2 (t48.flatMap enc_api_Ref) :: xblk b139 4 ([.bool t149]) :: xrow A376 c377 2 1 (t375.flatMap (encI .i64)) :: fs) w := hC
          exact does_run (x_load (t := 34) (x := (.tmp 10)) (p := ⟨b57, 0, none⟩) (v := .slice Q50 t48.length Q51) (by kernel_rfl) (loads_at 0 (hC.blk 5 rfl) (by kernel_rfl) (by kernel_rfl)) (by kernel_rfl)) rfl hC
         ·replace hC : St w0 Z (xrow x408.1 x408.2 2 1 ((t375 ++ ([t398] : List Int)).flatMap (encI .i64)) :: xrow (some ⟨b401, 0, none⟩) 1 2 1 (([t398] : List Int).flatMap (encI .i64)) :: xblk b1 37 ([.slice Aa1_0 a1.Refs.length ca1_0, .slice Aa1_1 a1.Values.length ca1_1, .int .i64 a1.Rest]) :: xrow Q7 Q8 52 6 (t5.flatMap enc_api_Node) :: xrow Q18 Q19 46 2 (t16.flatMap enc_api_Ref) :: xrow Q35 Q36 46 2 (t33.flatMap enc_api_Ref) :: xblk b57 34 ([.slice Q50 t48.length Q51]) :: xrow Q50 Q51 46 2 (t48.flatMap enc_api_Ref) :: xblk b139 4 ([.bool t149]) :: fs) w := hC
          exact does_run (x_load (t := 34) (x := (.tmp 10)) (p := ⟨b57, 0, none⟩) (v := .slice Q50 t48.length Q51) (by kernel_rfl) (loads_at 0 (hC.blk 6 rfl) (by kernel_rfl) (by kernel_rfl)) (by kernel_rfl)) rfl hC
        | 3, _, _ =>
         rcases st with _ | ⟨b401, _ | x408⟩
         ·replace hC : St w0 Z (xblk b1 37 ([.slice Aa1_0 a1.Refs.length ca1_0, .slice Aa1_1 a1.Values.length ca1_1, .int .i64 a1.Rest]) :: xrow Q7 Q8 52 6 (t5.flatMap enc_api_Node) :: xrow Q18 Q19 46 2 (t16.flatMap enc_api_Ref) :: xrow Q35 Q36 46 2 (t33.flatMap enc_api_Ref) :: xblk b57 34 ([.slice Q50 t48.length Q51]) :: xrow Q50 Q51 46 2 (t48.flatMap enc_api_Ref) :: xblk b139 4 ([.bool t149]) :: xrow A376 c377 2 1 (t375.flatMap (encI .i64)) :: fs) w := hC
          exact does_pure (v := .int .i64 t379) (by kernel_rfl) rfl hC
         ·replace hC : St w0 Z (xrow (some ⟨b401, 0, none⟩) 1 2 1 (([t398] : List Int).flatMap (encI .i64)) :: xblk b1 37 ([.slice Aa1_0 a1.Refs.length ca1_0, .slice Aa1_1 a1.Values.length ca1_1, .int .i64 a1.Rest]) :: xrow Q7 Q8 52 6 (t5.flatMap enc_api_Node) :: xrow Q18 Q19 46 2 (t16.flatMap enc_api_Ref) :: xrow Q35 Q36 46 2 (t33.flatMap enc_api_Ref) :: xblk b57 34 ([.slice Q50 t48.length Q51]) :: xrow Q50 Q51 46 2 (t48.flatMap enc_api_Ref) :: xblk b139 4 ([.bool t149]) :: xrow A376 c377 2 1 (t375.flatMap (encI .i64)) :: fs) w := hC
          exact does_pure (v := .int .i64 t379) (by kernel_rfl) rfl hC
         ·replace hC : St w0 Z (xrow x408.1 x408.2 2 1 ((t375 ++ ([t398] : List Int)).flatMap (encI .i64)) :: xrow (some ⟨b401, 0, none⟩) 1 2 1 (([t398] : List Int).flatMap (encI .i64)) :: xblk b1 37 ([.slice Aa1_0 a1.Refs.length ca1_0, .slice Aa1_1 a1.Values.length ca1_1, .int .i64 a1.Rest]) :: xrow Q7 Q8 52 6 (t5.flatMap enc_api_Node) :: xrow Q18 Q19 46 2 (t16.flatMap enc_api_Ref) :: xrow Q35 Q36 46 2 (t33.flatMap enc_api_Ref) :: xblk b57 34 ([.slice Q50 t48.length Q51]) :: xrow Q50 Q51 46 2 (t48.flatMap enc_api_Ref) :: xblk b139 4 ([.bool t149]) :: fs) w := hC
          exact does_pure (v := .int .i64 t379) (by kernel_rfl) rfl hC
        | 4, _, _ =>
         rcases st with _ | ⟨b401, _ | x408⟩
         ·replace hC : St w0 Z (xblk b1 37 ([.slice Aa1_0 a1.Refs.length ca1_0, .slice Aa1_1 a1.Values.length ca1_1, .int .i64 a1.Rest]) :: xrow Q7 Q8 52 6 (t5.flatMap enc_api_Node) :: xrow Q18 Q19 46 2 (t16.flatMap enc_api_Ref) :: xrow Q35 Q36 46 2 (t33.flatMap enc_api_Ref) :: xblk b57 34 ([.slice Q50 t48.length Q51]) :: xrow Q50 Q51 46 2 (t48.flatMap enc_api_Ref) :: xblk b139 4 ([.bool t149]) :: xrow A376 c377 2 1 (t375.flatMap (encI .i64)) :: fs) w := hC
          exact does_run (x_indexAddr (t := 34) (e := 46) (x := (.tmp 68)) (y := (.tmp 69)) (b := b394) (o' := p395) (n := t48.length) (cp := Q51) (sz := 2) (kk := .i64) (j := t379) (slv (by kernel_rfl) hA396) (by kernel_rfl) (by kernel_rfl) (by kernel_rfl) g392.1 g392.2 (by kernel_rfl)) rfl hC
         ·replace hC : St w0 Z (xrow (some ⟨b401, 0, none⟩) 1 2 1 (([t398] : List Int).flatMap (encI .i64)) :: xblk b1 37 ([.slice Aa1_0 a1.Refs.length ca1_0, .slice Aa1_1 a1.Values.length ca1_1, .int .i64 a1.Rest]) :: xrow Q7 Q8 52 6 (t5.flatMap enc_api_Node) :: xrow Q18 Q19 46 2 (t16.flatMap enc_api_Ref) :: xrow Q35 Q36 46 2 (t33.flatMap enc_api_Ref) :: xblk b57 34 ([.slice Q50 t48.length Q51]) :: xrow Q50 Q51 46 2 (t48.flatMap enc_api_Ref) :: xblk b139 4 ([.bool t149]) :: xrow A376 c377 2 1 (t375.flatMap (encI .i64)) :: fs) w := hC
          exact does_run (x_indexAddr (t := 34) (e := 46) (x := (.tmp 68)) (y := (.tmp 69)) (b := b394) (o' := p395) (n := t48.length) (cp := Q51) (sz := 2) (kk := .i64) (j := t379) (slv (by kernel_rfl) hA396) (by kernel_rfl) (by kernel_rfl) (by kernel_rfl) g392.1 g392.2 (by kernel_rfl)) rfl hC
         ·replace hC : St w0 Z (xrow x408.1 x408.2 2 1 ((t375 ++ ([t398] : List Int)).flatMap (encI .i64)) :: xrow (some ⟨b401, 0, none⟩) 1 2 1 (([t398] : List Int).flatMap (encI .i64)) :: xblk b1 37 ([.slice Aa1_0 a1.Refs.length ca1_0, .slice Aa1_1 a1.Values.length ca1_1, .int .i64 a1.Rest]) :: xrow Q7 Q8 52 6 (t5.flatMap enc_api_Node) :: xrow Q18 Q19 46 2 (t16.flatMap enc_api_Ref) :: xrow Q35 Q36 46 2 (t33.flatMap enc_api_Ref) :: xblk b57 34 ([.slice Q50 t48.length Q51]) :: xrow Q50 Q51 46 2 (t48.flatMap enc_api_Ref) :: xblk b139 4 ([.bool t149]) :: fs) w := hC
          exact does_run (x_indexAddr (t := 34) (e := 46) (x := (.tmp 68)) (y := (.tmp 69)) (b := b394) (o' := p395) (n := t48.length) (cp := Q51) (sz := 2) (kk := .i64) (j := t379) (slv (by kernel_rfl) hA396) (by kernel_rfl) (by kernel_rfl) (by kernel_rfl) g392.1 g392.2 (by kernel_rfl)) rfl hC
        | 5, _, _ =>
         rcases st with _ | ⟨b401, _ | x408⟩
         ·replace hC : St w0 Z (xblk b1 37 ([.slice Aa1_0 a1.Refs.length ca1_0, .slice Aa1_1 a1.Values.length ca1_1, .int .i64 a1.Rest]) :: xrow Q7 Q8 52 6 (t5.flatMap enc_api_Node) :: xrow Q18 Q19 46 2 (t16.flatMap enc_api_Ref) :: xrow Q35 Q36 46 2 (t33.flatMap enc_api_Ref) :: xblk b57 34 ([.slice Q50 t48.length Q51]) :: xrow Q50 Q51 46 2 (t48.flatMap enc_api_Ref) :: xblk b139 4 ([.bool t149]) :: xrow A376 c377 2 1 (t375.flatMap (encI .i64)) :: fs) w := hC
          exact does_run (x_load (t := 46) (x := (.tmp 70)) (p := ⟨b394, p395 + t379.toNat * 2, none⟩) (v := .agg (enc_api_Ref (gt t48 t379)).toArray) (by kernel_rfl) (loads_agg ((hC.row 5 rfl).at2 hA396 len_api_Ref (by omega) g392.1 g392.2) (by kernel_rfl) (by kernel_rfl)) (by kernel_rfl)) rfl hC
         ·replace hC : St w0 Z (xrow (some ⟨b401, 0, none⟩) 1 2 1 (([t398] : List Int).flatMap (encI .i64)) :: xblk b1 37 ([.slice Aa1_0 a1.Refs.length ca1_0, .slice Aa1_1 a1.Values.length ca1_1, .int .i64 a1.Rest]) :: xrow Q7 Q8 52 6 (t5.flatMap enc_api_Node) :: xrow Q18 Q19 46 2 (t16.flatMap enc_api_Ref) :: xrow Q35 Q36 46 2 (t33.flatMap enc_api_Ref) :: xblk b57 34 ([.slice Q50 t48.length Q51]) :: xrow Q50 Q51 46 2 (t48.flatMap enc_api_Ref) :: xblk b139 4 ([.bool t149]) :: xrow A376 c377 2 1 (t375.flatMap (encI .i64)) :: fs) w := hC
          exact does_run (x_load (t := 46) (x := (.tmp 70)) (p := ⟨b394, p395 + t379.toNat * 2, none⟩) (v := .agg (enc_api_Ref (gt t48 t379)).toArray) (by kernel_rfl) (loads_agg ((hC.row 6 rfl).at2 hA396 len_api_Ref (by omega) g392.1 g392.2) (by kernel_rfl) (by kernel_rfl)) (by kernel_rfl)) rfl hC
         ·replace hC : St w0 Z (xrow x408.1 x408.2 2 1 ((t375 ++ ([t398] : List Int)).flatMap (encI .i64)) :: xrow (some ⟨b401, 0, none⟩) 1 2 1 (([t398] : List Int).flatMap (encI .i64)) :: xblk b1 37 ([.slice Aa1_0 a1.Refs.length ca1_0, .slice Aa1_1 a1.Values.length ca1_1, .int .i64 a1.Rest]) :: xrow Q7 Q8 52 6 (t5.flatMap enc_api_Node) :: xrow Q18 Q19 46 2 (t16.flatMap enc_api_Ref) :: xrow Q35 Q36 46 2 (t33.flatMap enc_api_Ref) :: xblk b57 34 ([.slice Q50 t48.length Q51]) :: xrow Q50 Q51 46 2 (t48.flatMap enc_api_Ref) :: xblk b139 4 ([.bool t149]) :: fs) w := hC
          exact does_run (x_load (t := 46) (x := (.tmp 70)) (p := ⟨b394, p395 + t379.toNat * 2, none⟩) (v := .agg (enc_api_Ref (gt t48 t379)).toArray) (by kernel_rfl) (loads_agg ((hC.row 7 rfl).at2 hA396 len_api_Ref (by omega) g392.1 g392.2) (by kernel_rfl) (by kernel_rfl)) (by kernel_rfl)) rfl hC
        | 6, _, _ =>
         rcases st with _ | ⟨b401, _ | x408⟩
         ·replace hC : St w0 Z (xblk b1 37 ([.slice Aa1_0 a1.Refs.length ca1_0, .slice Aa1_1 a1.Values.length ca1_1, .int .i64 a1.Rest]) :: xrow Q7 Q8 52 6 (t5.flatMap enc_api_Node) :: xrow Q18 Q19 46 2 (t16.flatMap enc_api_Ref) :: xrow Q35 Q36 46 2 (t33.flatMap enc_api_Ref) :: xblk b57 34 ([.slice Q50 t48.length Q51]) :: xrow Q50 Q51 46 2 (t48.flatMap enc_api_Ref) :: xblk b139 4 ([.bool t149]) :: xrow A376 c377 2 1 (t375.flatMap (encI .i64)) :: fs) w := hC
          exact (by refine does_call (g := 17) (args := #[.agg #[.slice Aa1_0 a1.Refs.length ca1_0, .slice Aa1_1 a1.Values.length ca1_1, .int .i64 a1.Rest], .agg (enc_api_Ref (gt t48 t379)).toArray]) (by kernel_rfl) (weirlaw06_Set__of.ok (⟨a1.Refs, a1.Values, a1.Rest⟩ : weirlaw06_Set) (gt t48 t379) Aa1_0 ca1_0 Aa1_1 ca1_1 hC ha1_0 ha1_1 hr399) ?_; rintro e w2 ⟨rfl, h2⟩; have hS409 := h2.pick7; have hS410 := hS409.pick7; have hS411 := hS410.pick7; have hS412 := hS411.pick7; have hS413 := hS412.pick7; have hS414 := hS413.pick7; have hS415 := hS414.pick7; have hS416 := hS415.pick7; exact ⟨_, rfl, rfl, hS416⟩)
         ·exact absurd hu (Nat.not_le_of_gt (Nat.le_of_ble_eq_true rfl))
         ·exact absurd hu (Nat.not_le_of_gt (Nat.le_of_ble_eq_true rfl))
        | 7, _, he => exact absurd he (by decide)
        | 8, _, he => exact absurd he (by decide)
        | 9, _, _ =>
         rcases st with _ | ⟨b401, _ | x408⟩
         ·exact absurd hr (Nat.not_le_of_gt (Nat.le_of_ble_eq_true rfl))
         ·exact absurd hr (Nat.not_le_of_gt (Nat.le_of_ble_eq_true rfl))
         ·replace hC : St w0 Z (xrow x408.1 x408.2 2 1 ((t375 ++ ([t398] : List Int)).flatMap (encI .i64)) :: xrow (some ⟨b401, 0, none⟩) 1 2 1 (([t398] : List Int).flatMap (encI .i64)) :: xblk b1 37 ([.slice Aa1_0 a1.Refs.length ca1_0, .slice Aa1_1 a1.Values.length ca1_1, .int .i64 a1.Rest]) :: xrow Q7 Q8 52 6 (t5.flatMap enc_api_Node) :: xrow Q18 Q19 46 2 (t16.flatMap enc_api_Ref) :: xrow Q35 Q36 46 2 (t33.flatMap enc_api_Ref) :: xblk b57 34 ([.slice Q50 t48.length Q51]) :: xrow Q50 Q51 46 2 (t48.flatMap enc_api_Ref) :: xblk b139 4 ([.bool t149]) :: fs) w := hC
          exact does_pure (v := .slice x408.1 (t375 ++ ([t398] : List Int)).length x408.2) (by kernel_rfl) rfl hC
        | i + 10, hi, _ => exact absurd hi (by omega)
       ·intro k hk st w hC hr
        match k, hk with
        | 0, _ =>
         rcases st with _ | ⟨b401, _ | x408⟩
         ·replace hC : St w0 Z (xblk b1 37 ([.slice Aa1_0 a1.Refs.length ca1_0, .slice Aa1_1 a1.Values.length ca1_1, .int .i64 a1.Rest]) :: xrow Q7 Q8 52 6 (t5.flatMap enc_api_Node) :: xrow Q18 Q19 46 2 (t16.flatMap enc_api_Ref) :: xrow Q35 Q36 46 2 (t33.flatMap enc_api_Ref) :: xblk b57 34 ([.slice Q50 t48.length Q51]) :: xrow Q50 Q51 46 2 (t48.flatMap enc_api_Ref) :: xblk b139 4 ([.bool t149]) :: xrow A376 c377 2 1 (t375.flatMap (encI .i64)) :: fs) w := hC
          refine does_lit (t := 35) (e := 2) (sz := 1) (n := 1) (parts := #[(0, (.tmp 72))]) (vs := [(0, .int .i64 t398)]) (z := zeroOf Try.prog 2) (cs' := ([t398] : List Int).flatMap (encI .i64)) hC (by kernel_rfl) (by kernel_rfl) (by kernel_rfl) (by kernel_rfl) (by decide) (by decide) (by kernel_rfl) rfl (Parts.cons (c := [.int .i64 t398]) (by kernel_rfl) rfl Parts.nil) rfl ?_
          intro b401 w2 h2
          refine ⟨some (b401, none), rfl, ?_, .inr rfl, h2⟩
          intro j hj
          match j, hj with
          | 0, _ => exact rfl
          | 1, _ => exact rfl
          | 2, _ => exact rfl
          | 3, _ => exact rfl
          | 4, _ => exact rfl
          | 5, _ => exact rfl
          | 6, _ => exact rfl
          | 7, hj => exact absurd hj (by decide)
          | 8, hj => exact absurd hj (by decide)
          | 9, hj => exact absurd hj (by decide)
          | j + 10, _ => exact rfl
         ·exact absurd hr (Nat.ne_of_beq_eq_false rfl)
         ·exact absurd hr (Nat.ne_of_beq_eq_false rfl)
        | 1, _ =>
         rcases st with _ | ⟨b401, _ | x408⟩
         ·exact absurd hr (Nat.ne_of_beq_eq_false rfl)
         ·replace hC : St w0 Z (xrow (some ⟨b401, 0, none⟩) 1 2 1 (([t398] : List Int).flatMap (encI .i64)) :: xblk b1 37 ([.slice Aa1_0 a1.Refs.length ca1_0, .slice Aa1_1 a1.Values.length ca1_1, .int .i64 a1.Rest]) :: xrow Q7 Q8 52 6 (t5.flatMap enc_api_Node) :: xrow Q18 Q19 46 2 (t16.flatMap enc_api_Ref) :: xrow Q35 Q36 46 2 (t33.flatMap enc_api_Ref) :: xblk b57 34 ([.slice Q50 t48.length Q51]) :: xrow Q50 Q51 46 2 (t48.flatMap enc_api_Ref) :: xblk b139 4 ([.bool t149]) :: xrow A376 c377 2 1 (t375.flatMap (encI .i64)) :: fs) w := hC
          have hC := hC.pick8
          refine does_append (enc := (encI .i64)) (e := 2) (u := 2) (t := 35) (t2 := 35) (sz := 1) (cp := c377) (A := A376) (bytes := 8) (xs := t375) (ys := ([t398] : List Int)) (s := (.tmp 66)) (x := (.tmp 73)) (xv := .slice (some ⟨b401, 0, none⟩) ([t398] : List Int).length 1) (info := infoOf Try.prog 2) (z := zeroOf Try.prog 2) (ycs := ([t398] : List Int).flatMap (encI .i64)) hC (by kernel_rfl) (by kernel_rfl) (by kernel_rfl) (by kernel_rfl) (.inl (by kernel_rfl)) (by kernel_rfl) (by kernel_rfl) (by kernel_rfl) (by kernel_rfl) (by kernel_rfl) (by omega) (len_encI .i64) (one_encI .i64) (src_row (hC.row 1 rfl) (by omega) (len_encI .i64)) rfl g403 (by omega) ?_
          intro A405 c406 w2 h2
          refine ⟨some (b401, some (A405, c406)), rfl, ?_, .inr rfl, h2⟩
          intro j hj
          match j, hj with
          | 0, _ => exact rfl
          | 1, _ => exact rfl
          | 2, _ => exact rfl
          | 3, _ => exact rfl
          | 4, _ => exact rfl
          | 5, _ => exact rfl
          | 6, _ => exact rfl
          | 7, _ => exact rfl
          | 8, hj => exact absurd hj (by decide)
          | 9, hj => exact absurd hj (by decide)
          | j + 10, _ => exact rfl
         ·exact absurd hr (Nat.ne_of_beq_eq_false rfl)
        | k + 2, hk => exact absurd hk (by simp)
       intro st420 w417 hS418 hr419
       rcases st420 with _ | ⟨b401, _ | x408⟩
       ·exact absurd hr419 (Nat.not_le_of_gt (Nat.le_of_ble_eq_true rfl))
       ·exact absurd hr419 (Nat.not_le_of_gt (Nat.le_of_ble_eq_true rfl))
       replace hS418 : St w0 Z (xrow x408.1 x408.2 2 1 ((t375 ++ ([t398] : List Int)).flatMap (encI .i64)) :: xrow (some ⟨b401, 0, none⟩) 1 2 1 (([t398] : List Int).flatMap (encI .i64)) :: xblk b1 37 ([.slice Aa1_0 a1.Refs.length ca1_0, .slice Aa1_1 a1.Values.length ca1_1, .int .i64 a1.Rest]) :: xrow Q7 Q8 52 6 (t5.flatMap enc_api_Node) :: xrow Q18 Q19 46 2 (t16.flatMap enc_api_Ref) :: xrow Q35 Q36 46 2 (t33.flatMap enc_api_Ref) :: xblk b57 34 ([.slice Q50 t48.length Q51]) :: xrow Q50 Q51 46 2 (t48.flatMap enc_api_Ref) :: xblk b139 4 ([.bool t149]) :: fs) w417 := hS418
       refine sx_run 6 (todo' := [.inLoop (cd4 [1, 1, 1, 1, 1, 1, 1, 1, 1, 0, 1, 0, 0]), .inBlock 0, .code (cd4 [1, 1, 1, 1, 1, 1, 1, 1, 1, 1])]) (us := [(64, .int .i64 t379), (65, .int .i64 (IntKind.i64.wrap (t379 + 1))), (16, .int .i64 (IntKind.i64.wrap (t379 + 1)))]) (by kernel_rfl) ?_
       have hS421 := hS418.pick1
       have hS422 := hS421.drop
       have hS423 := hS422.pick7
       have hS424 := hS423.pick7
       have hS425 := hS424.pick7
       have hS426 := hS425.pick7
       have hS427 := hS426.pick7
       have hS428 := hS427.pick7
       have hS429 := hS428.pick7
       refine sx_run 1 (todo' := [.code (cd4 [1, 1, 1, 1, 1, 1, 1, 1, 1, 0, 1, 0, 0]), .inLoop (cd4 [1, 1, 1, 1, 1, 1, 1, 1, 1, 0, 1, 0, 0]), .inBlock 0, .code (cd4 [1, 1, 1, 1, 1, 1, 1, 1, 1, 1])]) (us := []) (by kernel_rfl) ?_
       refine Runs.fill (m := [some (.slice Aa0 a0.length ca0), none, none, some (.pointer (some ⟨b1, 0, none⟩)), none, some (.slice Q7 t6 Q8), some (.slice Q18 t16.length Q19), none, some (.slice Q35 t33.length Q36), none, some (.pointer (some ⟨b57, 0, none⟩)), none, some (.pointer (some ⟨b139, 0, none⟩)), some (.bool t147), some (.int .i64 t148), some (.slice x408.1 (t375 ++ ([t398] : List Int)).length x408.2), some (.int .i64 (IntKind.i64.wrap (t379 + 1))), none, none, none, none, none, none, none, none, none, none, none, none, none, none, none, none, none, none, none, none, none, none, none, none, none, none, none, none, none, none, none, none, none, none, none, none, none, none, none, none, none, none, none, none, none, none, none, none, none, none, none, none, none, none, none, none, none, none, none, none, none, none, none, none, none, none, none, none, none, none, none, none, none, none, none, none, none, none, none, none, none, none, none, none, none, none, none, none, none, none, none, none, none, none, none, none, none, none, none, none, none, none, none, none, none, none]) (by kernel_rfl) ?_
       exact ih386 (t375 ++ ([t398] : List Int)) (IntKind.i64.wrap (t379 + 1)) _ hp404 he384 _ x408.1 x408.2 _ hS429
      ·skip
       have hp430 := ite_f hb385 h390
       refine sx_run 3 (todo' := [.code (cd4 [1, 1, 1, 1, 1, 1, 1, 1, 1, 1])]) (us := []) (by kernel_rfl) ?_
       have hS431 := hS381.drop
       refine Runs.fill (m := [some (.slice Aa0 a0.length ca0), none, none, none, none, some (.slice Q7 t6 Q8), some (.slice Q18 t16.length Q19), none, some (.slice Q35 t33.length Q36), none, some (.pointer (some ⟨b57, 0, none⟩)), none, some (.pointer (some ⟨b139, 0, none⟩)), some (.bool t147), some (.int .i64 t148), some (.slice A376 t375.length c377), none, none, none, none, none, none, none, none, none, none, none, none, none, none, none, none, none, none, none, none, none, none, none, none, none, none, none, none, none, none, none, none, none, none, none, none, none, none, none, none, none, none, none, none, none, none, none, none, none, none, none, none, none, none, none, none, none, none, none, none, none, none, none, none, none, none, none, none, none, none, none, none, none, none, none, none, none, none, none, none, none, none, none, none, none, none, none, none, none, none, none, none, none, none, none, none, none, none, none, none, none, none, none, none, none, none, none]) (by kernel_rfl) ?_
       exact J183 t375 ((Option.some.inj hp430).trans he384) _ A376 c377 _ hS431
     have hS433 := hS173.nilrow none 2 1
     have hS434 := hS433.pick4
     have hS435 := hS434.pick3
     have hS436 := hS435.pick4
     have hS437 := hS436.pick6
     have hS438 := hS437.pick7
     have hS439 := hS438.pick6
     have hS440 := hS439.pick7
     refine Runs.fill (m := [some (.slice Aa0 a0.length ca0), none, none, some (.pointer (some ⟨b1, 0, none⟩)), none, some (.slice Q7 t6 Q8), some (.slice Q18 t16.length Q19), none, some (.slice Q35 t33.length Q36), none, some (.pointer (some ⟨b57, 0, none⟩)), none, some (.pointer (some ⟨b139, 0, none⟩)), some (.bool t147), some (.int .i64 t148), some (.slice none 0 0), some (.int .i64 0), none, none, none, none, none, none, none, none, none, none, none, none, none, none, none, none, none, none, none, none, none, none, none, none, none, none, none, none, none, none, none, none, none, none, none, none, none, none, none, none, none, none, none, none, none, none, none, none, none, none, none, none, none, none, none, none, none, none, none, none, none, none, none, none, none, none, none, none, none, none, none, none, none, none, none, none, none, none, none, none, none, none, none, none, none, none, none, none, none, none, none, none, none, none, none, none, none, none, none, none, none, none, none, none, none, none]) (by kernel_rfl) ?_
     exact L388 [] 0 _ hv175 rfl _ none 0 _ hS440

end
end Go.Proofs.Ythkpeoiphkndiaa.K
