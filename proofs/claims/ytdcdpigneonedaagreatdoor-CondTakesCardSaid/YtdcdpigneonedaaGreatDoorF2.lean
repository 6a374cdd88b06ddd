/- The walk, part 2: each Go function as a plain Lean function, and that its call answers as that function says. No condition. -/
import Derived.Test.YtdcdpigneonedaaGreatDoorE
import Derived.Test.YtdcdpigneonedaaGreatDoorNG
import Derived.Test.YtdcdpigneonedaaGreatDoorNP
import Derived.Test.YtdcdpigneonedaaGreatDoorNM
import Derived.Test.YtdcdpigneonedaaGreatDoorNI
import Derived.Test.YtdcdpigneonedaaGreatDoorNV
import Derived.Test.YtdcdpigneonedaaGreatDoorNX
import Derived.Test.YtdcdpigneonedaaGreatDoorNA
import Derived.Test.YtdcdpigneonedaaGreatDoorF1
set_option linter.unusedVariables false
set_option linter.unusedSimpArgs false
set_option maxRecDepth 100000
namespace Go.Proofs.YtdcdpigneonedaaGreatDoor.K
open Go Go.RowKit
noncomputable section
noncomputable def cd27 (p : List Nat) : Code := sub (bodyOf Tryz.f27) p
def cond_reader__not.body (rec_cond_reader__not : cond_reader → Option (Sum PErr (Int × (List api_Token) × Int × api_Token × Int × (List api_Node)))) (a0v : cond_reader) : Option (Sum PErr (Int × (List api_Token) × Int × api_Token × Int × (List api_Node))) :=
  (cond_reader__sees.f (⟨a0v.l, a0v.at_, a0v.last, a0v.depth, a0v.c⟩ : cond_reader) 0 4 (⟨#[126]⟩ : ByteArray) >>= (fun t1 => (((if t1 = true then (cond_reader__opens.f (⟨a0v.l, a0v.at_, a0v.last, a0v.depth, a0v.c⟩ : cond_reader) >>= (fun | .inl pe237 => some (.inr (.inl pe237)) | .inr (t231, t232, t233) => (rec_cond_reader__not (⟨a0v.l, t231, t232, t233, a0v.c⟩ : cond_reader) >>= (fun | .inl pe273 => some (.inr (.inl pe273)) | .inr (t260, t261, t262, t263, t264, t265) => (cond_reader__node.f (⟨t261, t262, t263, (IntKind.i64.wrap (t264 - 1)), t265⟩ : cond_reader) (⟨3, t260, 0, (⟨0, (⟨#[]⟩ : ByteArray)⟩ : api_Ref), 0⟩ : api_Node) >>= (fun | .inl pe301 => some (.inr (.inl pe301)) | .inr (t294, t295) => some (.inr (.inr (t294, t261, t262, t263, (IntKind.i64.wrap (t264 - 1)), t295))))))))) else (cond_reader__sees.f (⟨a0v.l, a0v.at_, a0v.last, a0v.depth, a0v.c⟩ : cond_reader) 0 4 (⟨#[40]⟩ : ByteArray) >>= (fun t52 => (if t52 = true then (cond_reader__opens.f (⟨a0v.l, a0v.at_, a0v.last, a0v.depth, a0v.c⟩ : cond_reader) >>= (fun | .inl pe143 => some (.inr (.inl pe143)) | .inr (t137, t138, t139) => (cond_reader__cond_2.f rec_cond_reader__not (⟨a0v.l, t137, t138, t139, a0v.c⟩ : cond_reader) >>= (fun | .inl pe179 => some (.inr (.inl pe179)) | .inr (t166, t167, t168, t169, t170, t171) => (cond_reader__sign.f (⟨t167, t168, t169, t170, t171⟩ : cond_reader) (⟨#[41]⟩ : ByteArray) >>= (fun | .inl pe202 => some (.inr (.inl pe202)) | .inr (t197, t198) => some (.inr (.inr (t166, t167, t197, t198, (IntKind.i64.wrap (t170 - 1)), t171))))))))) else (cond_reader__sees.f (⟨a0v.l, a0v.at_, a0v.last, a0v.depth, a0v.c⟩ : cond_reader) 0 1 (⟨#[116, 114, 117, 101]⟩ : ByteArray) >>= (fun t66 => (if t66 = true then (cond_reader__sees.f (⟨a0v.l, a0v.at_, a0v.last, a0v.depth, a0v.c⟩ : cond_reader) 1 4 (⟨#[61]⟩ : ByteArray) >>= (fun t82 => (if (!t82) = true then (cond_reader__take.f (⟨a0v.l, a0v.at_, a0v.last, a0v.depth, a0v.c⟩ : cond_reader) >>= (fun (t98, t99, t100) => (cond_reader__node.f (⟨a0v.l, t99, t100, a0v.depth, a0v.c⟩ : cond_reader) (⟨1, 0, 0, (⟨0, (⟨#[]⟩ : ByteArray)⟩ : api_Ref), 0⟩ : api_Node) >>= (fun | .inl pe118 => some (.inr (.inl pe118)) | .inr (t111, t112) => some (.inr (.inr (t111, a0v.l, t99, t100, a0v.depth, t112))))))) else some (.inl ())))) else some (.inl ())))))))) : Option (Sum Unit (Sum PErr (Int × (List api_Token) × Int × api_Token × Int × (List api_Node))))) >>= (fun | .inl () => (cond_reader__is.f (⟨a0v.l, a0v.at_, a0v.last, a0v.depth, a0v.c⟩ : cond_reader) >>= (fun | .inl pe33 => some (.inl pe33) | .inr (t24, t25, t26, t27) => some (.inr (t24, a0v.l, t25, t26, a0v.depth, t27)))) | .inr e => some e))))
set_option maxHeartbeats 16000000 in
theorem cond_reader__not.bok (rec_cond_reader__not : cond_reader → Option (Sum PErr (Int × (List api_Token) × Int × api_Token × Int × (List api_Node)))) (hrec_cond_reader__not : cond_reader__not.Spec rec_cond_reader__not) : cond_reader__not.Spec (cond_reader__not.body rec_cond_reader__not) := by
  intro a0v ba0 Aa0v_0 ca0v_0 Aa0v_4 ca0v_4 w0 Z fs w hS0 ha0v_0 hE qr hp0
  refine calls_abs ?_; intro R hR
  unfold cond_reader__not.body at hp0
  refine calls_of_runs (fn := Tryz.f27) (c := cd27 []) Tryz.func27 (by kernel_rfl) (al := [.pointer (some ⟨ba0, 0, none⟩)]) rfl (n := 54) rfl ?_
  refine sx_run 9 (todo' := [.inRegion (opsOf (cd27 [1, 0, 0, 0])) [1, 2], .code (cd27 [1, 0, 0, 1]), .inBlock 0, .code (cd27 [1, 1])]) (us := [(2, .int .i64 0), (6, .pointer (some ⟨ba0, 0, none⟩))]) (by kernel_rfl) ?_
  obtain ⟨t1, hr2, hp3⟩ := bind_some' hp0
  have hS6 := hS0.pick1
  obtain ⟨Z7, hz8, hS9, hs10, hb11⟩ := hS6.lendrow len_api_Node (by omega)
  refine r_call1 (c := (cd27 [1, 0, 0, 0])) (i := 1) (d := (some 7)) (g := 24) (args := #[.pointer (some ⟨ba0, 0, none⟩), .int .i64 0, .int .i64 4, .string (⟨#[126]⟩ : ByteArray)]) (by kernel_rfl) (by kernel_rfl) (by kernel_rfl) (by kernel_rfl) (cond_reader__sees.ok (⟨a0v.l, a0v.at_, a0v.last, a0v.depth, a0v.c⟩ : cond_reader) 0 4 (⟨#[126]⟩ : ByteArray) ba0 Aa0v_0 ca0v_0 Aa0v_4 ca0v_4 hS9 (ha0v_0.up hz8) hs10 hr2) ?_
  rintro _ w12 ⟨rfl, hS13⟩
  refine ⟨.bool t1, rfl, ?_⟩
  have hS14 := hb11 _ _ hS13
  refine sx_run 2 (todo' := [.code (cd27 [1, 0, 0, 1]), .inBlock 0, .code (cd27 [1, 1])]) (us := [(5, .bool t1)]) (by kernel_rfl) ?_
  obtain ⟨v15, hv16, hp17⟩ := bind_some' hp3
  have hq20 : ∀ x, Sum.inr x = v15 → x = qr := by intro x hx; subst hx; simpa using hp17
  have J21 : ∀ (he23 : Sum.inl () = v15) (l22 : List Value) (w18 : World) (hS19 : St w0 Z (xblk ba0 44 ([.slice Aa0v_0 a0v.l.length ca0v_0] ++ [.int .i64 a0v.at_] ++ (enc_api_Token a0v.last) ++ [.int .i64 a0v.depth] ++ [.slice Aa0v_4 a0v.c.length ca0v_4]) :: xrow Aa0v_4 ca0v_4 53 6 (a0v.c.flatMap enc_api_Node) :: fs) w18), Runs Tryz.prog (fx 27) [.code (cd27 [1, 1])] (fill [some (.pointer (some ⟨ba0, 0, none⟩)), none, none, none, none, none, none, none, none, none, none, none, none, none, none, none, none, none, none, none, none, none, none, none, none, none, none, none, none, none, none, none, none, none, none, none, none, none, none, none, none, none, none, none, none, none, none, none, none, none, none, none, none, none, none] l22) w18 R := by
   intro he23 l22 w18 hS19
   subst he23
   try dsimp only at hp17
   refine sx_run 3 (todo' := [.inRegion (opsOf (cd27 [1, 1, 0])) [1, 2], .code (cd27 [1, 1, 1])]) (us := [(53, .pointer (some ⟨ba0, 0, none⟩))]) (by kernel_rfl) ?_
   obtain ⟨q32, hr30, hp31⟩ := bind_some' hp17
   rcases q32 with pe33 | ⟨t24, t25, t26, t27⟩
   ·skip
    try dsimp only at hp31
    have hS34 := hS19.pick1
    have hS35 := hS34.pick1
    refine r_callX (c := (cd27 [1, 1, 0])) (i := 1) (d := (some 54)) (g := 36) (args := #[.pointer (some ⟨ba0, 0, none⟩)]) (by kernel_rfl) (by kernel_rfl) (by kernel_rfl) (by kernel_rfl) (cond_reader__is.ok (⟨a0v.l, a0v.at_, a0v.last, a0v.depth, a0v.c⟩ : cond_reader) ba0 Aa0v_0 ca0v_0 Aa0v_4 ca0v_4 hS35 ha0v_0 hE hr30) ?_
    rintro _ w41 ⟨v36, Z37, hz38, rfl, hS39, he40⟩
    refine ⟨_, rfl, ?_⟩
    refine raised_fx Tryz.func27 ?_
    have hr43 := (Option.some.inj hp31)
    cases hr43
    exact hR _ _ (panq_l ⟨v36, Z37, hz38, rfl, hS39, he40⟩)
   ·skip
    try dsimp only at hp31
    have hS45 := hS19.pick1
    have hS46 := hS45.pick1
    refine r_call1 (c := (cd27 [1, 1, 0])) (i := 1) (d := (some 54)) (g := 36) (args := #[.pointer (some ⟨ba0, 0, none⟩)]) (by kernel_rfl) (by kernel_rfl) (by kernel_rfl) (by kernel_rfl) (cond_reader__is.ok (⟨a0v.l, a0v.at_, a0v.last, a0v.depth, a0v.c⟩ : cond_reader) ba0 Aa0v_0 ca0v_0 Aa0v_4 ca0v_4 hS46 ha0v_0 hE hr30) ?_
    rintro _ w47 ⟨Q28, Q29, rfl, hS48⟩
    have hS49 : St w0 Z (xrow Q28 Q29 53 6 (t27.flatMap enc_api_Node) :: xblk ba0 44 ([.slice Aa0v_0 a0v.l.length ca0v_0] ++ [.int .i64 t25] ++ (enc_api_Token t26) ++ [.int .i64 a0v.depth] ++ [.slice Q28 t27.length Q29]) :: fs) w47 := hS48
    refine ⟨.int .i64 t24, rfl, ?_⟩
    refine sx_run 2 (todo' := [.code (cd27 [1, 1, 1])]) (us := [(2, .int .i64 t24)]) (by kernel_rfl) ?_
    refine runs_ret (fn := Tryz.f27) (v := .int .i64 t24) Tryz.func27 (by kernel_rfl) ?_
    have hr50 := (Option.some.inj hp31)
    cases hr50
    exact hR _ _ (panq_r ⟨Aa0v_0, ca0v_0, Q28, Q29, rfl, hS49, ha0v_0⟩)
  cases t1
  ·skip
   have hp51 := ite_f hv16 rfl
   refine sx_run 4 (todo' := [.inRegion (opsOf (cd27 [1, 0, 0, 1, 1, 0])) [1, 2], .code (cd27 [1, 0, 0, 1, 1, 1]), .inBlock 0, .code (cd27 [1, 1])]) (us := [(24, .pointer (some ⟨ba0, 0, none⟩))]) (by kernel_rfl) ?_
   obtain ⟨t52, hr53, hp54⟩ := bind_some' hp51
   obtain ⟨Z57, hz58, hS59, hs60, hb61⟩ := hS14.lendrow len_api_Node (by omega)
   refine r_call1 (c := (cd27 [1, 0, 0, 1, 1, 0])) (i := 1) (d := (some 25)) (g := 24) (args := #[.pointer (some ⟨ba0, 0, none⟩), .int .i64 0, .int .i64 4, .string (⟨#[40]⟩ : ByteArray)]) (by kernel_rfl) (by kernel_rfl) (by kernel_rfl) (by kernel_rfl) (cond_reader__sees.ok (⟨a0v.l, a0v.at_, a0v.last, a0v.depth, a0v.c⟩ : cond_reader) 0 4 (⟨#[40]⟩ : ByteArray) ba0 Aa0v_0 ca0v_0 Aa0v_4 ca0v_4 hS59 (ha0v_0.up hz58) hs60 hr53) ?_
   rintro _ w62 ⟨rfl, hS63⟩
   refine ⟨.bool t52, rfl, ?_⟩
   have hS64 := hb61 _ _ hS63
   refine sx_run 2 (todo' := [.code (cd27 [1, 0, 0, 1, 1, 1]), .inBlock 0, .code (cd27 [1, 1])]) (us := [(23, .bool t52)]) (by kernel_rfl) ?_
   cases t52
   ·skip
    have hp65 := ite_f hp54 rfl
    refine sx_run 4 (todo' := [.inRegion (opsOf (cd27 [1, 0, 0, 1, 1, 1, 1, 0])) [1, 2, 3, 4, 5, 6, 7], .code (cd27 [1, 0, 0, 1, 1, 1, 1, 1]), .inBlock 0, .code (cd27 [1, 1])]) (us := [(41, .pointer (some ⟨ba0, 0, none⟩))]) (by kernel_rfl) ?_
    obtain ⟨t66, hr67, hp68⟩ := bind_some' hp65
    obtain ⟨Z71, hz72, hS73, hs74, hb75⟩ := hS64.lendrow len_api_Node (by omega)
    refine r_call1 (c := (cd27 [1, 0, 0, 1, 1, 1, 1, 0])) (i := 1) (d := (some 42)) (g := 24) (args := #[.pointer (some ⟨ba0, 0, none⟩), .int .i64 0, .int .i64 1, .string (⟨#[116, 114, 117, 101]⟩ : ByteArray)]) (by kernel_rfl) (by kernel_rfl) (by kernel_rfl) (by kernel_rfl) (cond_reader__sees.ok (⟨a0v.l, a0v.at_, a0v.last, a0v.depth, a0v.c⟩ : cond_reader) 0 1 (⟨#[116, 114, 117, 101]⟩ : ByteArray) ba0 Aa0v_0 ca0v_0 Aa0v_4 ca0v_4 hS73 (ha0v_0.up hz72) hs74 hr67) ?_
    rintro _ w76 ⟨rfl, hS77⟩
    refine ⟨.bool t66, rfl, ?_⟩
    have hS78 := hb75 _ _ hS77
    refine sx_run 1 (todo' := [.inRegion (opsOf (cd27 [1, 0, 0, 1, 1, 1, 1, 0])) [3, 4, 5, 6, 7], .code (cd27 [1, 0, 0, 1, 1, 1, 1, 1]), .inBlock 0, .code (cd27 [1, 1])]) (us := [(43, .bool t66)]) (by kernel_rfl) ?_
    cases t66
    ·skip
     have hp79 := ite_f hp68 rfl
     refine sx_run 9 (todo' := [.code (cd27 [1, 1])]) (us := [(44, undef), (45, undef), (46, undef), (47, .bool false), (40, .bool false)]) (by kernel_rfl) ?_
     have hS80 := hS78.pick1
     refine Runs.fill (m := [some (.pointer (some ⟨ba0, 0, none⟩)), none, none, none, none, none, none, none, none, none, none, none, none, none, none, none, none, none, none, none, none, none, none, none, none, none, none, none, none, none, none, none, none, none, none, none, none, none, none, none, none, none, none, none, none, none, none, none, none, none, none, none, none, none, none]) (by kernel_rfl) ?_
     exact J21 (Option.some.inj hp79) _ _ hS80
    ·skip
     have hp81 := ite_t hp68 rfl
     refine sx_run 1 (todo' := [.inRegion (opsOf (cd27 [1, 0, 0, 1, 1, 1, 1, 0])) [4, 5, 6, 7], .code (cd27 [1, 0, 0, 1, 1, 1, 1, 1]), .inBlock 0, .code (cd27 [1, 1])]) (us := [(44, .pointer (some ⟨ba0, 0, none⟩))]) (by kernel_rfl) ?_
     obtain ⟨t82, hr83, hp84⟩ := bind_some' hp81
     obtain ⟨Z87, hz88, hS89, hs90, hb91⟩ := hS78.lendrow len_api_Node (by omega)
     refine r_call1 (c := (cd27 [1, 0, 0, 1, 1, 1, 1, 0])) (i := 4) (d := (some 45)) (g := 24) (args := #[.pointer (some ⟨ba0, 0, none⟩), .int .i64 1, .int .i64 4, .string (⟨#[61]⟩ : ByteArray)]) (by kernel_rfl) (by kernel_rfl) (by kernel_rfl) (by kernel_rfl) (cond_reader__sees.ok (⟨a0v.l, a0v.at_, a0v.last, a0v.depth, a0v.c⟩ : cond_reader) 1 4 (⟨#[61]⟩ : ByteArray) ba0 Aa0v_0 ca0v_0 Aa0v_4 ca0v_4 hS89 (ha0v_0.up hz88) hs90 hr83) ?_
     rintro _ w92 ⟨rfl, hS93⟩
     refine ⟨.bool t82, rfl, ?_⟩
     have hS94 := hb91 _ _ hS93
     refine sx_split 1 (todo' := [.inRegion (opsOf (cd27 [1, 0, 0, 1, 1, 1, 1, 0])) [6, 7], .code (cd27 [1, 0, 0, 1, 1, 1, 1, 1]), .inBlock 0, .code (cd27 [1, 1])]) (us := []) (d := 46) (t := (!t82)) (by kernel_rfl) (fun h95 => ?_) (fun h96 => ?_)
     ·skip
      have hp97 := ite_t hp84 h95
      refine sx_run 7 (todo' := [.inRegion (opsOf (cd27 [1, 0, 0, 1, 1, 1, 1, 1, 0, 0])) [1], .code (cd27 [1, 0, 0, 1, 1, 1, 1, 1, 0, 1]), .inBlock 0, .code (cd27 [1, 1])]) (us := [(47, .bool true), (40, .bool true), (48, .pointer (some ⟨ba0, 0, none⟩))]) (by kernel_rfl) ?_
      obtain ⟨⟨t98, t99, t100⟩, hr101, hp102⟩ := bind_some' hp97
      try dsimp only at hp102
      obtain ⟨Z103, hz104, hS105, hs106, hb107⟩ := hS94.lendrow len_api_Node (by omega)
      refine r_call1 (c := (cd27 [1, 0, 0, 1, 1, 1, 1, 1, 0, 0])) (i := 1) (d := (some 49)) (g := 25) (args := #[.pointer (some ⟨ba0, 0, none⟩)]) (by kernel_rfl) (by kernel_rfl) (by kernel_rfl) (by kernel_rfl) (cond_reader__take.ok (⟨a0v.l, a0v.at_, a0v.last, a0v.depth, a0v.c⟩ : cond_reader) ba0 Aa0v_0 ca0v_0 Aa0v_4 ca0v_4 hS105 (ha0v_0.up hz104) hs106 hr101) ?_
      rintro _ w108 ⟨rfl, hS109⟩
      refine ⟨.agg (enc_api_Token t98).toArray, rfl, ?_⟩
      have hS110 := hb107 _ _ hS109
      refine sx_run 5 (todo' := [.inRegion (opsOf (cd27 [1, 0, 0, 1, 1, 1, 1, 1, 0, 1, 0])) [2, 3], .code (cd27 [1, 0, 0, 1, 1, 1, 1, 1, 0, 1, 1]), .inBlock 0, .code (cd27 [1, 1])]) (us := [(50, .pointer (some ⟨ba0, 0, none⟩)), (51, .agg (enc_api_Node (⟨1, 0, 0, (⟨0, (⟨#[]⟩ : ByteArray)⟩ : api_Ref), 0⟩ : api_Node)).toArray)]) (by kernel_rfl) ?_
      obtain ⟨q117, hr115, hp116⟩ := bind_some' hp102
      rcases q117 with pe118 | ⟨t111, t112⟩
      ·skip
       try dsimp only at hp116
       have hS119 := hS110.pick1
       refine r_callX (c := (cd27 [1, 0, 0, 1, 1, 1, 1, 1, 0, 1, 0])) (i := 2) (d := (some 52)) (g := 26) (args := #[.pointer (some ⟨ba0, 0, none⟩), .agg (enc_api_Node (⟨1, 0, 0, (⟨0, (⟨#[]⟩ : ByteArray)⟩ : api_Ref), 0⟩ : api_Node)).toArray]) (by kernel_rfl) (by kernel_rfl) (by kernel_rfl) (by kernel_rfl) (cond_reader__node.ok (⟨a0v.l, t99, t100, a0v.depth, a0v.c⟩ : cond_reader) (⟨1, 0, 0, (⟨0, (⟨#[]⟩ : ByteArray)⟩ : api_Ref), 0⟩ : api_Node) ba0 Aa0v_0 ca0v_0 Aa0v_4 ca0v_4 hS119 ha0v_0 hr115) ?_
       rintro _ w125 ⟨v120, Z121, hz122, rfl, hS123, he124⟩
       refine ⟨_, rfl, ?_⟩
       refine raised_fx Tryz.func27 ?_
       have hr127 := (hq20 _ (Option.some.inj hp116))
       cases hr127
       exact hR _ _ (panq_l ⟨v120, Z121, hz122, rfl, hS123, he124⟩)
      ·skip
       try dsimp only at hp116
       have hS129 := hS110.pick1
       refine r_call1 (c := (cd27 [1, 0, 0, 1, 1, 1, 1, 1, 0, 1, 0])) (i := 2) (d := (some 52)) (g := 26) (args := #[.pointer (some ⟨ba0, 0, none⟩), .agg (enc_api_Node (⟨1, 0, 0, (⟨0, (⟨#[]⟩ : ByteArray)⟩ : api_Ref), 0⟩ : api_Node)).toArray]) (by kernel_rfl) (by kernel_rfl) (by kernel_rfl) (by kernel_rfl) (cond_reader__node.ok (⟨a0v.l, t99, t100, a0v.depth, a0v.c⟩ : cond_reader) (⟨1, 0, 0, (⟨0, (⟨#[]⟩ : ByteArray)⟩ : api_Ref), 0⟩ : api_Node) ba0 Aa0v_0 ca0v_0 Aa0v_4 ca0v_4 hS129 ha0v_0 hr115) ?_
       rintro _ w130 ⟨Q113, Q114, rfl, hS131⟩
       have hS132 : St w0 Z (xrow Q113 Q114 53 6 (t112.flatMap enc_api_Node) :: xblk ba0 44 ([.slice Aa0v_0 a0v.l.length ca0v_0] ++ [.int .i64 t99] ++ (enc_api_Token t100) ++ [.int .i64 a0v.depth] ++ [.slice Q113 t112.length Q114]) :: fs) w130 := hS131
       refine ⟨.int .i64 t111, rfl, ?_⟩
       refine sx_run 2 (todo' := [.code (cd27 [1, 0, 0, 1, 1, 1, 1, 1, 0, 1, 1]), .inBlock 0, .code (cd27 [1, 1])]) (us := [(2, .int .i64 t111)]) (by kernel_rfl) ?_
       refine runs_ret (fn := Tryz.f27) (v := .int .i64 t111) Tryz.func27 (by kernel_rfl) ?_
       have hr133 := (hq20 _ (Option.some.inj hp116))
       cases hr133
       exact hR _ _ (panq_r ⟨Aa0v_0, ca0v_0, Q113, Q114, rfl, hS132, ha0v_0⟩)
     ·skip
      have hp134 := ite_f hp84 h96
      refine sx_run 6 (todo' := [.code (cd27 [1, 1])]) (us := [(47, .bool false), (40, .bool false)]) (by kernel_rfl) ?_
      have hS135 := hS94.pick1
      refine Runs.fill (m := [some (.pointer (some ⟨ba0, 0, none⟩)), none, none, none, none, none, none, none, none, none, none, none, none, none, none, none, none, none, none, none, none, none, none, none, none, none, none, none, none, none, none, none, none, none, none, none, none, none, none, none, none, none, none, none, none, none, none, none, none, none, none, none, none, none, none]) (by kernel_rfl) ?_
      exact J21 (Option.some.inj hp134) _ _ hS135
   ·skip
    have hp136 := ite_t hp54 rfl
    refine sx_run 4 (todo' := [.inRegion (opsOf (cd27 [1, 0, 0, 1, 1, 1, 0, 0])) [1], .code (cd27 [1, 0, 0, 1, 1, 1, 0, 1]), .inBlock 0, .code (cd27 [1, 1])]) (us := [(26, .pointer (some ⟨ba0, 0, none⟩))]) (by kernel_rfl) ?_
    obtain ⟨q142, hr140, hp141⟩ := bind_some' hp136
    rcases q142 with pe143 | ⟨t137, t138, t139⟩
    ·skip
     try dsimp only at hp141
     obtain ⟨Z144, hz145, hS146, hs147, hb148⟩ := hS64.lendrow len_api_Node (by omega)
     refine r_callX (c := (cd27 [1, 0, 0, 1, 1, 1, 0, 0])) (i := 1) (d := (some 27)) (g := 34) (args := #[.pointer (some ⟨ba0, 0, none⟩)]) (by kernel_rfl) (by kernel_rfl) (by kernel_rfl) (by kernel_rfl) (cond_reader__opens.ok (⟨a0v.l, a0v.at_, a0v.last, a0v.depth, a0v.c⟩ : cond_reader) ba0 Aa0v_0 ca0v_0 Aa0v_4 ca0v_4 hS146 (ha0v_0.up hz145) hs147 hr140) ?_
     rintro _ w154 ⟨v149, Z150, hz151, rfl, hS152, he153⟩
     refine ⟨_, rfl, ?_⟩
     refine raised_fx Tryz.func27 ?_
     have hr156 := (hq20 _ (Option.some.inj hp141))
     cases hr156
     exact hR _ _ (panq_l ⟨v149, Z150, (Zm.Le.trans hz145 hz151), rfl, hS152, he153⟩)
    ·skip
     try dsimp only at hp141
     obtain ⟨Z157, hz158, hS159, hs160, hb161⟩ := hS64.lendrow len_api_Node (by omega)
     refine r_call1 (c := (cd27 [1, 0, 0, 1, 1, 1, 0, 0])) (i := 1) (d := (some 27)) (g := 34) (args := #[.pointer (some ⟨ba0, 0, none⟩)]) (by kernel_rfl) (by kernel_rfl) (by kernel_rfl) (by kernel_rfl) (cond_reader__opens.ok (⟨a0v.l, a0v.at_, a0v.last, a0v.depth, a0v.c⟩ : cond_reader) ba0 Aa0v_0 ca0v_0 Aa0v_4 ca0v_4 hS159 (ha0v_0.up hz158) hs160 hr140) ?_
     rintro _ w162 ⟨rfl, hS163⟩
     have hS164 : St w0 Z157 (xblk ba0 44 ([.slice Aa0v_0 a0v.l.length ca0v_0] ++ [.int .i64 t137] ++ (enc_api_Token t138) ++ [.int .i64 t139] ++ [.slice Aa0v_4 a0v.c.length ca0v_4]) :: fs) w162 := hS163
     refine ⟨.tuple #[], rfl, ?_⟩
     have hS165 := hb161 _ _ hS164
     refine sx_run 4 (todo' := [.inRegion (opsOf (cd27 [1, 0, 0, 1, 1, 1, 0, 1, 0])) [1, 2], .code (cd27 [1, 0, 0, 1, 1, 1, 0, 1, 1]), .inBlock 0, .code (cd27 [1, 1])]) (us := [(28, .pointer (some ⟨ba0, 0, none⟩))]) (by kernel_rfl) ?_
     obtain ⟨q178, hr176, hp177⟩ := bind_some' hp141
     rcases q178 with pe179 | ⟨t166, t167, t168, t169, t170, t171⟩
     ·skip
      try dsimp only at hp177
      have hS180 := hS165.pick1
      refine r_callX (c := (cd27 [1, 0, 0, 1, 1, 1, 0, 1, 0])) (i := 1) (d := (some 29)) (g := 10) (args := #[.pointer (some ⟨ba0, 0, none⟩)]) (by kernel_rfl) (by kernel_rfl) (by kernel_rfl) (by kernel_rfl) (cond_reader__cond_2.ok rec_cond_reader__not hrec_cond_reader__not (⟨a0v.l, t137, t138, t139, a0v.c⟩ : cond_reader) ba0 Aa0v_0 ca0v_0 Aa0v_4 ca0v_4 hS180 ha0v_0 hE hr176) ?_
      rintro _ w186 ⟨v181, Z182, hz183, rfl, hS184, he185⟩
      refine ⟨_, rfl, ?_⟩
      refine raised_fx Tryz.func27 ?_
      have hr188 := (hq20 _ (Option.some.inj hp177))
      cases hr188
      exact hR _ _ (panq_l ⟨v181, Z182, hz183, rfl, hS184, he185⟩)
     ·skip
      try dsimp only at hp177
      have hS191 := hS165.pick1
      refine r_call1 (c := (cd27 [1, 0, 0, 1, 1, 1, 0, 1, 0])) (i := 1) (d := (some 29)) (g := 10) (args := #[.pointer (some ⟨ba0, 0, none⟩)]) (by kernel_rfl) (by kernel_rfl) (by kernel_rfl) (by kernel_rfl) (cond_reader__cond_2.ok rec_cond_reader__not hrec_cond_reader__not (⟨a0v.l, t137, t138, t139, a0v.c⟩ : cond_reader) ba0 Aa0v_0 ca0v_0 Aa0v_4 ca0v_4 hS191 ha0v_0 hE hr176) ?_
      rintro _ w192 ⟨Q172, Q173, Q174, Q175, rfl, hS193, hs194⟩
      have hS195 : St w0 Z (xrow Q174 Q175 53 6 (t171.flatMap enc_api_Node) :: xblk ba0 44 ([.slice Q172 t167.length Q173] ++ [.int .i64 t168] ++ (enc_api_Token t169) ++ [.int .i64 t170] ++ [.slice Q174 t171.length Q175]) :: fs) w192 := hS193
      have hs196 : SlZ (flat enc_api_Token) 7 Z Q172 Q173 t167 := hs194
      refine ⟨.int .i64 t166, rfl, ?_⟩
      refine sx_run 5 (todo' := [.inRegion (opsOf (cd27 [1, 0, 0, 1, 1, 1, 0, 1, 1, 0])) [1], .code (cd27 [1, 0, 0, 1, 1, 1, 0, 1, 1, 1]), .inBlock 0, .code (cd27 [1, 1])]) (us := [(4, .int .i64 t166), (30, .pointer (some ⟨ba0, 0, none⟩))]) (by kernel_rfl) ?_
      obtain ⟨q201, hr199, hp200⟩ := bind_some' hp177
      rcases q201 with pe202 | ⟨t197, t198⟩
      ·skip
       try dsimp only at hp200
       obtain ⟨Z203, hz204, hS205, hs206, hb207⟩ := hS195.lendrow len_api_Node (by omega)
       refine r_callX (c := (cd27 [1, 0, 0, 1, 1, 1, 0, 1, 1, 0])) (i := 1) (d := (some 31)) (g := 35) (args := #[.pointer (some ⟨ba0, 0, none⟩), .string (⟨#[41]⟩ : ByteArray)]) (by kernel_rfl) (by kernel_rfl) (by kernel_rfl) (by kernel_rfl) (cond_reader__sign.ok (⟨t167, t168, t169, t170, t171⟩ : cond_reader) (⟨#[41]⟩ : ByteArray) ba0 Q172 Q173 Q174 Q175 hS205 (hs196.up hz204) hs206 hr199) ?_
       rintro _ w213 ⟨v208, Z209, hz210, rfl, hS211, he212⟩
       refine ⟨_, rfl, ?_⟩
       refine raised_fx Tryz.func27 ?_
       have hr215 := (hq20 _ (Option.some.inj hp200))
       cases hr215
       exact hR _ _ (panq_l ⟨v208, Z209, (Zm.Le.trans hz204 hz210), rfl, hS211, he212⟩)
      ·skip
       try dsimp only at hp200
       obtain ⟨Z216, hz217, hS218, hs219, hb220⟩ := hS195.lendrow len_api_Node (by omega)
       refine r_call1 (c := (cd27 [1, 0, 0, 1, 1, 1, 0, 1, 1, 0])) (i := 1) (d := (some 31)) (g := 35) (args := #[.pointer (some ⟨ba0, 0, none⟩), .string (⟨#[41]⟩ : ByteArray)]) (by kernel_rfl) (by kernel_rfl) (by kernel_rfl) (by kernel_rfl) (cond_reader__sign.ok (⟨t167, t168, t169, t170, t171⟩ : cond_reader) (⟨#[41]⟩ : ByteArray) ba0 Q172 Q173 Q174 Q175 hS218 (hs196.up hz217) hs219 hr199) ?_
       rintro _ w221 ⟨rfl, hS222⟩
       have hS223 : St w0 Z216 (xblk ba0 44 ([.slice Q172 t167.length Q173] ++ [.int .i64 t197] ++ (enc_api_Token t198) ++ [.int .i64 t170] ++ [.slice Q174 t171.length Q175]) :: fs) w221 := hS222
       refine ⟨.tuple #[], rfl, ?_⟩
       have hS224 := hb220 _ _ hS223
       refine sx_run 6 (todo' := [.inRegion (opsOf (cd27 [1, 0, 0, 1, 1, 1, 0, 1, 1, 1, 0])) [3, 4, 5, 6, 7], .code (cd27 [1, 0, 0, 1, 1, 1, 0, 1, 1, 1, 1]), .inBlock 0, .code (cd27 [1, 1])]) (us := [(32, .pointer (some ⟨ba0, 0, none⟩)), (33, .pointer (some ⟨ba0, 0, none⟩)), (34, .pointer (some ⟨ba0, 9, none⟩))]) (by kernel_rfl) ?_
       refine r_load (c := (cd27 [1, 0, 0, 1, 1, 1, 0, 1, 1, 1, 0])) (i := 3) (d := (some 35)) (ty := 3) (t := 3) (x := (.tmp 34)) (p := ⟨ba0, 9, none⟩) (v := .int .i64 t170) (by kernel_rfl) (by kernel_rfl) (by kernel_rfl) (loads_at 9 (hS224.blk 1 rfl) (by kernel_rfl) (by kernel_rfl)) ?_
       refine sx_run 3 (todo' := [.inRegion (opsOf (cd27 [1, 0, 0, 1, 1, 1, 0, 1, 1, 1, 0])) [7], .code (cd27 [1, 0, 0, 1, 1, 1, 0, 1, 1, 1, 1]), .inBlock 0, .code (cd27 [1, 1])]) (us := [(36, .int .i64 (IntKind.i64.wrap (t170 - 1))), (37, .pointer (some ⟨ba0, 0, none⟩)), (38, .pointer (some ⟨ba0, 9, none⟩))]) (by kernel_rfl) ?_
       have hS225 := hS224.pick1
       refine r_store (c := (cd27 [1, 0, 0, 1, 1, 1, 0, 1, 1, 1, 0])) (i := 7) (d := none) (ty := 0) (t := 3) (x := (.tmp 38)) (y := (.tmp 36)) (b := ba0) (o := 9) (e := 44) (cs := [.slice Q172 t167.length Q173] ++ [.int .i64 t197] ++ (enc_api_Token t198) ++ [.int .i64 t170] ++ [.slice Q174 t171.length Q175]) (v := .int .i64 (IntKind.i64.wrap (t170 - 1))) (vs := [.int .i64 (IntKind.i64.wrap (t170 - 1))]) (cs' := [.slice Q172 t167.length Q173] ++ [.int .i64 t197] ++ (enc_api_Token t198) ++ [.int .i64 (IntKind.i64.wrap (t170 - 1))] ++ [.slice Q174 t171.length Q175]) hS225 (by kernel_rfl) (by kernel_rfl) (by kernel_rfl) (by kernel_rfl) (by kernel_rfl) (by kernel_rfl) (by kernel_rfl) (Nat.le_of_ble_eq_true (by kernel_rfl)) (by kernel_rfl) ?_
       intro w226 hS227
       refine sx_run 6 (todo' := [.code (cd27 [1, 0, 0, 1, 1, 1, 0, 1, 1, 1, 1, 1]), .inBlock 0, .code (cd27 [1, 1])]) (us := [(39, .int .i64 t166), (2, .int .i64 t166)]) (by kernel_rfl) ?_
       have hS228 := hS227.pick1
       refine runs_ret (fn := Tryz.f27) (v := .int .i64 t166) Tryz.func27 (by kernel_rfl) ?_
       have hr229 := (hq20 _ (Option.some.inj hp200))
       cases hr229
       exact hR _ _ (panq_r ⟨Q172, Q173, Q174, Q175, rfl, hS228, hs196⟩)
  ·skip
   have hp230 := ite_t hv16 rfl
   refine sx_run 4 (todo' := [.inRegion (opsOf (cd27 [1, 0, 0, 1, 0, 0])) [1], .code (cd27 [1, 0, 0, 1, 0, 1]), .inBlock 0, .code (cd27 [1, 1])]) (us := [(8, .pointer (some ⟨ba0, 0, none⟩))]) (by kernel_rfl) ?_
   obtain ⟨q236, hr234, hp235⟩ := bind_some' hp230
   rcases q236 with pe237 | ⟨t231, t232, t233⟩
   ·skip
    try dsimp only at hp235
    obtain ⟨Z238, hz239, hS240, hs241, hb242⟩ := hS14.lendrow len_api_Node (by omega)
    refine r_callX (c := (cd27 [1, 0, 0, 1, 0, 0])) (i := 1) (d := (some 9)) (g := 34) (args := #[.pointer (some ⟨ba0, 0, none⟩)]) (by kernel_rfl) (by kernel_rfl) (by kernel_rfl) (by kernel_rfl) (cond_reader__opens.ok (⟨a0v.l, a0v.at_, a0v.last, a0v.depth, a0v.c⟩ : cond_reader) ba0 Aa0v_0 ca0v_0 Aa0v_4 ca0v_4 hS240 (ha0v_0.up hz239) hs241 hr234) ?_
    rintro _ w248 ⟨v243, Z244, hz245, rfl, hS246, he247⟩
    refine ⟨_, rfl, ?_⟩
    refine raised_fx Tryz.func27 ?_
    have hr250 := (hq20 _ (Option.some.inj hp235))
    cases hr250
    exact hR _ _ (panq_l ⟨v243, Z244, (Zm.Le.trans hz239 hz245), rfl, hS246, he247⟩)
   ·skip
    try dsimp only at hp235
    obtain ⟨Z251, hz252, hS253, hs254, hb255⟩ := hS14.lendrow len_api_Node (by omega)
    refine r_call1 (c := (cd27 [1, 0, 0, 1, 0, 0])) (i := 1) (d := (some 9)) (g := 34) (args := #[.pointer (some ⟨ba0, 0, none⟩)]) (by kernel_rfl) (by kernel_rfl) (by kernel_rfl) (by kernel_rfl) (cond_reader__opens.ok (⟨a0v.l, a0v.at_, a0v.last, a0v.depth, a0v.c⟩ : cond_reader) ba0 Aa0v_0 ca0v_0 Aa0v_4 ca0v_4 hS253 (ha0v_0.up hz252) hs254 hr234) ?_
    rintro _ w256 ⟨rfl, hS257⟩
    have hS258 : St w0 Z251 (xblk ba0 44 ([.slice Aa0v_0 a0v.l.length ca0v_0] ++ [.int .i64 t231] ++ (enc_api_Token t232) ++ [.int .i64 t233] ++ [.slice Aa0v_4 a0v.c.length ca0v_4]) :: fs) w256 := hS257
    refine ⟨.tuple #[], rfl, ?_⟩
    have hS259 := hb255 _ _ hS258
    refine sx_run 4 (todo' := [.inRegion (opsOf (cd27 [1, 0, 0, 1, 0, 1, 0])) [1, 2], .code (cd27 [1, 0, 0, 1, 0, 1, 1]), .inBlock 0, .code (cd27 [1, 1])]) (us := [(10, .pointer (some ⟨ba0, 0, none⟩))]) (by kernel_rfl) ?_
    obtain ⟨q272, hr270, hp271⟩ := bind_some' hp235
    rcases q272 with pe273 | ⟨t260, t261, t262, t263, t264, t265⟩
    ·skip
     try dsimp only at hp271
     have hS274 := hS259.pick1
     refine r_callX (c := (cd27 [1, 0, 0, 1, 0, 1, 0])) (i := 1) (d := (some 11)) (g := 27) (args := #[.pointer (some ⟨ba0, 0, none⟩)]) (by kernel_rfl) (by kernel_rfl) (by kernel_rfl) (by kernel_rfl) (hrec_cond_reader__not (⟨a0v.l, t231, t232, t233, a0v.c⟩ : cond_reader) ba0 Aa0v_0 ca0v_0 Aa0v_4 ca0v_4 hS274 ha0v_0 hE hr270) ?_
     rintro _ w280 ⟨v275, Z276, hz277, rfl, hS278, he279⟩
     refine ⟨_, rfl, ?_⟩
     refine raised_fx Tryz.func27 ?_
     have hr282 := (hq20 _ (Option.some.inj hp271))
     cases hr282
     exact hR _ _ (panq_l ⟨v275, Z276, hz277, rfl, hS278, he279⟩)
    ·skip
     try dsimp only at hp271
     have hS285 := hS259.pick1
     refine r_call1 (c := (cd27 [1, 0, 0, 1, 0, 1, 0])) (i := 1) (d := (some 11)) (g := 27) (args := #[.pointer (some ⟨ba0, 0, none⟩)]) (by kernel_rfl) (by kernel_rfl) (by kernel_rfl) (by kernel_rfl) (hrec_cond_reader__not (⟨a0v.l, t231, t232, t233, a0v.c⟩ : cond_reader) ba0 Aa0v_0 ca0v_0 Aa0v_4 ca0v_4 hS285 ha0v_0 hE hr270) ?_
     rintro _ w286 ⟨Q266, Q267, Q268, Q269, rfl, hS287, hs288⟩
     have hS289 : St w0 Z (xrow Q268 Q269 53 6 (t265.flatMap enc_api_Node) :: xblk ba0 44 ([.slice Q266 t261.length Q267] ++ [.int .i64 t262] ++ (enc_api_Token t263) ++ [.int .i64 t264] ++ [.slice Q268 t265.length Q269]) :: fs) w286 := hS287
     have hs290 : SlZ (flat enc_api_Token) 7 Z Q266 Q267 t261 := hs288
     refine ⟨.int .i64 t260, rfl, ?_⟩
     refine sx_run 7 (todo' := [.inRegion (opsOf (cd27 [1, 0, 0, 1, 0, 1, 1, 0])) [3, 4, 5, 6, 7], .code (cd27 [1, 0, 0, 1, 0, 1, 1, 1]), .inBlock 0, .code (cd27 [1, 1])]) (us := [(3, .int .i64 t260), (12, .pointer (some ⟨ba0, 0, none⟩)), (13, .pointer (some ⟨ba0, 0, none⟩)), (14, .pointer (some ⟨ba0, 9, none⟩))]) (by kernel_rfl) ?_
     refine r_load (c := (cd27 [1, 0, 0, 1, 0, 1, 1, 0])) (i := 3) (d := (some 15)) (ty := 3) (t := 3) (x := (.tmp 14)) (p := ⟨ba0, 9, none⟩) (v := .int .i64 t264) (by kernel_rfl) (by kernel_rfl) (by kernel_rfl) (loads_at 9 (hS289.blk 1 rfl) (by kernel_rfl) (by kernel_rfl)) ?_
     refine sx_run 3 (todo' := [.inRegion (opsOf (cd27 [1, 0, 0, 1, 0, 1, 1, 0])) [7], .code (cd27 [1, 0, 0, 1, 0, 1, 1, 1]), .inBlock 0, .code (cd27 [1, 1])]) (us := [(16, .int .i64 (IntKind.i64.wrap (t264 - 1))), (17, .pointer (some ⟨ba0, 0, none⟩)), (18, .pointer (some ⟨ba0, 9, none⟩))]) (by kernel_rfl) ?_
     have hS291 := hS289.pick1
     refine r_store (c := (cd27 [1, 0, 0, 1, 0, 1, 1, 0])) (i := 7) (d := none) (ty := 0) (t := 3) (x := (.tmp 18)) (y := (.tmp 16)) (b := ba0) (o := 9) (e := 44) (cs := [.slice Q266 t261.length Q267] ++ [.int .i64 t262] ++ (enc_api_Token t263) ++ [.int .i64 t264] ++ [.slice Q268 t265.length Q269]) (v := .int .i64 (IntKind.i64.wrap (t264 - 1))) (vs := [.int .i64 (IntKind.i64.wrap (t264 - 1))]) (cs' := [.slice Q266 t261.length Q267] ++ [.int .i64 t262] ++ (enc_api_Token t263) ++ [.int .i64 (IntKind.i64.wrap (t264 - 1))] ++ [.slice Q268 t265.length Q269]) hS291 (by kernel_rfl) (by kernel_rfl) (by kernel_rfl) (by kernel_rfl) (by kernel_rfl) (by kernel_rfl) (by kernel_rfl) (Nat.le_of_ble_eq_true (by kernel_rfl)) (by kernel_rfl) ?_
     intro w292 hS293
     refine sx_run 6 (todo' := [.inRegion (opsOf (cd27 [1, 0, 0, 1, 0, 1, 1, 1, 0])) [3, 4], .code (cd27 [1, 0, 0, 1, 0, 1, 1, 1, 1]), .inBlock 0, .code (cd27 [1, 1])]) (us := [(19, .pointer (some ⟨ba0, 0, none⟩)), (20, .int .i64 t260), (21, .agg (enc_api_Node (⟨3, t260, 0, (⟨0, (⟨#[]⟩ : ByteArray)⟩ : api_Ref), 0⟩ : api_Node)).toArray)]) (by kernel_rfl) ?_
     obtain ⟨q300, hr298, hp299⟩ := bind_some' hp271
     rcases q300 with pe301 | ⟨t294, t295⟩
     ·skip
      try dsimp only at hp299
      have hS302 := hS293.pick1
      have hS303 := hS302.pick1
      refine r_callX (c := (cd27 [1, 0, 0, 1, 0, 1, 1, 1, 0])) (i := 3) (d := (some 22)) (g := 26) (args := #[.pointer (some ⟨ba0, 0, none⟩), .agg (enc_api_Node (⟨3, t260, 0, (⟨0, (⟨#[]⟩ : ByteArray)⟩ : api_Ref), 0⟩ : api_Node)).toArray]) (by kernel_rfl) (by kernel_rfl) (by kernel_rfl) (by kernel_rfl) (cond_reader__node.ok (⟨t261, t262, t263, (IntKind.i64.wrap (t264 - 1)), t265⟩ : cond_reader) (⟨3, t260, 0, (⟨0, (⟨#[]⟩ : ByteArray)⟩ : api_Ref), 0⟩ : api_Node) ba0 Q266 Q267 Q268 Q269 hS303 hs290 hr298) ?_
      rintro _ w309 ⟨v304, Z305, hz306, rfl, hS307, he308⟩
      refine ⟨_, rfl, ?_⟩
      refine raised_fx Tryz.func27 ?_
      have hr311 := (hq20 _ (Option.some.inj hp299))
      cases hr311
      exact hR _ _ (panq_l ⟨v304, Z305, hz306, rfl, hS307, he308⟩)
     ·skip
      try dsimp only at hp299
      have hS313 := hS293.pick1
      have hS314 := hS313.pick1
      refine r_call1 (c := (cd27 [1, 0, 0, 1, 0, 1, 1, 1, 0])) (i := 3) (d := (some 22)) (g := 26) (args := #[.pointer (some ⟨ba0, 0, none⟩), .agg (enc_api_Node (⟨3, t260, 0, (⟨0, (⟨#[]⟩ : ByteArray)⟩ : api_Ref), 0⟩ : api_Node)).toArray]) (by kernel_rfl) (by kernel_rfl) (by kernel_rfl) (by kernel_rfl) (cond_reader__node.ok (⟨t261, t262, t263, (IntKind.i64.wrap (t264 - 1)), t265⟩ : cond_reader) (⟨3, t260, 0, (⟨0, (⟨#[]⟩ : ByteArray)⟩ : api_Ref), 0⟩ : api_Node) ba0 Q266 Q267 Q268 Q269 hS314 hs290 hr298) ?_
      rintro _ w315 ⟨Q296, Q297, rfl, hS316⟩
      have hS317 : St w0 Z (xrow Q296 Q297 53 6 (t295.flatMap enc_api_Node) :: xblk ba0 44 ([.slice Q266 t261.length Q267] ++ [.int .i64 t262] ++ (enc_api_Token t263) ++ [.int .i64 (IntKind.i64.wrap (t264 - 1))] ++ [.slice Q296 t295.length Q297]) :: fs) w315 := hS316
      refine ⟨.int .i64 t294, rfl, ?_⟩
      refine sx_run 2 (todo' := [.code (cd27 [1, 0, 0, 1, 0, 1, 1, 1, 1]), .inBlock 0, .code (cd27 [1, 1])]) (us := [(2, .int .i64 t294)]) (by kernel_rfl) ?_
      refine runs_ret (fn := Tryz.f27) (v := .int .i64 t294) Tryz.func27 (by kernel_rfl) ?_
      have hr318 := (hq20 _ (Option.some.inj hp299))
      cases hr318
      exact hR _ _ (panq_r ⟨Q266, Q267, Q296, Q297, rfl, hS317, hs290⟩)
def cond_reader__not.f : Nat → cond_reader → Option (Sum PErr (Int × (List api_Token) × Int × api_Token × Int × (List api_Node)))
  | 0 => fun _ => none
  | n + 1 => cond_reader__not.body (cond_reader__not.f n)
theorem cond_reader__not.all : ∀ n, cond_reader__not.Spec (cond_reader__not.f n)
  | 0 => by
    intro a0v ba0 Aa0v_0 ca0v_0 Aa0v_4 ca0v_4 w0 Z fs w hS0 ha0v_0 hE qr hp0
    cases hp0
  | n + 1 => cond_reader__not.bok (cond_reader__not.f n) (cond_reader__not.all n)
theorem cond_reader__not.ok : cond_reader__not.Spec (cond_reader__not.f fuelN) := cond_reader__not.all fuelN

noncomputable def cd9 (p : List Nat) : Code := sub (bodyOf Tryz.f9) p
def cond_Take_1.f (a0v : List api_Node) (a1v : Int) (pe : PErr) : Option ((List api_Node) × Int × PErr) :=
  (PErr.cas pe (none) (fun n1 => none) (fun n2 n3 n4 => some (([], 0, (.pos n2 n3 n4)))))
set_option maxHeartbeats 16000000 in
theorem cond_Take_1.ok (a0v : List api_Node) (a1v : Int) (pe : PErr) (ba0 : Nat) (Aa0v : Option Addr) (ca0v : Nat) (ba1 : Nat) (ba2 : Nat) (pv : Value) {w0 : World} {Z : Zm} {fs : List XObj} {w : World} (hS0 : St w0 Z (xblk ba0 26 ([.slice Aa0v a0v.length ca0v]) :: xblk ba1 3 ([.int .i64 a1v]) :: xblk ba2 28 ([.nilIface]) :: fs) w) (ha0v : SlZ (flat enc_api_Node) 6 Z Aa0v ca0v a0v) (hpe : RepE 39 40 Z pv pe) {q0 : List api_Node} {q1 : Int} {q2 : PErr} (hp0 : cond_Take_1.f a0v a1v pe = some (q0, q1, q2)) :
    CallsD Tryz.prog 9 #[.pointer (some ⟨ba0, 0, none⟩), .pointer (some ⟨ba1, 0, none⟩), .pointer (some ⟨ba2, 0, none⟩)] (.panicking [{ v := pv, recovered := false }]) w (fun e v w' => v = .panicking [{ v := pv, recovered := true }] ∧ ∃ (QA0 : Option Addr) (Qc0 : Nat) (Qv2 : Value), e = .returned (.tuple #[]) ∧ St w0 Z (xrow QA0 Qc0 53 6 (q0.flatMap enc_api_Node) :: xblk ba0 26 ([.slice QA0 q0.length Qc0]) :: xblk ba1 3 ([.int .i64 q1]) :: xblk ba2 28 ([Qv2]) :: fs) w' ∧ RepE 39 40 Z Qv2 q2) := by
  refine callsD_abs ?_; intro R hR
  unfold cond_Take_1.f at hp0
  refine callsD_of_runs (fn := Tryz.f9) (c := cd9 []) Tryz.func9 (by kernel_rfl) (al := [.pointer (some ⟨ba0, 0, none⟩), .pointer (some ⟨ba1, 0, none⟩), .pointer (some ⟨ba2, 0, none⟩)]) rfl (n := 16) rfl ?_
  refine sx_run 2 (todo' := [.inRegion (opsOf (cd9 [0])) [0, 1], .code (cd9 [1])]) (us := []) (by kernel_rfl) ?_
  refine r_recover (c := (cd9 [0])) (i := 0) (d := (some 6)) (by kernel_rfl) (by kernel_rfl) (by kernel_rfl) (by kernel_rfl) ?_
  refine sx_run 5 (todo' := [.inRegion (opsOf (cd9 [1, 0])) [1], .code (cd9 [1, 1])]) (us := [(3, pv), (7, pv)]) (by kernel_rfl) ?_
  rcases pe with _ | n1 | ⟨n2, n3, n4⟩
  ·skip
   have hp5 := cas_nil hp0
   have hpe : pv = .nilIface := hpe
   subst hpe
   cases hp5
  ·skip
   have hp6 := cas_num hp0
   have hpe : pv = .iface 39 (.int .i64 n1) := hpe
   subst hpe
   refine sx_run 22 (todo' := [.inRegion (opsOf (cd9 [1, 1, 0, 1, 0, 1, 0])) [1], .code (cd9 [1, 1, 0, 1, 1])]) (us := [(8, .bool true), (10, .iface 39 (.int .i64 n1)), (11, .tuple #[.pointer none, .bool false]), (9, .tuple #[.pointer none, .bool false]), (12, .pointer none), (13, .bool false), (4, .pointer none), (5, .bool false), (14, .bool false), (15, .bool true), (16, .iface 39 (.int .i64 n1))]) (by kernel_rfl) ?_
   cases hp6
  ·skip
   have hp7 := cas_pos hp0
   obtain ⟨b8, hpe, hs9⟩ := hpe
   subst hpe
   refine sx_run 24 (todo' := [.inRegion (opsOf (cd9 [1, 1, 0, 1, 1])) [2, 3, 4]]) (us := [(8, .bool true), (10, .iface 40 (.pointer (some ⟨b8, 0, none⟩))), (11, .tuple #[.pointer (some ⟨b8, 0, none⟩), .bool true]), (9, .tuple #[.pointer (some ⟨b8, 0, none⟩), .bool true]), (12, .pointer (some ⟨b8, 0, none⟩)), (13, .bool true), (4, .pointer (some ⟨b8, 0, none⟩)), (5, .bool true), (14, .bool true), (15, .bool false), (17, .pointer (some ⟨b8, 0, none⟩)), (18, .iface 40 (.pointer (some ⟨b8, 0, none⟩)))]) (by kernel_rfl) ?_
   refine r_store (c := (cd9 [1, 1, 0, 1, 1])) (i := 2) (d := none) (ty := 0) (t := 26) (x := (.tmp 0)) (y := (.const (.slice none 0 0))) (b := ba0) (o := 0) (e := 26) (cs := [.slice Aa0v a0v.length ca0v]) (v := .slice none 0 0) (vs := [.slice none 0 0]) (cs' := [.slice none 0 0]) hS0 (by kernel_rfl) (by kernel_rfl) (by kernel_rfl) (by kernel_rfl) (by kernel_rfl) (by kernel_rfl) (by kernel_rfl) (Nat.le_of_ble_eq_true (by kernel_rfl)) (by kernel_rfl) ?_
   intro w11 hS12
   have hS13 := hS12.pick1
   refine r_store (c := (cd9 [1, 1, 0, 1, 1])) (i := 3) (d := none) (ty := 0) (t := 3) (x := (.tmp 1)) (y := (.const (.int .i64 0))) (b := ba1) (o := 0) (e := 3) (cs := [.int .i64 a1v]) (v := .int .i64 0) (vs := [.int .i64 0]) (cs' := [.int .i64 0]) hS13 (by kernel_rfl) (by kernel_rfl) (by kernel_rfl) (by kernel_rfl) (by kernel_rfl) (by kernel_rfl) (by kernel_rfl) (Nat.le_of_ble_eq_true (by kernel_rfl)) (by kernel_rfl) ?_
   intro w14 hS15
   have hS16 := hS15.pick2
   refine r_store (c := (cd9 [1, 1, 0, 1, 1])) (i := 4) (d := none) (ty := 0) (t := 28) (x := (.tmp 2)) (y := (.tmp 18)) (b := ba2) (o := 0) (e := 28) (cs := [.nilIface]) (v := .iface 40 (.pointer (some ⟨b8, 0, none⟩))) (vs := [.iface 40 (.pointer (some ⟨b8, 0, none⟩))]) (cs' := [.iface 40 (.pointer (some ⟨b8, 0, none⟩))]) hS16 (by kernel_rfl) (by kernel_rfl) (by kernel_rfl) (by kernel_rfl) (by kernel_rfl) (by kernel_rfl) (by kernel_rfl) (Nat.le_of_ble_eq_true (by kernel_rfl)) (by kernel_rfl) ?_
   intro w17 hS18
   refine sx_run 1 (todo' := []) (us := []) (by kernel_rfl) ?_
   have hS20 := hS18.nilrow none 53 6
   have hS22 := hS20.pick1
   have hS23 := hS22.pick2
   have hS24 := hS23.pick3
   have hS25 := hS24.pick3
   refine runsD_end (fn := Tryz.f9) (v := .tuple #[]) Tryz.func9 (by kernel_rfl) ?_
   have hr26 := (Option.some.inj hp7)
   cases hr26
   exact hR _ _ ⟨none, 0, (.iface 40 (.pointer (some ⟨b8, 0, none⟩))), rfl, hS25, (RepE.of_pos hs9)⟩

def cond_Take_1_1.f (a0v : List api_Node) (a1v : Int) : Option Unit :=
  some (())
set_option maxHeartbeats 16000000 in
theorem cond_Take_1_1.ok (a0v : List api_Node) (a1v : Int) (ba0 : Nat) (Aa0v : Option Addr) (ca0v : Nat) (ba1 : Nat) (ba2 : Nat) {w0 : World} {Z : Zm} {fs : List XObj} {w : World} (hS0 : St w0 Z (xblk ba0 26 ([.slice Aa0v a0v.length ca0v]) :: xblk ba1 3 ([.int .i64 a1v]) :: xblk ba2 28 ([.nilIface]) :: fs) w) (ha0v : SlZ (flat enc_api_Node) 6 Z Aa0v ca0v a0v) (hp0 : cond_Take_1_1.f a0v a1v = some ()) :
    CallsD Tryz.prog 9 #[.pointer (some ⟨ba0, 0, none⟩), .pointer (some ⟨ba1, 0, none⟩), .pointer (some ⟨ba2, 0, none⟩)] (.returning) w (fun e v w' => v = .returning ∧ e = .returned (.tuple #[]) ∧ St w0 Z (xblk ba0 26 ([.slice Aa0v a0v.length ca0v]) :: xblk ba1 3 ([.int .i64 a1v]) :: xblk ba2 28 ([.nilIface]) :: fs) w') := by
  refine callsD_abs ?_; intro R hR
  unfold cond_Take_1_1.f at hp0
  refine callsD_of_runs (fn := Tryz.f9) (c := cd9 []) Tryz.func9 (by kernel_rfl) (al := [.pointer (some ⟨ba0, 0, none⟩), .pointer (some ⟨ba1, 0, none⟩), .pointer (some ⟨ba2, 0, none⟩)]) rfl (n := 16) rfl ?_
  refine sx_run 2 (todo' := [.inRegion (opsOf (cd9 [0])) [0, 1], .code (cd9 [1])]) (us := []) (by kernel_rfl) ?_
  refine r_recover0 (c := (cd9 [0])) (i := 0) (d := (some 6)) (by kernel_rfl) (by kernel_rfl) (by kernel_rfl) (by kernel_rfl) ?_
  refine sx_run 9 (todo' := []) (us := [(3, .nilIface), (7, .nilIface), (8, .bool false)]) (by kernel_rfl) ?_
  refine runsD_end (fn := Tryz.f9) (v := .tuple #[]) Tryz.func9 (by kernel_rfl) ?_
  have hr1 := (Option.some.inj hp0)
  cases hr1
  exact hR _ _ ⟨rfl, hS0⟩

noncomputable def cd4 (p : List Nat) : Code := sub (bodyOf Tryz.f4) p
def cond_Take.f (a0 : List api_Token) (a1 : Int) : Option ((List api_Node) × Int × PErr) :=
  (if (decide (a1 < 0)) = true then some (([], 0, (.num 4))) else (if (decide (a1 > (a0.length : Int))) = true then some (([], 0, (.num 4))) else (cond_reader__cond_2.f (cond_reader__not.f fuelN) (⟨a0, a1, (⟨0, (⟨#[]⟩ : ByteArray), 0, 0, 0, 0, 0⟩ : api_Token), 0, ([] : List api_Node)⟩ : cond_reader) >>= (fun | .inl pe78 => (cond_Take_1.f ([] : List api_Node) 0 pe78 >>= (fun (t87, t88, t89) => some ((t87, t88, t89)))) | .inr (t65, t66, t67, t68, t69, t70) => (cond_Take_1_1.f t70 t67 >>= (fun _ => some ((t70, t67, .nil))))))))
set_option maxHeartbeats 16000000 in
theorem cond_Take.ok (a0 : List api_Token) (a1 : Int) (Aa0 : Option Addr) (ca0 : Nat) {w0 : World} {Z : Zm} {fs : List XObj} {w : World} (hS0 : St w0 Z (fs) w) (ha0 : SlZ (flat enc_api_Token) 7 Z Aa0 ca0 a0) (hE : Env Z) {q0 : List api_Node} {q1 : Int} {q2 : PErr} (hp0 : cond_Take.f a0 a1 = some (q0, q1, q2)) :
    Calls Tryz.prog 4 #[.slice Aa0 a0.length ca0, .int .i64 a1] w (fun e w' => ∃ (QA0 : Option Addr) (Qc0 : Nat) (Qv2 : Value) (Z' : Zm), Zm.Le Z Z' ∧ e = .returned (.tuple #[.slice QA0 q0.length Qc0, .int .i64 q1, Qv2]) ∧ St w0 Z' (xrow QA0 Qc0 53 6 (q0.flatMap enc_api_Node) :: fs) w' ∧ RepE 39 40 Z' Qv2 q2) := by
  refine calls_abs ?_; intro R hR
  unfold cond_Take.f at hp0
  refine calls_of_runs (fn := Tryz.f4) (c := cd4 []) Tryz.func4 (by kernel_rfl) (al := [.slice Aa0 a0.length ca0, .int .i64 a1]) rfl (n := 30) rfl ?_
  refine sx_run 2 (todo' := [.inRegion (opsOf (cd4 [0])) [0, 1, 2], .code (cd4 [1])]) (us := []) (by kernel_rfl) ?_
  refine r_alloc (c := (cd4 [0])) (i := 0) (d := (some 4)) (ty := 0) (z := .slice none 0 0) (t := 26) (cs := [.slice none 0 0]) hS0 (by kernel_rfl) (by kernel_rfl) (by kernel_rfl) (by kernel_rfl) ?_
  intro b1 w2 hS3
  refine r_alloc (c := (cd4 [0])) (i := 1) (d := (some 5)) (ty := 0) (z := .int .i64 0) (t := 3) (cs := [.int .i64 0]) hS3 (by kernel_rfl) (by kernel_rfl) (by kernel_rfl) (by kernel_rfl) ?_
  intro b5 w6 hS7
  refine r_alloc (c := (cd4 [0])) (i := 2) (d := (some 6)) (ty := 0) (z := .nilIface) (t := 28) (cs := [.nilIface]) hS7 (by kernel_rfl) (by kernel_rfl) (by kernel_rfl) (by kernel_rfl) ?_
  intro b9 w10 hS11
  refine sx_split 6 (todo' := [.inRegion (opsOf (cd4 [1, 0, 0])) [2, 3, 4, 5, 6, 7], .code (cd4 [1, 0, 1]), .code (cd4 [1, 1])]) (us := [(8, .int .i64 a1)]) (d := 9) (t := (decide (a1 < 0))) (by kernel_rfl) (fun h13 => ?_) (fun h14 => ?_)
  ·skip
   have hp15 := ite_t hp0 h13
   refine sx_run 11 (todo' := [.inRegion (opsOf (cd4 [1, 0, 1, 0, 0])) [1, 2, 3], .code (cd4 [1, 0, 1, 0, 1]), .code (cd4 [1, 1])]) (us := [(10, .bool true), (11, undef), (12, undef), (13, undef), (14, undef), (15, .bool true), (16, .iface 39 (.int .i64 4))]) (by kernel_rfl) ?_
   have hS16 := hS11.pick2
   refine r_store (c := (cd4 [1, 0, 1, 0, 0])) (i := 1) (d := none) (ty := 0) (t := 26) (x := (.tmp 4)) (y := (.const (.slice none 0 0))) (b := b1) (o := 0) (e := 26) (cs := [.slice none 0 0]) (v := .slice none 0 0) (vs := [.slice none 0 0]) (cs' := [.slice none 0 0]) hS16 (by kernel_rfl) (by kernel_rfl) (by kernel_rfl) (by kernel_rfl) (by kernel_rfl) (by kernel_rfl) (by kernel_rfl) (Nat.le_of_ble_eq_true (by kernel_rfl)) (by kernel_rfl) ?_
   intro w17 hS18
   have hS19 := hS18.pick2
   refine r_store (c := (cd4 [1, 0, 1, 0, 0])) (i := 2) (d := none) (ty := 0) (t := 3) (x := (.tmp 5)) (y := (.const (.int .i64 0))) (b := b5) (o := 0) (e := 3) (cs := [.int .i64 0]) (v := .int .i64 0) (vs := [.int .i64 0]) (cs' := [.int .i64 0]) hS19 (by kernel_rfl) (by kernel_rfl) (by kernel_rfl) (by kernel_rfl) (by kernel_rfl) (by kernel_rfl) (by kernel_rfl) (Nat.le_of_ble_eq_true (by kernel_rfl)) (by kernel_rfl) ?_
   intro w20 hS21
   have hS22 := hS21.pick2
   refine r_store (c := (cd4 [1, 0, 1, 0, 0])) (i := 3) (d := none) (ty := 0) (t := 28) (x := (.tmp 6)) (y := (.tmp 16)) (b := b9) (o := 0) (e := 28) (cs := [.nilIface]) (v := .iface 39 (.int .i64 4)) (vs := [.iface 39 (.int .i64 4)]) (cs' := [.iface 39 (.int .i64 4)]) hS22 (by kernel_rfl) (by kernel_rfl) (by kernel_rfl) (by kernel_rfl) (by kernel_rfl) (by kernel_rfl) (by kernel_rfl) (Nat.le_of_ble_eq_true (by kernel_rfl)) (by kernel_rfl) ?_
   intro w23 hS24
   refine sx_run 1 (todo' := [.code (cd4 [1, 0, 1, 0, 1]), .code (cd4 [1, 1])]) (us := []) (by kernel_rfl) ?_
   have hS26 := hS24.nilrow none 53 6
   have hS28 := hS26.pick1
   have hS29 := hS28.drop
   have hS30 := hS29.pick1
   have hS31 := hS30.drop
   have hS32 := hS31.pick1
   have hS33 := hS32.drop
   refine runs_ret (fn := Tryz.f4) (v := .tuple #[.slice none 0 0, .int .i64 0, .iface 39 (.int .i64 4)]) Tryz.func4 (resl_run (fn := Tryz.f4) (by kernel_rfl) (.cell (t := 4) (ty := 26) (by kernel_rfl) (loads_at 0 (hS24.blk 2 rfl) (by kernel_rfl) (by kernel_rfl)) (.cell (t := 5) (ty := 3) (by kernel_rfl) (loads_at 0 (hS24.blk 1 rfl) (by kernel_rfl) (by kernel_rfl)) (.cell (t := 6) (ty := 28) (by kernel_rfl) (loads_at 0 (hS24.blk 0 rfl) (by kernel_rfl) (by kernel_rfl)) .nil)))) ?_
   have hr34 := (Option.some.inj hp15)
   cases hr34
   exact hR _ _ ⟨none, 0, (.iface 39 (.int .i64 4)), Z, (Zm.Le.refl _), rfl, hS33, (RepE.of_num)⟩
  ·skip
   have hp35 := ite_f hp0 h14
   refine sx_split 5 (todo' := [.inRegion (opsOf (cd4 [1, 0, 0])) [7], .code (cd4 [1, 0, 1]), .code (cd4 [1, 1])]) (us := [(10, .bool false), (11, .int .i64 a1), (12, .slice Aa0 a0.length ca0), (13, .int .i64 (a0.length : Int))]) (d := 14) (t := (decide (a1 > (a0.length : Int)))) (by kernel_rfl) (fun h36 => ?_) (fun h37 => ?_)
   ·skip
    have hp38 := ite_t hp35 h36
    refine sx_run 6 (todo' := [.inRegion (opsOf (cd4 [1, 0, 1, 0, 0])) [1, 2, 3], .code (cd4 [1, 0, 1, 0, 1]), .code (cd4 [1, 1])]) (us := [(15, .bool true), (16, .iface 39 (.int .i64 4))]) (by kernel_rfl) ?_
    have hS39 := hS11.pick2
    refine r_store (c := (cd4 [1, 0, 1, 0, 0])) (i := 1) (d := none) (ty := 0) (t := 26) (x := (.tmp 4)) (y := (.const (.slice none 0 0))) (b := b1) (o := 0) (e := 26) (cs := [.slice none 0 0]) (v := .slice none 0 0) (vs := [.slice none 0 0]) (cs' := [.slice none 0 0]) hS39 (by kernel_rfl) (by kernel_rfl) (by kernel_rfl) (by kernel_rfl) (by kernel_rfl) (by kernel_rfl) (by kernel_rfl) (Nat.le_of_ble_eq_true (by kernel_rfl)) (by kernel_rfl) ?_
    intro w40 hS41
    have hS42 := hS41.pick2
    refine r_store (c := (cd4 [1, 0, 1, 0, 0])) (i := 2) (d := none) (ty := 0) (t := 3) (x := (.tmp 5)) (y := (.const (.int .i64 0))) (b := b5) (o := 0) (e := 3) (cs := [.int .i64 0]) (v := .int .i64 0) (vs := [.int .i64 0]) (cs' := [.int .i64 0]) hS42 (by kernel_rfl) (by kernel_rfl) (by kernel_rfl) (by kernel_rfl) (by kernel_rfl) (by kernel_rfl) (by kernel_rfl) (Nat.le_of_ble_eq_true (by kernel_rfl)) (by kernel_rfl) ?_
    intro w43 hS44
    have hS45 := hS44.pick2
    refine r_store (c := (cd4 [1, 0, 1, 0, 0])) (i := 3) (d := none) (ty := 0) (t := 28) (x := (.tmp 6)) (y := (.tmp 16)) (b := b9) (o := 0) (e := 28) (cs := [.nilIface]) (v := .iface 39 (.int .i64 4)) (vs := [.iface 39 (.int .i64 4)]) (cs' := [.iface 39 (.int .i64 4)]) hS45 (by kernel_rfl) (by kernel_rfl) (by kernel_rfl) (by kernel_rfl) (by kernel_rfl) (by kernel_rfl) (by kernel_rfl) (Nat.le_of_ble_eq_true (by kernel_rfl)) (by kernel_rfl) ?_
    intro w46 hS47
    refine sx_run 1 (todo' := [.code (cd4 [1, 0, 1, 0, 1]), .code (cd4 [1, 1])]) (us := []) (by kernel_rfl) ?_
    have hS49 := hS47.nilrow none 53 6
    have hS51 := hS49.pick1
    have hS52 := hS51.drop
    have hS53 := hS52.pick1
    have hS54 := hS53.drop
    have hS55 := hS54.pick1
    have hS56 := hS55.drop
    refine runs_ret (fn := Tryz.f4) (v := .tuple #[.slice none 0 0, .int .i64 0, .iface 39 (.int .i64 4)]) Tryz.func4 (resl_run (fn := Tryz.f4) (by kernel_rfl) (.cell (t := 4) (ty := 26) (by kernel_rfl) (loads_at 0 (hS47.blk 2 rfl) (by kernel_rfl) (by kernel_rfl)) (.cell (t := 5) (ty := 3) (by kernel_rfl) (loads_at 0 (hS47.blk 1 rfl) (by kernel_rfl) (by kernel_rfl)) (.cell (t := 6) (ty := 28) (by kernel_rfl) (loads_at 0 (hS47.blk 0 rfl) (by kernel_rfl) (by kernel_rfl)) .nil)))) ?_
    have hr57 := (Option.some.inj hp38)
    cases hr57
    exact hR _ _ ⟨none, 0, (.iface 39 (.int .i64 4)), Z, (Zm.Le.refl _), rfl, hS56, (RepE.of_num)⟩
   ·skip
    have hp58 := ite_f hp35 h37
    refine sx_run 7 (todo' := [.inRegion (opsOf (cd4 [1, 1, 0])) [1], .code (cd4 [1, 1, 1])]) (us := [(15, .bool false), (17, .func (.func 9) #[] #[.pointer (some ⟨b1, 0, none⟩), .pointer (some ⟨b5, 0, none⟩), .pointer (some ⟨b9, 0, none⟩)])]) (by kernel_rfl) ?_
    refine r_defer (c := (cd4 [1, 1, 0])) (i := 1) (d := none) (dd := { target := .fn (.func 9) #[.pointer (some ⟨b1, 0, none⟩), .pointer (some ⟨b5, 0, none⟩), .pointer (some ⟨b9, 0, none⟩)], args := #[] }) (by kernel_rfl) (by kernel_rfl) (by kernel_rfl) (by kernel_rfl) ?_
    refine sx_run 6 (todo' := [.inRegion (opsOf (cd4 [1, 1, 1, 0])) [3, 4], .code (cd4 [1, 1, 1, 1])]) (us := [(18, .slice Aa0 a0.length ca0), (19, .int .i64 a1), (20, .agg ([.slice Aa0 a0.length ca0] ++ [.int .i64 a1] ++ (enc_api_Token (⟨0, (⟨#[]⟩ : ByteArray), 0, 0, 0, 0, 0⟩ : api_Token)) ++ [.int .i64 0] ++ [.slice none 0 0] : List Value).toArray)]) (by kernel_rfl) ?_
    refine r_box (c := (cd4 [1, 1, 1, 0])) (i := 3) (d := (some 21)) (ty := 42) (x := (.tmp 20)) (v := .agg ([.slice Aa0 a0.length ca0] ++ [.int .i64 a1] ++ (enc_api_Token (⟨0, (⟨#[]⟩ : ByteArray), 0, 0, 0, 0, 0⟩ : api_Token)) ++ [.int .i64 0] ++ [.slice none 0 0] : List Value).toArray) (t := 44) (cs := [.slice Aa0 a0.length ca0] ++ [.int .i64 a1] ++ (enc_api_Token (⟨0, (⟨#[]⟩ : ByteArray), 0, 0, 0, 0, 0⟩ : api_Token)) ++ [.int .i64 0] ++ [.slice none 0 0]) hS11 (by kernel_rfl) (by kernel_rfl) (by kernel_rfl) (by kernel_rfl) ?_
    intro b59 w60 hS61
    refine sx_run 5 (todo' := [.inRegion (opsOf (cd4 [1, 1, 1, 1, 0])) [1], .code (cd4 [1, 1, 1, 1, 1])]) (us := [(7, .pointer (some ⟨b59, 0, none⟩)), (22, .pointer (some ⟨b59, 0, none⟩))]) (by kernel_rfl) ?_
    have hS64 := hS61.nilrow none 53 6
    obtain ⟨q77, hr75, hp76⟩ := bind_some' hp58
    rcases q77 with pe78 | ⟨t65, t66, t67, t68, t69, t70⟩
    ·skip
     try dsimp only at hp76
     have hS79 := hS64.pick1
     refine r_callX (c := (cd4 [1, 1, 1, 1, 0])) (i := 1) (d := (some 23)) (g := 10) (args := #[.pointer (some ⟨b59, 0, none⟩)]) (by kernel_rfl) (by kernel_rfl) (by kernel_rfl) (by kernel_rfl) (cond_reader__cond_2.ok (cond_reader__not.f fuelN) cond_reader__not.ok (⟨a0, a1, (⟨0, (⟨#[]⟩ : ByteArray), 0, 0, 0, 0, 0⟩ : api_Token), 0, ([] : List api_Node)⟩ : cond_reader) b59 Aa0 ca0 none 0 hS79 ha0 hE hr75) ?_
     rintro _ w85 ⟨v80, Z81, hz82, rfl, hS83, he84⟩
     refine ⟨_, rfl, ?_⟩
     refine raised_ds Tryz.func4 ?_
     obtain ⟨⟨t87, t88, t89⟩, hr93, hp94⟩ := bind_some' hp76
     try dsimp only at hp94
     have hS97 := hS83.pick1
     have hS98 := hS97.pick2
     refine leaves_one (fun h => nomatch h) (by kernel_rfl) rfl (cond_Take_1.ok ([] : List api_Node) 0 pe78 b1 none 0 b5 b9 v80 hS98 (SlZ.nil _ _ _ _ _) he84 hr93) ?_
     rintro _ w99 ⟨Q90, Q91, Q92, rfl, hS100, hs101⟩
     refine ⟨⟨_, rfl⟩, ?_⟩
     have hS102 := hS100.pick1
     have hS103 := hS102.drop
     have hS104 := hS103.pick1
     have hS105 := hS104.drop
     have hS106 := hS105.pick1
     have hS107 := hS106.drop
     refine leaves_nil (v := .tuple #[.slice Q90 t87.length Q91, .int .i64 t88, Q92]) (resl_run (fn := Tryz.f4) (by kernel_rfl) (.cell (t := 4) (ty := 26) (by kernel_rfl) (loads_at 0 (hS100.blk 1 rfl) (by kernel_rfl) (by kernel_rfl)) (.cell (t := 5) (ty := 3) (by kernel_rfl) (loads_at 0 (hS100.blk 2 rfl) (by kernel_rfl) (by kernel_rfl)) (.cell (t := 6) (ty := 28) (by kernel_rfl) (loads_at 0 (hS100.blk 3 rfl) (by kernel_rfl) (by kernel_rfl)) .nil)))) ?_
     have hr108 := (Option.some.inj hp94)
     cases hr108
     exact hR _ _ ⟨Q90, Q91, Q92, Z81, hz82, rfl, hS107, hs101⟩
    ·skip
     try dsimp only at hp76
     have hS111 := hS64.pick1
     refine r_call1 (c := (cd4 [1, 1, 1, 1, 0])) (i := 1) (d := (some 23)) (g := 10) (args := #[.pointer (some ⟨b59, 0, none⟩)]) (by kernel_rfl) (by kernel_rfl) (by kernel_rfl) (by kernel_rfl) (cond_reader__cond_2.ok (cond_reader__not.f fuelN) cond_reader__not.ok (⟨a0, a1, (⟨0, (⟨#[]⟩ : ByteArray), 0, 0, 0, 0, 0⟩ : api_Token), 0, ([] : List api_Node)⟩ : cond_reader) b59 Aa0 ca0 none 0 hS111 ha0 hE hr75) ?_
     rintro _ w112 ⟨Q71, Q72, Q73, Q74, rfl, hS113, hs114⟩
     have hS115 : St w0 Z (xrow Q73 Q74 53 6 (t70.flatMap enc_api_Node) :: xblk b59 44 ([.slice Q71 t66.length Q72] ++ [.int .i64 t67] ++ (enc_api_Token t68) ++ [.int .i64 t69] ++ [.slice Q73 t70.length Q74]) :: xblk b9 28 ([.nilIface]) :: xblk b5 3 ([.int .i64 0]) :: xblk b1 26 ([.slice none 0 0]) :: fs) w112 := hS113
     have hs116 : SlZ (flat enc_api_Token) 7 Z Q71 Q72 t66 := hs114
     refine ⟨.int .i64 t65, rfl, ?_⟩
     refine sx_run 2 (todo' := [.code (cd4 [1, 1, 1, 1, 1, 0]), .code (cd4 [1, 1, 1, 1, 1, 1])]) (us := []) (by kernel_rfl) ?_
     refine r_drawnG (S := Option (Unit × Option (Unit × Option Unit))) (rank := (fun st => match st with | none => 0 | some (x117, none) => 1 | some (x117, some (x118, none)) => 2 | some (x117, some (x118, some x119)) => 3)) (C := (fun st w' => match st with | none => St w0 Z (xrow Q73 Q74 53 6 (t70.flatMap enc_api_Node) :: xblk b59 44 ([.slice Q71 t66.length Q72] ++ [.int .i64 t67] ++ (enc_api_Token t68) ++ [.int .i64 t69] ++ [.slice Q73 t70.length Q74]) :: xblk b9 28 ([.nilIface]) :: xblk b5 3 ([.int .i64 0]) :: xblk b1 26 ([.slice none 0 0]) :: fs) w' | some (x117, none) => St w0 Z (xblk b1 26 ([.slice Q73 t70.length Q74]) :: xrow Q73 Q74 53 6 (t70.flatMap enc_api_Node) :: xblk b59 44 ([.slice Q71 t66.length Q72] ++ [.int .i64 t67] ++ (enc_api_Token t68) ++ [.int .i64 t69] ++ [.slice Q73 t70.length Q74]) :: xblk b9 28 ([.nilIface]) :: xblk b5 3 ([.int .i64 0]) :: fs) w' | some (x117, some (x118, none)) => St w0 Z (xblk b5 3 ([.int .i64 t67]) :: xblk b1 26 ([.slice Q73 t70.length Q74]) :: xrow Q73 Q74 53 6 (t70.flatMap enc_api_Node) :: xblk b59 44 ([.slice Q71 t66.length Q72] ++ [.int .i64 t67] ++ (enc_api_Token t68) ++ [.int .i64 t69] ++ [.slice Q73 t70.length Q74]) :: xblk b9 28 ([.nilIface]) :: fs) w' | some (x117, some (x118, some x119)) => St w0 Z (xblk b9 28 ([.nilIface]) :: xblk b5 3 ([.int .i64 t67]) :: xblk b1 26 ([.slice Q73 t70.length Q74]) :: xrow Q73 Q74 53 6 (t70.flatMap enc_api_Node) :: xblk b59 44 ([.slice Q71 t66.length Q72] ++ [.int .i64 t67] ++ (enc_api_Token t68) ++ [.int .i64 t69] ++ [.slice Q73 t70.length Q74]) :: fs) w')) (v := (fun st => match st with | none => [.pointer (some ⟨b59, 0, none⟩), .pointer (some ⟨b59, 0, none⟩), .pointer (some ⟨b59, 10, none⟩), .slice Q73 t70.length Q74, .pointer (some ⟨b59, 0, none⟩), .pointer (some ⟨b59, 0, none⟩), .pointer (some ⟨b59, 1, none⟩), .int .i64 t67, undef, undef, undef] | some (x117, none) => [.pointer (some ⟨b59, 0, none⟩), .pointer (some ⟨b59, 0, none⟩), .pointer (some ⟨b59, 10, none⟩), .slice Q73 t70.length Q74, .pointer (some ⟨b59, 0, none⟩), .pointer (some ⟨b59, 0, none⟩), .pointer (some ⟨b59, 1, none⟩), .int .i64 t67, undef, undef, undef] | some (x117, some (x118, none)) => [.pointer (some ⟨b59, 0, none⟩), .pointer (some ⟨b59, 0, none⟩), .pointer (some ⟨b59, 10, none⟩), .slice Q73 t70.length Q74, .pointer (some ⟨b59, 0, none⟩), .pointer (some ⟨b59, 0, none⟩), .pointer (some ⟨b59, 1, none⟩), .int .i64 t67, undef, undef, undef] | some (x117, some (x118, some x119)) => [.pointer (some ⟨b59, 0, none⟩), .pointer (some ⟨b59, 0, none⟩), .pointer (some ⟨b59, 10, none⟩), .slice Q73 t70.length Q74, .pointer (some ⟨b59, 0, none⟩), .pointer (some ⟨b59, 0, none⟩), .pointer (some ⟨b59, 1, none⟩), .int .i64 t67, undef, undef, undef])) (c := (cd4 [1, 1, 1, 1, 1, 0])) (id := 6) none 8 11 [8, 9, 10] [0, 0, 0, 0, 0, 0, 0, 0, 0, 1, 2] [0, 0, 0, 0, 1, 1, 1, 1, 1, 2, 3] [] (by kernel_rfl) (by kernel_rfl) (by kernel_rfl) (by kernel_rfl) (by kernel_rfl) (by kernel_rfl) (by kernel_rfl) (by kernel_rfl) (by kernel_rfl) (by kernel_rfl) rfl hS115.drew ?_ ?_ ?_ ?_
     ·intro st w hC
      rcases st with _ | ⟨x117, _ | ⟨x118, _ | x119⟩⟩
      ·exact Nat.le_of_ble_eq_true rfl
      ·exact Nat.le_of_ble_eq_true rfl
      ·exact Nat.le_of_ble_eq_true rfl
      ·exact Nat.le_of_ble_eq_true rfl
     ·intro i hi he st w hC hr hu
      match i, hi, he with
      | 0, _, _ =>
       rcases st with _ | ⟨x117, _ | ⟨x118, _ | x119⟩⟩
       ·replace hC : St w0 Z (xrow Q73 Q74 53 6 (t70.flatMap enc_api_Node) :: xblk b59 44 ([.slice Q71 t66.length Q72] ++ [.int .i64 t67] ++ (enc_api_Token t68) ++ [.int .i64 t69] ++ [.slice Q73 t70.length Q74]) :: xblk b9 28 ([.nilIface]) :: xblk b5 3 ([.int .i64 0]) :: xblk b1 26 ([.slice none 0 0]) :: fs) w := hC
        exact does_pure (v := .pointer (some ⟨b59, 0, none⟩)) (by kernel_rfl) rfl hC
       ·exact absurd hu (Nat.not_le_of_gt (Nat.le_of_ble_eq_true rfl))
       ·exact absurd hu (Nat.not_le_of_gt (Nat.le_of_ble_eq_true rfl))
       ·exact absurd hu (Nat.not_le_of_gt (Nat.le_of_ble_eq_true rfl))
      | 1, _, _ =>
       rcases st with _ | ⟨x117, _ | ⟨x118, _ | x119⟩⟩
       ·replace hC : St w0 Z (xrow Q73 Q74 53 6 (t70.flatMap enc_api_Node) :: xblk b59 44 ([.slice Q71 t66.length Q72] ++ [.int .i64 t67] ++ (enc_api_Token t68) ++ [.int .i64 t69] ++ [.slice Q73 t70.length Q74]) :: xblk b9 28 ([.nilIface]) :: xblk b5 3 ([.int .i64 0]) :: xblk b1 26 ([.slice none 0 0]) :: fs) w := hC
        exact does_pure (v := .pointer (some ⟨b59, 0, none⟩)) (by kernel_rfl) rfl hC
       ·exact absurd hu (Nat.not_le_of_gt (Nat.le_of_ble_eq_true rfl))
       ·exact absurd hu (Nat.not_le_of_gt (Nat.le_of_ble_eq_true rfl))
       ·exact absurd hu (Nat.not_le_of_gt (Nat.le_of_ble_eq_true rfl))
      | 2, _, _ =>
       rcases st with _ | ⟨x117, _ | ⟨x118, _ | x119⟩⟩
       ·replace hC : St w0 Z (xrow Q73 Q74 53 6 (t70.flatMap enc_api_Node) :: xblk b59 44 ([.slice Q71 t66.length Q72] ++ [.int .i64 t67] ++ (enc_api_Token t68) ++ [.int .i64 t69] ++ [.slice Q73 t70.length Q74]) :: xblk b9 28 ([.nilIface]) :: xblk b5 3 ([.int .i64 0]) :: xblk b1 26 ([.slice none 0 0]) :: fs) w := hC
        exact does_pure (v := .pointer (some ⟨b59, 10, none⟩)) (by kernel_rfl) rfl hC
       ·exact absurd hu (Nat.not_le_of_gt (Nat.le_of_ble_eq_true rfl))
       ·exact absurd hu (Nat.not_le_of_gt (Nat.le_of_ble_eq_true rfl))
       ·exact absurd hu (Nat.not_le_of_gt (Nat.le_of_ble_eq_true rfl))
      | 3, _, _ =>
       rcases st with _ | ⟨x117, _ | ⟨x118, _ | x119⟩⟩
       ·replace hC : St w0 Z (xrow Q73 Q74 53 6 (t70.flatMap enc_api_Node) :: xblk b59 44 ([.slice Q71 t66.length Q72] ++ [.int .i64 t67] ++ (enc_api_Token t68) ++ [.int .i64 t69] ++ [.slice Q73 t70.length Q74]) :: xblk b9 28 ([.nilIface]) :: xblk b5 3 ([.int .i64 0]) :: xblk b1 26 ([.slice none 0 0]) :: fs) w := hC
        exact does_run (x_load (t := 26) (x := (.tmp 26)) (p := ⟨b59, 10, none⟩) (v := .slice Q73 t70.length Q74) (by kernel_rfl) (loads_at 10 (hC.blk 1 rfl) (by kernel_rfl) (by kernel_rfl)) (by kernel_rfl)) rfl hC
       ·exact absurd hu (Nat.not_le_of_gt (Nat.le_of_ble_eq_true rfl))
       ·exact absurd hu (Nat.not_le_of_gt (Nat.le_of_ble_eq_true rfl))
       ·exact absurd hu (Nat.not_le_of_gt (Nat.le_of_ble_eq_true rfl))
      | 4, _, _ =>
       rcases st with _ | ⟨x117, _ | ⟨x118, _ | x119⟩⟩
       ·replace hC : St w0 Z (xrow Q73 Q74 53 6 (t70.flatMap enc_api_Node) :: xblk b59 44 ([.slice Q71 t66.length Q72] ++ [.int .i64 t67] ++ (enc_api_Token t68) ++ [.int .i64 t69] ++ [.slice Q73 t70.length Q74]) :: xblk b9 28 ([.nilIface]) :: xblk b5 3 ([.int .i64 0]) :: xblk b1 26 ([.slice none 0 0]) :: fs) w := hC
        exact does_pure (v := .pointer (some ⟨b59, 0, none⟩)) (by kernel_rfl) rfl hC
       ·replace hC : St w0 Z (xblk b1 26 ([.slice Q73 t70.length Q74]) :: xrow Q73 Q74 53 6 (t70.flatMap enc_api_Node) :: xblk b59 44 ([.slice Q71 t66.length Q72] ++ [.int .i64 t67] ++ (enc_api_Token t68) ++ [.int .i64 t69] ++ [.slice Q73 t70.length Q74]) :: xblk b9 28 ([.nilIface]) :: xblk b5 3 ([.int .i64 0]) :: fs) w := hC
        exact does_pure (v := .pointer (some ⟨b59, 0, none⟩)) (by kernel_rfl) rfl hC
       ·exact absurd hu (Nat.not_le_of_gt (Nat.le_of_ble_eq_true rfl))
       ·exact absurd hu (Nat.not_le_of_gt (Nat.le_of_ble_eq_true rfl))
      | 5, _, _ =>
       rcases st with _ | ⟨x117, _ | ⟨x118, _ | x119⟩⟩
       ·replace hC : St w0 Z (xrow Q73 Q74 53 6 (t70.flatMap enc_api_Node) :: xblk b59 44 ([.slice Q71 t66.length Q72] ++ [.int .i64 t67] ++ (enc_api_Token t68) ++ [.int .i64 t69] ++ [.slice Q73 t70.length Q74]) :: xblk b9 28 ([.nilIface]) :: xblk b5 3 ([.int .i64 0]) :: xblk b1 26 ([.slice none 0 0]) :: fs) w := hC
        exact does_pure (v := .pointer (some ⟨b59, 0, none⟩)) (by kernel_rfl) rfl hC
       ·replace hC : St w0 Z (xblk b1 26 ([.slice Q73 t70.length Q74]) :: xrow Q73 Q74 53 6 (t70.flatMap enc_api_Node) :: xblk b59 44 ([.slice Q71 t66.length Q72] ++ [.int .i64 t67] ++ (enc_api_Token t68) ++ [.int .i64 t69] ++ [.slice Q73 t70.length Q74]) :: xblk b9 28 ([.nilIface]) :: xblk b5 3 ([.int .i64 0]) :: fs) w := hC
        exact does_pure (v := .pointer (some ⟨b59, 0, none⟩)) (by kernel_rfl) rfl hC
       ·exact absurd hu (Nat.not_le_of_gt (Nat.le_of_ble_eq_true rfl))
       ·exact absurd hu (Nat.not_le_of_gt (Nat.le_of_ble_eq_true rfl))
      | 6, _, _ =>
       rcases st with _ | ⟨x117, _ | ⟨x118, _ | x119⟩⟩
       ·replace hC : St w0 Z (xrow Q73 Q74 53 6 (t70.flatMap enc_api_Node) :: xblk b59 44 ([.slice Q71 t66.length Q72] ++ [.int .i64 t67] ++ (enc_api_Token t68) ++ [.int .i64 t69] ++ [.slice Q73 t70.length Q74]) :: xblk b9 28 ([.nilIface]) :: xblk b5 3 ([.int .i64 0]) :: xblk b1 26 ([.slice none 0 0]) :: fs) w := hC
        exact does_pure (v := .pointer (some ⟨b59, 1, none⟩)) (by kernel_rfl) rfl hC
       ·replace hC : St w0 Z (xblk b1 26 ([.slice Q73 t70.length Q74]) :: xrow Q73 Q74 53 6 (t70.flatMap enc_api_Node) :: xblk b59 44 ([.slice Q71 t66.length Q72] ++ [.int .i64 t67] ++ (enc_api_Token t68) ++ [.int .i64 t69] ++ [.slice Q73 t70.length Q74]) :: xblk b9 28 ([.nilIface]) :: xblk b5 3 ([.int .i64 0]) :: fs) w := hC
        exact does_pure (v := .pointer (some ⟨b59, 1, none⟩)) (by kernel_rfl) rfl hC
       ·exact absurd hu (Nat.not_le_of_gt (Nat.le_of_ble_eq_true rfl))
       ·exact absurd hu (Nat.not_le_of_gt (Nat.le_of_ble_eq_true rfl))
      | 7, _, _ =>
       rcases st with _ | ⟨x117, _ | ⟨x118, _ | x119⟩⟩
       ·replace hC : St w0 Z (xrow Q73 Q74 53 6 (t70.flatMap enc_api_Node) :: xblk b59 44 ([.slice Q71 t66.length Q72] ++ [.int .i64 t67] ++ (enc_api_Token t68) ++ [.int .i64 t69] ++ [.slice Q73 t70.length Q74]) :: xblk b9 28 ([.nilIface]) :: xblk b5 3 ([.int .i64 0]) :: xblk b1 26 ([.slice none 0 0]) :: fs) w := hC
        exact does_run (x_load (t := 3) (x := (.tmp 30)) (p := ⟨b59, 1, none⟩) (v := .int .i64 t67) (by kernel_rfl) (loads_at 1 (hC.blk 1 rfl) (by kernel_rfl) (by kernel_rfl)) (by kernel_rfl)) rfl hC
       ·replace hC : St w0 Z (xblk b1 26 ([.slice Q73 t70.length Q74]) :: xrow Q73 Q74 53 6 (t70.flatMap enc_api_Node) :: xblk b59 44 ([.slice Q71 t66.length Q72] ++ [.int .i64 t67] ++ (enc_api_Token t68) ++ [.int .i64 t69] ++ [.slice Q73 t70.length Q74]) :: xblk b9 28 ([.nilIface]) :: xblk b5 3 ([.int .i64 0]) :: fs) w := hC
        exact does_run (x_load (t := 3) (x := (.tmp 30)) (p := ⟨b59, 1, none⟩) (v := .int .i64 t67) (by kernel_rfl) (loads_at 1 (hC.blk 2 rfl) (by kernel_rfl) (by kernel_rfl)) (by kernel_rfl)) rfl hC
       ·exact absurd hu (Nat.not_le_of_gt (Nat.le_of_ble_eq_true rfl))
       ·exact absurd hu (Nat.not_le_of_gt (Nat.le_of_ble_eq_true rfl))
      | 8, _, he => exact absurd he (by decide)
      | 9, _, he => exact absurd he (by decide)
      | 10, _, he => exact absurd he (by decide)
      | i + 11, hi, _ => exact absurd hi (by omega)
     ·intro k hk st w hC hr
      match k, hk with
      | 0, _ =>
       rcases st with _ | ⟨x117, _ | ⟨x118, _ | x119⟩⟩
       ·replace hC : St w0 Z (xrow Q73 Q74 53 6 (t70.flatMap enc_api_Node) :: xblk b59 44 ([.slice Q71 t66.length Q72] ++ [.int .i64 t67] ++ (enc_api_Token t68) ++ [.int .i64 t69] ++ [.slice Q73 t70.length Q74]) :: xblk b9 28 ([.nilIface]) :: xblk b5 3 ([.int .i64 0]) :: xblk b1 26 ([.slice none 0 0]) :: fs) w := hC
        have hC := hC.pick4
        refine does_storeG (t := 26) (x := (.tmp 4)) (y := (.tmp 27)) (b := b1) (o := 0) (e := 26) (cs := [.slice none 0 0]) (v := .slice Q73 t70.length Q74) (vs := [.slice Q73 t70.length Q74]) (cs' := [.slice Q73 t70.length Q74]) hC (by kernel_rfl) (by kernel_rfl) (by kernel_rfl) (by kernel_rfl) (by kernel_rfl) (by kernel_rfl) (by kernel_rfl) (Nat.le_of_ble_eq_true (by kernel_rfl)) (by kernel_rfl) ?_
        intro w2 h2
        refine ⟨some ((), none), rfl, ?_, .inl rfl, h2⟩
        intro j hj
        match j, hj with
        | 0, _ => exact rfl
        | 1, _ => exact rfl
        | 2, _ => exact rfl
        | 3, _ => exact rfl
        | 4, _ => exact rfl
        | 5, _ => exact rfl
        | 6, _ => exact rfl
        | 7, _ => exact rfl
        | 8, hj => exact absurd hj (by decide)
        | 9, hj => exact absurd hj (by decide)
        | 10, hj => exact absurd hj (by decide)
        | j + 11, _ => exact rfl
       ·exact absurd hr (Nat.ne_of_beq_eq_false rfl)
       ·exact absurd hr (Nat.ne_of_beq_eq_false rfl)
       ·exact absurd hr (Nat.ne_of_beq_eq_false rfl)
      | 1, _ =>
       rcases st with _ | ⟨x117, _ | ⟨x118, _ | x119⟩⟩
       ·exact absurd hr (Nat.ne_of_beq_eq_false rfl)
       ·replace hC : St w0 Z (xblk b1 26 ([.slice Q73 t70.length Q74]) :: xrow Q73 Q74 53 6 (t70.flatMap enc_api_Node) :: xblk b59 44 ([.slice Q71 t66.length Q72] ++ [.int .i64 t67] ++ (enc_api_Token t68) ++ [.int .i64 t69] ++ [.slice Q73 t70.length Q74]) :: xblk b9 28 ([.nilIface]) :: xblk b5 3 ([.int .i64 0]) :: fs) w := hC
        have hC := hC.pick4
        refine does_storeG (t := 3) (x := (.tmp 5)) (y := (.tmp 31)) (b := b5) (o := 0) (e := 3) (cs := [.int .i64 0]) (v := .int .i64 t67) (vs := [.int .i64 t67]) (cs' := [.int .i64 t67]) hC (by kernel_rfl) (by kernel_rfl) (by kernel_rfl) (by kernel_rfl) (by kernel_rfl) (by kernel_rfl) (by kernel_rfl) (Nat.le_of_ble_eq_true (by kernel_rfl)) (by kernel_rfl) ?_
        intro w2 h2
        refine ⟨some (x117, some ((), none)), rfl, ?_, .inl rfl, h2⟩
        intro j hj
        match j, hj with
        | 0, _ => exact rfl
        | 1, _ => exact rfl
        | 2, _ => exact rfl
        | 3, _ => exact rfl
        | 4, _ => exact rfl
        | 5, _ => exact rfl
        | 6, _ => exact rfl
        | 7, _ => exact rfl
        | 8, _ => exact rfl
        | 9, hj => exact absurd hj (by decide)
        | 10, hj => exact absurd hj (by decide)
        | j + 11, _ => exact rfl
       ·exact absurd hr (Nat.ne_of_beq_eq_false rfl)
       ·exact absurd hr (Nat.ne_of_beq_eq_false rfl)
      | 2, _ =>
       rcases st with _ | ⟨x117, _ | ⟨x118, _ | x119⟩⟩
       ·exact absurd hr (Nat.ne_of_beq_eq_false rfl)
       ·exact absurd hr (Nat.ne_of_beq_eq_false rfl)
       ·replace hC : St w0 Z (xblk b5 3 ([.int .i64 t67]) :: xblk b1 26 ([.slice Q73 t70.length Q74]) :: xrow Q73 Q74 53 6 (t70.flatMap enc_api_Node) :: xblk b59 44 ([.slice Q71 t66.length Q72] ++ [.int .i64 t67] ++ (enc_api_Token t68) ++ [.int .i64 t69] ++ [.slice Q73 t70.length Q74]) :: xblk b9 28 ([.nilIface]) :: fs) w := hC
        have hC := hC.pick4
        refine does_storeG (t := 28) (x := (.tmp 6)) (y := (.const (.nilIface))) (b := b9) (o := 0) (e := 28) (cs := [.nilIface]) (v := .nilIface) (vs := [.nilIface]) (cs' := [.nilIface]) hC (by kernel_rfl) (by kernel_rfl) (by kernel_rfl) (by kernel_rfl) (by kernel_rfl) (by kernel_rfl) (by kernel_rfl) (Nat.le_of_ble_eq_true (by kernel_rfl)) (by kernel_rfl) ?_
        intro w2 h2
        refine ⟨some (x117, some (x118, some ())), rfl, ?_, .inl rfl, h2⟩
        intro j hj
        match j, hj with
        | 0, _ => exact rfl
        | 1, _ => exact rfl
        | 2, _ => exact rfl
        | 3, _ => exact rfl
        | 4, _ => exact rfl
        | 5, _ => exact rfl
        | 6, _ => exact rfl
        | 7, _ => exact rfl
        | 8, _ => exact rfl
        | 9, _ => exact rfl
        | 10, hj => exact absurd hj (by decide)
        | j + 11, _ => exact rfl
       ·exact absurd hr (Nat.ne_of_beq_eq_false rfl)
      | k + 3, hk => exact absurd hk (by simp)
     intro st123 w120 hS121 hr122
     rcases st123 with _ | ⟨x117, _ | ⟨x118, _ | x119⟩⟩
     ·exact absurd hr122 (Nat.not_le_of_gt (Nat.le_of_ble_eq_true rfl))
     ·exact absurd hr122 (Nat.not_le_of_gt (Nat.le_of_ble_eq_true rfl))
     ·exact absurd hr122 (Nat.not_le_of_gt (Nat.le_of_ble_eq_true rfl))
     replace hS121 : St w0 Z (xblk b9 28 ([.nilIface]) :: xblk b5 3 ([.int .i64 t67]) :: xblk b1 26 ([.slice Q73 t70.length Q74]) :: xrow Q73 Q74 53 6 (t70.flatMap enc_api_Node) :: xblk b59 44 ([.slice Q71 t66.length Q72] ++ [.int .i64 t67] ++ (enc_api_Token t68) ++ [.int .i64 t69] ++ [.slice Q73 t70.length Q74]) :: fs) w120 := hS121
     refine runsL_ret (fn := Tryz.f4) Tryz.func4 ?_
     obtain ⟨_, hr124, hp125⟩ := bind_some' hp76
     have hS127 := hS121.pick3
     obtain ⟨Z128, hz129, hS130, hs131, hb132⟩ := hS127.lendrow len_api_Node (by omega)
     have hS133 := hS130.pick1
     have hS134 := hS133.pick2
     refine leaves_one (fun h => nomatch h) (by kernel_rfl) rfl (cond_Take_1_1.ok t70 t67 b1 Q73 Q74 b5 b9 hS134 hs131 hr124) ?_
     rintro _ w135 ⟨rfl, hS136⟩
     refine ⟨⟨_, rfl⟩, ?_⟩
     have hS137 := hb132 _ _ hS136
     have hS139 := hS137.pick1
     have hS140 := hS139.drop
     have hS141 := hS140.pick1
     have hS142 := hS141.drop
     have hS143 := hS142.pick1
     have hS144 := hS143.drop
     have hS145 := hS144.pick1
     have hS146 := hS145.drop
     refine leaves_nil (v := .tuple #[.slice Q73 t70.length Q74, .int .i64 t67, .nilIface]) (resl_run (fn := Tryz.f4) (by kernel_rfl) (.cell (t := 4) (ty := 26) (by kernel_rfl) (loads_at 0 (hS137.blk 1 rfl) (by kernel_rfl) (by kernel_rfl)) (.cell (t := 5) (ty := 3) (by kernel_rfl) (loads_at 0 (hS137.blk 2 rfl) (by kernel_rfl) (by kernel_rfl)) (.cell (t := 6) (ty := 28) (by kernel_rfl) (loads_at 0 (hS137.blk 3 rfl) (by kernel_rfl) (by kernel_rfl)) .nil)))) ?_
     have hr147 := (Option.some.inj hp125)
     cases hr147
     exact hR _ _ ⟨Q73, Q74, .nilIface, Z, (Zm.Le.refl _), rfl, hS146, (RepE.of_nil)⟩

noncomputable def cd12 (p : List Nat) : Code := sub (bodyOf Tryz.f12) p
def weirref06_reader__bad.f (a0v : weirref06_reader) : Option Bool :=
  (if (a0v.F.Code != 0) = true then some (true) else some (false))
set_option maxHeartbeats 16000000 in
theorem weirref06_reader__bad.ok (a0v : weirref06_reader) (ba0 : Nat) (Aa0v_0 : Option Addr) (ca0v_0 : Nat) (Aa0v_4 : Option Addr) (ca0v_4 : Nat) {w0 : World} {Z : Zm} {fs : List XObj} {w : World} (hS0 : St w0 Z (xblk ba0 48 ([.slice Aa0v_0 a0v.L.length ca0v_0] ++ [.int .i64 a0v.At] ++ (enc_api_Token a0v.Last) ++ [.int .i64 a0v.Deep] ++ [.slice Aa0v_4 a0v.C.length ca0v_4] ++ (enc_weirref05_Fault a0v.F)) :: fs) w) (ha0v_0 : SlZ (flat enc_api_Token) 7 Z Aa0v_0 ca0v_0 a0v.L) (ha0v_4 : SlZ (flat enc_api_Node) 6 Z Aa0v_4 ca0v_4 a0v.C) {q0 : Bool} (hp0 : weirref06_reader__bad.f a0v = some q0) :
    Calls Tryz.prog 12 #[.pointer (some ⟨ba0, 0, none⟩)] w (fun e w' => e = .returned (.bool q0) ∧ St w0 Z (xblk ba0 48 ([.slice Aa0v_0 a0v.L.length ca0v_0] ++ [.int .i64 a0v.At] ++ (enc_api_Token a0v.Last) ++ [.int .i64 a0v.Deep] ++ [.slice Aa0v_4 a0v.C.length ca0v_4] ++ (enc_weirref05_Fault a0v.F)) :: fs) w') := by
  refine calls_abs ?_; intro R hR
  unfold weirref06_reader__bad.f at hp0
  refine calls_of_runs (fn := Tryz.f12) (c := cd12 []) Tryz.func12 (by kernel_rfl) (al := [.pointer (some ⟨ba0, 0, none⟩)]) rfl (n := 8) rfl ?_
  refine sx_run 10 (todo' := [.inRegion (opsOf (cd12 [1, 0])) [4, 5, 6], .code (cd12 [1, 1])]) (us := [(2, .bool false), (3, .pointer (some ⟨ba0, 0, none⟩)), (4, .pointer (some ⟨ba0, 0, none⟩)), (5, .pointer (some ⟨ba0, 11, none⟩)), (6, .pointer (some ⟨ba0, 13, none⟩))]) (by kernel_rfl) ?_
  refine r_load (c := (cd12 [1, 0])) (i := 4) (d := (some 7)) (ty := 3) (t := 3) (x := (.tmp 6)) (p := ⟨ba0, 13, none⟩) (v := .int .i64 a0v.F.Code) (by kernel_rfl) (by kernel_rfl) (by kernel_rfl) (loads_at 2 (Cells.mid' (pre := [.slice Aa0v_0 a0v.L.length ca0v_0] ++ [.int .i64 a0v.At] ++ (enc_api_Token a0v.Last) ++ [.int .i64 a0v.Deep] ++ [.slice Aa0v_4 a0v.C.length ca0v_4]) (cs := enc_weirref05_Fault a0v.F) (post := []) (off := 11) (hS0.blk 0 rfl) (by simp [len_api_Token, len_weirref05_Fault]) (by simp)) (by kernel_rfl) (by kernel_rfl)) ?_
  refine sx_split 1 (todo' := [.inRegion (opsOf (cd12 [1, 0])) [6], .code (cd12 [1, 1])]) (us := []) (d := 8) (t := (a0v.F.Code != 0)) (by kernel_rfl) (fun h1 => ?_) (fun h2 => ?_)
  ·skip
   have hp3 := ite_t hp0 h1
   refine sx_run 2 (todo' := [.code (cd12 [1, 1])]) (us := [(2, .bool true)]) (by kernel_rfl) ?_
   refine runs_ret (fn := Tryz.f12) (v := .bool true) Tryz.func12 (by kernel_rfl) ?_
   have hr4 := (Option.some.inj hp3)
   cases hr4
   exact hR _ _ ⟨rfl, hS0⟩
  ·skip
   have hp5 := ite_f hp0 h2
   refine sx_run 2 (todo' := [.code (cd12 [1, 1])]) (us := [(2, .bool false)]) (by kernel_rfl) ?_
   refine runs_ret (fn := Tryz.f12) (v := .bool false) Tryz.func12 (by kernel_rfl) ?_
   have hr6 := (Option.some.inj hp5)
   cases hr6
   exact hR _ _ ⟨rfl, hS0⟩

noncomputable def cd17 (p : List Nat) : Code := sub (bodyOf Tryz.f17) p
def weirref06_reader__is.f (a0v : weirref06_reader) (a1 : Int) (a2 : Int) (a3 : ByteArray) : Option Bool :=
  (weirref06_reader__bad.f (⟨a0v.L, a0v.At, a0v.Last, a0v.Deep, a0v.C, a0v.F⟩ : weirref06_reader) >>= (fun t1 => (if (!t1) = true then (if (decide ((IntKind.i64.wrap (a0v.At + a1)) < (a0v.L.length : Int))) = true then (if 0 ≤ (IntKind.i64.wrap (a0v.At + a1)) ∧ (IntKind.i64.wrap (a0v.At + a1)) < (a0v.L.length : Int) then (if (((gt a0v.L (IntKind.i64.wrap (a0v.At + a1))).Kind) == a2) = true then (if 0 ≤ (IntKind.i64.wrap (a0v.At + a1)) ∧ (IntKind.i64.wrap (a0v.At + a1)) < (a0v.L.length : Int) then (if (seq ((gt a0v.L (IntKind.i64.wrap (a0v.At + a1))).Text) a3) = true then some (true) else some (false)) else none) else some (false)) else none) else some (false)) else some (false))))
set_option maxHeartbeats 16000000 in
theorem weirref06_reader__is.ok (a0v : weirref06_reader) (a1 : Int) (a2 : Int) (a3 : ByteArray) (ba0 : Nat) (Aa0v_0 : Option Addr) (ca0v_0 : Nat) (Aa0v_4 : Option Addr) (ca0v_4 : Nat) {w0 : World} {Z : Zm} {fs : List XObj} {w : World} (hS0 : St w0 Z (xblk ba0 48 ([.slice Aa0v_0 a0v.L.length ca0v_0] ++ [.int .i64 a0v.At] ++ (enc_api_Token a0v.Last) ++ [.int .i64 a0v.Deep] ++ [.slice Aa0v_4 a0v.C.length ca0v_4] ++ (enc_weirref05_Fault a0v.F)) :: fs) w) (ha0v_0 : SlZ (flat enc_api_Token) 7 Z Aa0v_0 ca0v_0 a0v.L) (ha0v_4 : SlZ (flat enc_api_Node) 6 Z Aa0v_4 ca0v_4 a0v.C) {q0 : Bool} (hp0 : weirref06_reader__is.f a0v a1 a2 a3 = some q0) :
    Calls Tryz.prog 17 #[.pointer (some ⟨ba0, 0, none⟩), .int .i64 a1, .int .i64 a2, .string a3] w (fun e w' => e = .returned (.bool q0) ∧ St w0 Z (xblk ba0 48 ([.slice Aa0v_0 a0v.L.length ca0v_0] ++ [.int .i64 a0v.At] ++ (enc_api_Token a0v.Last) ++ [.int .i64 a0v.Deep] ++ [.slice Aa0v_4 a0v.C.length ca0v_4] ++ (enc_weirref05_Fault a0v.F)) :: fs) w') := by
  refine calls_abs ?_; intro R hR
  unfold weirref06_reader__is.f at hp0
  refine calls_of_runs (fn := Tryz.f17) (c := cd17 []) Tryz.func17 (by kernel_rfl) (al := [.pointer (some ⟨ba0, 0, none⟩), .int .i64 a1, .int .i64 a2, .string a3]) rfl (n := 48) rfl ?_
  refine sx_run 9 (todo' := [.inRegion (opsOf (cd17 [1, 0])) [3, 4, 5, 6], .code (cd17 [1, 1])]) (us := [(8, .bool false), (10, .pointer (some ⟨ba0, 0, none⟩)), (11, .pointer (some ⟨ba0, 0, none⟩)), (12, .pointer (some ⟨ba0, 1, none⟩))]) (by kernel_rfl) ?_
  refine r_load (c := (cd17 [1, 0])) (i := 3) (d := (some 13)) (ty := 3) (t := 3) (x := (.tmp 12)) (p := ⟨ba0, 1, none⟩) (v := .int .i64 a0v.At) (by kernel_rfl) (by kernel_rfl) (by kernel_rfl) (loads_at 1 (hS0.blk 0 rfl) (by kernel_rfl) (by kernel_rfl)) ?_
  refine sx_run 7 (todo' := [.inRegion (opsOf (cd17 [1, 1, 0])) [1, 2, 3, 4, 5, 6, 7, 8, 9, 10, 11, 12, 13, 14, 15, 16, 17, 18, 19, 20, 21, 22, 23, 24, 25, 26, 27, 28, 29, 30, 31, 32, 33, 34, 35, 36], .code (cd17 [1, 1, 1])]) (us := [(14, .int .i64 a1), (15, .int .i64 (IntKind.i64.wrap (a0v.At + a1))), (9, .int .i64 (IntKind.i64.wrap (a0v.At + a1))), (16, .pointer (some ⟨ba0, 0, none⟩))]) (by kernel_rfl) ?_
  obtain ⟨t1, hr2, hp3⟩ := bind_some' hp0
  refine r_call1 (c := (cd17 [1, 1, 0])) (i := 1) (d := (some 17)) (g := 12) (args := #[.pointer (some ⟨ba0, 0, none⟩)]) (by kernel_rfl) (by kernel_rfl) (by kernel_rfl) (by kernel_rfl) (weirref06_reader__bad.ok (⟨a0v.L, a0v.At, a0v.Last, a0v.Deep, a0v.C, a0v.F⟩ : weirref06_reader) ba0 Aa0v_0 ca0v_0 Aa0v_4 ca0v_4 hS0 ha0v_0 ha0v_4 hr2) ?_
  rintro _ w6 ⟨rfl, hS7⟩
  refine ⟨.bool t1, rfl, ?_⟩
  refine sx_split 1 (todo' := [.inRegion (opsOf (cd17 [1, 1, 0])) [3, 4, 5, 6, 7, 8, 9, 10, 11, 12, 13, 14, 15, 16, 17, 18, 19, 20, 21, 22, 23, 24, 25, 26, 27, 28, 29, 30, 31, 32, 33, 34, 35, 36], .code (cd17 [1, 1, 1])]) (us := []) (d := 18) (t := (!t1)) (by kernel_rfl) (fun h8 => ?_) (fun h9 => ?_)
  ·skip
   have hp10 := ite_t hp3 h8
   refine sx_run 5 (todo' := [.inRegion (opsOf (cd17 [1, 1, 0])) [8, 9, 10, 11, 12, 13, 14, 15, 16, 17, 18, 19, 20, 21, 22, 23, 24, 25, 26, 27, 28, 29, 30, 31, 32, 33, 34, 35, 36], .code (cd17 [1, 1, 1])]) (us := [(19, .bool true), (20, .int .i64 (IntKind.i64.wrap (a0v.At + a1))), (21, .pointer (some ⟨ba0, 0, none⟩)), (22, .pointer (some ⟨ba0, 0, none⟩)), (23, .pointer (some ⟨ba0, 0, none⟩))]) (by kernel_rfl) ?_
   refine r_load (c := (cd17 [1, 1, 0])) (i := 8) (d := (some 24)) (ty := 22) (t := 22) (x := (.tmp 23)) (p := ⟨ba0, 0, none⟩) (v := .slice Aa0v_0 a0v.L.length ca0v_0) (by kernel_rfl) (by kernel_rfl) (by kernel_rfl) (loads_at 0 (hS7.blk 0 rfl) (by kernel_rfl) (by kernel_rfl)) ?_
   refine sx_split 2 (todo' := [.inRegion (opsOf (cd17 [1, 1, 0])) [11, 12, 13, 14, 15, 16, 17, 18, 19, 20, 21, 22, 23, 24, 25, 26, 27, 28, 29, 30, 31, 32, 33, 34, 35, 36], .code (cd17 [1, 1, 1])]) (us := [(25, .int .i64 (a0v.L.length : Int))]) (d := 26) (t := (decide ((IntKind.i64.wrap (a0v.At + a1)) < (a0v.L.length : Int)))) (by kernel_rfl) (fun h11 => ?_) (fun h12 => ?_)
   ·skip
    have hp13 := ite_t hp10 h11
    refine sx_run 5 (todo' := [.inRegion (opsOf (cd17 [1, 1, 0])) [16, 17, 18, 19, 20, 21, 22, 23, 24, 25, 26, 27, 28, 29, 30, 31, 32, 33, 34, 35, 36], .code (cd17 [1, 1, 1])]) (us := [(27, .bool true), (28, .bool true), (29, .pointer (some ⟨ba0, 0, none⟩)), (30, .pointer (some ⟨ba0, 0, none⟩)), (31, .pointer (some ⟨ba0, 0, none⟩))]) (by kernel_rfl) ?_
    refine r_load (c := (cd17 [1, 1, 0])) (i := 16) (d := (some 32)) (ty := 22) (t := 22) (x := (.tmp 31)) (p := ⟨ba0, 0, none⟩) (v := .slice Aa0v_0 a0v.L.length ca0v_0) (by kernel_rfl) (by kernel_rfl) (by kernel_rfl) (loads_at 0 (hS7.blk 0 rfl) (by kernel_rfl) (by kernel_rfl)) ?_
    refine sx_run 1 (todo' := [.inRegion (opsOf (cd17 [1, 1, 0])) [18, 19, 20, 21, 22, 23, 24, 25, 26, 27, 28, 29, 30, 31, 32, 33, 34, 35, 36], .code (cd17 [1, 1, 1])]) (us := [(33, .int .i64 (IntKind.i64.wrap (a0v.At + a1)))]) (by kernel_rfl) ?_
    obtain ⟨g14, hp15⟩ := ite_some hp13
    obtain ⟨b16, p17, hA18, hc19⟩ := ha0v_0.atF g14.1 g14.2
    refine r_indexAddr (c := (cd17 [1, 1, 0])) (i := 18) (d := (some 34)) (ty := 0) (t := 22) (e := 24) (n := a0v.L.length) (cp := ca0v_0) (sz := 7) (kk := .i64) (x := (.tmp 32)) (y := (.tmp 33)) (b := b16) (o' := p17) (j := (IntKind.i64.wrap (a0v.At + a1))) (by kernel_rfl) (by kernel_rfl) (slv (by kernel_rfl) hA18) (by kernel_rfl) (by kernel_rfl) (by kernel_rfl) g14.1 g14.2 ?_
    refine sx_run 1 (todo' := [.inRegion (opsOf (cd17 [1, 1, 0])) [20, 21, 22, 23, 24, 25, 26, 27, 28, 29, 30, 31, 32, 33, 34, 35, 36], .code (cd17 [1, 1, 1])]) (us := [(35, .pointer (some ⟨b16, p17 + (IntKind.i64.wrap (a0v.At + a1)).toNat * 7, none⟩))]) (by kernel_rfl) ?_
    refine r_load (c := (cd17 [1, 1, 0])) (i := 20) (d := (some 36)) (ty := 3) (t := 3) (x := (.tmp 35)) (p := ⟨b16, p17 + (IntKind.i64.wrap (a0v.At + a1)).toNat * 7, none⟩) (v := .int .i64 ((gt a0v.L (IntKind.i64.wrap (a0v.At + a1))).Kind)) (by kernel_rfl) (by kernel_rfl) (by kernel_rfl) (loads_at 0 (hc19.cells hS7) (by kernel_rfl) (by kernel_rfl)) ?_
    refine sx_split 2 (todo' := [.inRegion (opsOf (cd17 [1, 1, 0])) [23, 24, 25, 26, 27, 28, 29, 30, 31, 32, 33, 34, 35, 36], .code (cd17 [1, 1, 1])]) (us := [(37, .int .i64 a2)]) (d := 38) (t := (((gt a0v.L (IntKind.i64.wrap (a0v.At + a1))).Kind) == a2)) (by kernel_rfl) (fun h20 => ?_) (fun h21 => ?_)
    ·skip
     have hp22 := ite_t hp15 h20
     refine sx_run 5 (todo' := [.inRegion (opsOf (cd17 [1, 1, 0])) [28, 29, 30, 31, 32, 33, 34, 35, 36], .code (cd17 [1, 1, 1])]) (us := [(39, .bool true), (40, .bool true), (41, .pointer (some ⟨ba0, 0, none⟩)), (42, .pointer (some ⟨ba0, 0, none⟩)), (43, .pointer (some ⟨ba0, 0, none⟩))]) (by kernel_rfl) ?_
     refine r_load (c := (cd17 [1, 1, 0])) (i := 28) (d := (some 44)) (ty := 22) (t := 22) (x := (.tmp 43)) (p := ⟨ba0, 0, none⟩) (v := .slice Aa0v_0 a0v.L.length ca0v_0) (by kernel_rfl) (by kernel_rfl) (by kernel_rfl) (loads_at 0 (hS7.blk 0 rfl) (by kernel_rfl) (by kernel_rfl)) ?_
     refine sx_run 1 (todo' := [.inRegion (opsOf (cd17 [1, 1, 0])) [30, 31, 32, 33, 34, 35, 36], .code (cd17 [1, 1, 1])]) (us := [(45, .int .i64 (IntKind.i64.wrap (a0v.At + a1)))]) (by kernel_rfl) ?_
     obtain ⟨g23, hp24⟩ := ite_some hp22
     obtain ⟨b25, p26, hA27, hc28⟩ := ha0v_0.atF g23.1 g23.2
     refine r_indexAddr (c := (cd17 [1, 1, 0])) (i := 30) (d := (some 46)) (ty := 0) (t := 22) (e := 24) (n := a0v.L.length) (cp := ca0v_0) (sz := 7) (kk := .i64) (x := (.tmp 44)) (y := (.tmp 45)) (b := b25) (o' := p26) (j := (IntKind.i64.wrap (a0v.At + a1))) (by kernel_rfl) (by kernel_rfl) (slv (by kernel_rfl) hA27) (by kernel_rfl) (by kernel_rfl) (by kernel_rfl) g23.1 g23.2 ?_
     refine sx_run 1 (todo' := [.inRegion (opsOf (cd17 [1, 1, 0])) [32, 33, 34, 35, 36], .code (cd17 [1, 1, 1])]) (us := [(47, .pointer (some ⟨b25, p26 + (IntKind.i64.wrap (a0v.At + a1)).toNat * 7 + 1, none⟩))]) (by kernel_rfl) ?_
     refine r_load (c := (cd17 [1, 1, 0])) (i := 32) (d := (some 48)) (ty := 9) (t := 9) (x := (.tmp 47)) (p := ⟨b25, p26 + (IntKind.i64.wrap (a0v.At + a1)).toNat * 7 + 1, none⟩) (v := .string ((gt a0v.L (IntKind.i64.wrap (a0v.At + a1))).Text)) (by kernel_rfl) (by kernel_rfl) (by kernel_rfl) (loads_at 1 (hc28.cells hS7) (by kernel_rfl) (by kernel_rfl)) ?_
     refine sx_split 2 (todo' := [.inRegion (opsOf (cd17 [1, 1, 0])) [35, 36], .code (cd17 [1, 1, 1])]) (us := [(49, .string a3)]) (d := 50) (t := (seq ((gt a0v.L (IntKind.i64.wrap (a0v.At + a1))).Text) a3)) (by kernel_rfl) (fun h29 => ?_) (fun h30 => ?_)
     ·skip
      have hp31 := ite_t hp24 h29
      refine sx_run 3 (todo' := [.code (cd17 [1, 1, 1])]) (us := [(51, .bool true), (8, .bool true)]) (by kernel_rfl) ?_
      refine runs_ret (fn := Tryz.f17) (v := .bool true) Tryz.func17 (by kernel_rfl) ?_
      have hr32 := (Option.some.inj hp31)
      cases hr32
      exact hR _ _ ⟨rfl, hS7⟩
     ·skip
      have hp33 := ite_f hp24 h30
      refine sx_run 3 (todo' := [.code (cd17 [1, 1, 1])]) (us := [(51, .bool false), (8, .bool false)]) (by kernel_rfl) ?_
      refine runs_ret (fn := Tryz.f17) (v := .bool false) Tryz.func17 (by kernel_rfl) ?_
      have hr34 := (Option.some.inj hp33)
      cases hr34
      exact hR _ _ ⟨rfl, hS7⟩
    ·skip
     have hp35 := ite_f hp15 h21
     refine sx_run 15 (todo' := [.code (cd17 [1, 1, 1])]) (us := [(39, .bool false), (40, .bool false), (41, undef), (42, undef), (43, undef), (44, undef), (45, undef), (46, undef), (47, undef), (48, undef), (49, undef), (50, undef), (51, .bool false), (8, .bool false)]) (by kernel_rfl) ?_
     refine runs_ret (fn := Tryz.f17) (v := .bool false) Tryz.func17 (by kernel_rfl) ?_
     have hr36 := (Option.some.inj hp35)
     cases hr36
     exact hR _ _ ⟨rfl, hS7⟩
   ·skip
    have hp37 := ite_f hp10 h12
    refine sx_run 27 (todo' := [.code (cd17 [1, 1, 1])]) (us := [(27, .bool false), (28, .bool false), (29, undef), (30, undef), (31, undef), (32, undef), (33, undef), (34, undef), (35, undef), (36, undef), (37, undef), (38, undef), (39, .bool false), (40, .bool false), (41, undef), (42, undef), (43, undef), (44, undef), (45, undef), (46, undef), (47, undef), (48, undef), (49, undef), (50, undef), (51, .bool false), (8, .bool false)]) (by kernel_rfl) ?_
    refine runs_ret (fn := Tryz.f17) (v := .bool false) Tryz.func17 (by kernel_rfl) ?_
    have hr38 := (Option.some.inj hp37)
    cases hr38
    exact hR _ _ ⟨rfl, hS7⟩
  ·skip
   have hp39 := ite_f hp3 h9
   refine sx_run 35 (todo' := [.code (cd17 [1, 1, 1])]) (us := [(19, .bool false), (20, undef), (21, undef), (22, undef), (23, undef), (24, undef), (25, undef), (26, undef), (27, .bool false), (28, .bool false), (29, undef), (30, undef), (31, undef), (32, undef), (33, undef), (34, undef), (35, undef), (36, undef), (37, undef), (38, undef), (39, .bool false), (40, .bool false), (41, undef), (42, undef), (43, undef), (44, undef), (45, undef), (46, undef), (47, undef), (48, undef), (49, undef), (50, undef), (51, .bool false), (8, .bool false)]) (by kernel_rfl) ?_
   refine runs_ret (fn := Tryz.f17) (v := .bool false) Tryz.func17 (by kernel_rfl) ?_
   have hr40 := (Option.some.inj hp39)
   cases hr40
   exact hR _ _ ⟨rfl, hS7⟩

noncomputable def cd18 (p : List Nat) : Code := sub (bodyOf Tryz.f18) p
def weirref06_reader__take.f (a0v : weirref06_reader) : Option (api_Token × Int × api_Token) :=
  (weirref06_reader__bad.f (⟨a0v.L, a0v.At, a0v.Last, a0v.Deep, a0v.C, a0v.F⟩ : weirref06_reader) >>= (fun t5 => (if t5 = true then some (((⟨0, (⟨#[]⟩ : ByteArray), 0, 0, 0, 0, 0⟩ : api_Token), a0v.At, a0v.Last)) else (if (decide (a0v.At ≥ (a0v.L.length : Int))) = true then some (((⟨0, (⟨#[]⟩ : ByteArray), 0, 0, 0, 0, 0⟩ : api_Token), a0v.At, a0v.Last)) else (if 0 ≤ a0v.At ∧ a0v.At < (a0v.L.length : Int) then some (((gt a0v.L a0v.At), (IntKind.i64.wrap (a0v.At + 1)), (gt a0v.L a0v.At))) else none)))))
set_option maxHeartbeats 16000000 in
theorem weirref06_reader__take.ok (a0v : weirref06_reader) (ba0 : Nat) (Aa0v_0 : Option Addr) (ca0v_0 : Nat) (Aa0v_4 : Option Addr) (ca0v_4 : Nat) {w0 : World} {Z : Zm} {fs : List XObj} {w : World} (hS0 : St w0 Z (xblk ba0 48 ([.slice Aa0v_0 a0v.L.length ca0v_0] ++ [.int .i64 a0v.At] ++ (enc_api_Token a0v.Last) ++ [.int .i64 a0v.Deep] ++ [.slice Aa0v_4 a0v.C.length ca0v_4] ++ (enc_weirref05_Fault a0v.F)) :: fs) w) (ha0v_0 : SlZ (flat enc_api_Token) 7 Z Aa0v_0 ca0v_0 a0v.L) (ha0v_4 : SlZ (flat enc_api_Node) 6 Z Aa0v_4 ca0v_4 a0v.C) {q0 : api_Token} {q1 : Int} {q2 : api_Token} (hp0 : weirref06_reader__take.f a0v = some (q0, q1, q2)) :
    Calls Tryz.prog 18 #[.pointer (some ⟨ba0, 0, none⟩)] w (fun e w' => e = .returned (.agg (enc_api_Token q0).toArray) ∧ St w0 Z (xblk ba0 48 ([.slice Aa0v_0 a0v.L.length ca0v_0] ++ [.int .i64 q1] ++ (enc_api_Token q2) ++ [.int .i64 a0v.Deep] ++ [.slice Aa0v_4 a0v.C.length ca0v_4] ++ (enc_weirref05_Fault a0v.F)) :: fs) w') := by
  refine calls_abs ?_; intro R hR
  unfold weirref06_reader__take.f at hp0
  refine calls_of_runs (fn := Tryz.f18) (c := cd18 []) Tryz.func18 (by kernel_rfl) (al := [.pointer (some ⟨ba0, 0, none⟩)]) rfl (n := 41) rfl ?_
  refine sx_run 2 (todo' := [.inRegion (opsOf (cd18 [0])) [0], .code (cd18 [1])]) (us := []) (by kernel_rfl) ?_
  refine r_alloc (c := (cd18 [0])) (i := 0) (d := (some 2)) (ty := 0) (z := .agg (enc_api_Token (⟨0, (⟨#[]⟩ : ByteArray), 0, 0, 0, 0, 0⟩ : api_Token)).toArray) (t := 24) (cs := enc_api_Token (⟨0, (⟨#[]⟩ : ByteArray), 0, 0, 0, 0, 0⟩ : api_Token)) hS0 (by kernel_rfl) (by kernel_rfl) (by kernel_rfl) (by kernel_rfl) ?_
  intro b1 w2 hS3
  refine sx_run 3 (todo' := [.code (cd18 [1, 0, 0]), .code (cd18 [1, 0, 1]), .code (cd18 [1, 1])]) (us := []) (by kernel_rfl) ?_
  refine r_quiet hS3 (c := (cd18 [1, 0, 0])) (id := 1) (by kernel_rfl) (by kernel_rfl) (by kernel_rfl) (is := [0, 1, 2, 3, 4, 5, 6, 7, 8, 9, 10, 11, 12, 13]) (by kernel_rfl) ?_
  refine q_run 1 (is' := [1, 2, 3, 4, 5, 6, 7, 8, 9, 10, 11, 12, 13]) (us := [(3, .pointer (some ⟨ba0, 0, none⟩))]) (by kernel_rfl) ?_
  obtain ⟨t5, hr6, hp7⟩ := bind_some' hp0
  refine q_call1 (c := (cd18 [1, 0, 0])) (i := 1) (d := (some 4)) (v := .bool t5) (g := 12) (args := #[.pointer (some ⟨ba0, 0, none⟩)]) (by kernel_rfl) (by kernel_rfl) (by kernel_rfl) (by kernel_rfl) (fun w hC => by
   have hS10 := hC.pick1
   refine (weirref06_reader__bad.ok (⟨a0v.L, a0v.At, a0v.Last, a0v.Deep, a0v.C, a0v.F⟩ : weirref06_reader) ba0 Aa0v_0 ca0v_0 Aa0v_4 ca0v_4 hS10 ha0v_0 ha0v_4 hr6).mono ?_
   rintro e w2 ⟨rfl, h2⟩
   have hS11 := h2.pick1
   exact ⟨rfl, hS11⟩) ?_
  refine q_run 1 (is' := [3, 4, 5, 6, 7, 8, 9, 10, 11, 12, 13]) (us := [(5, .bool t5)]) (by kernel_rfl) ?_
  cases t5
  ·skip
   have hp12 := ite_f hp7 rfl
   refine q_run 3 (is' := [6, 7, 8, 9, 10, 11, 12, 13]) (us := [(6, .pointer (some ⟨ba0, 0, none⟩)), (7, .pointer (some ⟨ba0, 0, none⟩)), (8, .pointer (some ⟨ba0, 1, none⟩))]) (by kernel_rfl) ?_
   refine q_load (c := (cd18 [1, 0, 0])) (i := 6) (d := (some 9)) (ty := 3) (t := 3) (x := (.tmp 8)) (p := ⟨ba0, 1, none⟩) (v := .int .i64 a0v.At) (by kernel_rfl) (by kernel_rfl) (by kernel_rfl) (fun w hC => (loads_at 1 (hC.blk 1 rfl) (by kernel_rfl) (by kernel_rfl))) ?_
   refine q_run 3 (is' := [10, 11, 12, 13]) (us := [(10, .pointer (some ⟨ba0, 0, none⟩)), (11, .pointer (some ⟨ba0, 0, none⟩)), (12, .pointer (some ⟨ba0, 0, none⟩))]) (by kernel_rfl) ?_
   refine q_load (c := (cd18 [1, 0, 0])) (i := 10) (d := (some 13)) (ty := 22) (t := 22) (x := (.tmp 12)) (p := ⟨ba0, 0, none⟩) (v := .slice Aa0v_0 a0v.L.length ca0v_0) (by kernel_rfl) (by kernel_rfl) (by kernel_rfl) (fun w hC => (loads_at 0 (hC.blk 1 rfl) (by kernel_rfl) (by kernel_rfl))) ?_
   refine q_splitr 2 (is' := [13]) (us := [(14, .int .i64 (a0v.L.length : Int))]) (d := 15) (t := (decide (a0v.At ≥ (a0v.L.length : Int)))) (by kernel_rfl) (fun h13 => ?_) (fun h14 => ?_)
   ·skip
    have hp15 := ite_t hp12 h13
    refine q_run 1 (is' := []) (us := [(16, .bool true)]) (by kernel_rfl) ?_
    refine Qs.nil ?_
    intro w16 hS17
    refine sx_run 4 (todo' := [.inRegion (opsOf (cd18 [1, 0, 1, 0, 0])) [1], .code (cd18 [1, 0, 1, 0, 1]), .code (cd18 [1, 1])]) (us := [(17, .agg (enc_api_Token (⟨0, (⟨#[]⟩ : ByteArray), 0, 0, 0, 0, 0⟩ : api_Token)).toArray)]) (by kernel_rfl) ?_
    refine r_store (c := (cd18 [1, 0, 1, 0, 0])) (i := 1) (d := none) (ty := 0) (t := 24) (x := (.tmp 2)) (y := (.tmp 17)) (b := b1) (o := 0) (e := 24) (cs := enc_api_Token (⟨0, (⟨#[]⟩ : ByteArray), 0, 0, 0, 0, 0⟩ : api_Token)) (v := .agg (enc_api_Token (⟨0, (⟨#[]⟩ : ByteArray), 0, 0, 0, 0, 0⟩ : api_Token)).toArray) (vs := enc_api_Token (⟨0, (⟨#[]⟩ : ByteArray), 0, 0, 0, 0, 0⟩ : api_Token)) (cs' := enc_api_Token (⟨0, (⟨#[]⟩ : ByteArray), 0, 0, 0, 0, 0⟩ : api_Token)) hS17 (by kernel_rfl) (by kernel_rfl) (by kernel_rfl) (by kernel_rfl) (by kernel_rfl) (by kernel_rfl) (one_api_Token _) (Nat.le_of_ble_eq_true (by kernel_rfl)) (by kernel_rfl) ?_
    intro w18 hS19
    refine sx_run 1 (todo' := [.code (cd18 [1, 0, 1, 0, 1]), .code (cd18 [1, 1])]) (us := []) (by kernel_rfl) ?_
    have hS20 := hS19.drop
    refine runs_ret (fn := Tryz.f18) (v := .agg (enc_api_Token (⟨0, (⟨#[]⟩ : ByteArray), 0, 0, 0, 0, 0⟩ : api_Token)).toArray) Tryz.func18 (resl_run (fn := Tryz.f18) (by kernel_rfl) (.cell (t := 2) (ty := 24) (by kernel_rfl) (loads_agg (hS19.blk 0 rfl) (by kernel_rfl) (by kernel_rfl)) .nil)) ?_
    have hr21 := (Option.some.inj hp15)
    cases hr21
    exact hR _ _ ⟨rfl, hS20⟩
   ·skip
    have hp22 := ite_f hp12 h14
    refine q_run 1 (is' := []) (us := [(16, .bool false)]) (by kernel_rfl) ?_
    refine Qs.nil ?_
    intro w23 hS24
    refine sx_run 3 (todo' := [.code (cd18 [1, 1, 0]), .code (cd18 [1, 1, 1])]) (us := []) (by kernel_rfl) ?_
    refine r_drawn3 (C := St w0 Z (xblk b1 24 (enc_api_Token (⟨0, (⟨#[]⟩ : ByteArray), 0, 0, 0, 0, 0⟩ : api_Token)) :: xblk ba0 48 ([.slice Aa0v_0 a0v.L.length ca0v_0] ++ [.int .i64 a0v.At] ++ (enc_api_Token a0v.Last) ++ [.int .i64 a0v.Deep] ++ [.slice Aa0v_4 a0v.C.length ca0v_4] ++ (enc_weirref05_Fault a0v.F)) :: fs)) (c := (cd18 [1, 1, 0])) (id := 3) (by kernel_rfl) (by kernel_rfl) 13 (Nat.le_of_ble_eq_true (by kernel_rfl)) (by kernel_rfl) (by kernel_rfl) (by kernel_rfl) (is := [0, 1, 2, 3, 4, 5, 6, 7, 8, 9, 10, 11, 12]) (rest := [13]) (by kernel_rfl) (by kernel_rfl) hS24.drew ?_
    refine q_run 4 (is' := [4, 5, 6, 7, 8, 9, 10, 11, 12]) (us := [(18, .pointer (some ⟨ba0, 0, none⟩)), (19, .pointer (some ⟨ba0, 0, none⟩)), (20, .pointer (some ⟨ba0, 0, none⟩)), (21, .pointer (some ⟨ba0, 0, none⟩))]) (by kernel_rfl) ?_
    refine q_load (c := (hd (cd18 [1, 1, 0]) 13)) (i := 4) (d := (some 22)) (ty := 22) (t := 22) (x := (.tmp 21)) (p := ⟨ba0, 0, none⟩) (v := .slice Aa0v_0 a0v.L.length ca0v_0) (by kernel_rfl) (by kernel_rfl) (by kernel_rfl) (fun w hC => (loads_at 0 (hC.blk 1 rfl) (by kernel_rfl) (by kernel_rfl))) ?_
    refine q_run 3 (is' := [8, 9, 10, 11, 12]) (us := [(23, .pointer (some ⟨ba0, 0, none⟩)), (24, .pointer (some ⟨ba0, 0, none⟩)), (25, .pointer (some ⟨ba0, 1, none⟩))]) (by kernel_rfl) ?_
    refine q_load (c := (hd (cd18 [1, 1, 0]) 13)) (i := 8) (d := (some 26)) (ty := 3) (t := 3) (x := (.tmp 25)) (p := ⟨ba0, 1, none⟩) (v := .int .i64 a0v.At) (by kernel_rfl) (by kernel_rfl) (by kernel_rfl) (fun w hC => (loads_at 1 (hC.blk 1 rfl) (by kernel_rfl) (by kernel_rfl))) ?_
    obtain ⟨g25, hp26⟩ := ite_some hp22
    obtain ⟨b27, p28, hA29, hc30⟩ := ha0v_0.atF g25.1 g25.2
    refine q_indexAddr (c := (hd (cd18 [1, 1, 0]) 13)) (i := 9) (d := (some 27)) (ty := 0) (t := 22) (e := 24) (n := a0v.L.length) (cp := ca0v_0) (sz := 7) (kk := .i64) (x := (.tmp 22)) (y := (.tmp 26)) (b := b27) (o' := p28) (j := a0v.At) (by kernel_rfl) (by kernel_rfl) (slv (by kernel_rfl) hA29) (by kernel_rfl) (by kernel_rfl) (by kernel_rfl) g25.1 g25.2 ?_
    refine q_load (c := (hd (cd18 [1, 1, 0]) 13)) (i := 10) (d := (some 28)) (ty := 24) (t := 24) (x := (.tmp 27)) (p := ⟨b27, p28 + a0v.At.toNat * 7, none⟩) (v := .agg (enc_api_Token (gt a0v.L a0v.At)).toArray) (by kernel_rfl) (by kernel_rfl) (by kernel_rfl) (fun w hC => (loads_agg (hc30.cells hC) (by kernel_rfl) (by kernel_rfl))) ?_
    refine q_run 2 (is' := []) (us := [(29, .pointer (some ⟨ba0, 0, none⟩)), (30, .pointer (some ⟨ba0, 2, none⟩))]) (by kernel_rfl) ?_
    refine Qs.nil ?_
    intro w31 hS32
    have hS33 := hS32.pick1
    refine r_store (c := (cd18 [1, 1, 0])) (i := 13) (d := none) (ty := 0) (t := 24) (x := (.tmp 30)) (y := (.tmp 28)) (b := ba0) (o := 2) (e := 48) (cs := [.slice Aa0v_0 a0v.L.length ca0v_0] ++ [.int .i64 a0v.At] ++ (enc_api_Token a0v.Last) ++ [.int .i64 a0v.Deep] ++ [.slice Aa0v_4 a0v.C.length ca0v_4] ++ (enc_weirref05_Fault a0v.F)) (v := .agg (enc_api_Token (gt a0v.L a0v.At)).toArray) (vs := enc_api_Token (gt a0v.L a0v.At)) (cs' := [.slice Aa0v_0 a0v.L.length ca0v_0] ++ [.int .i64 a0v.At] ++ (enc_api_Token (gt a0v.L a0v.At)) ++ [.int .i64 a0v.Deep] ++ [.slice Aa0v_4 a0v.C.length ca0v_4] ++ (enc_weirref05_Fault a0v.F)) hS33 (by kernel_rfl) (by kernel_rfl) (by kernel_rfl) (by kernel_rfl) (by kernel_rfl) (by kernel_rfl) (one_api_Token _) (Nat.le_of_ble_eq_true (by kernel_rfl)) (by kernel_rfl) ?_
    intro w34 hS35
    refine sx_run 6 (todo' := [.inRegion (opsOf (cd18 [1, 1, 1, 0])) [3, 4, 5, 6, 7], .code (cd18 [1, 1, 1, 1])]) (us := [(31, .pointer (some ⟨ba0, 0, none⟩)), (32, .pointer (some ⟨ba0, 0, none⟩)), (33, .pointer (some ⟨ba0, 1, none⟩))]) (by kernel_rfl) ?_
    refine r_load (c := (cd18 [1, 1, 1, 0])) (i := 3) (d := (some 34)) (ty := 3) (t := 3) (x := (.tmp 33)) (p := ⟨ba0, 1, none⟩) (v := .int .i64 a0v.At) (by kernel_rfl) (by kernel_rfl) (by kernel_rfl) (loads_at 1 (hS35.blk 0 rfl) (by kernel_rfl) (by kernel_rfl)) ?_
    refine sx_run 3 (todo' := [.inRegion (opsOf (cd18 [1, 1, 1, 0])) [7], .code (cd18 [1, 1, 1, 1])]) (us := [(35, .int .i64 (IntKind.i64.wrap (a0v.At + 1))), (36, .pointer (some ⟨ba0, 0, none⟩)), (37, .pointer (some ⟨ba0, 1, none⟩))]) (by kernel_rfl) ?_
    refine r_store (c := (cd18 [1, 1, 1, 0])) (i := 7) (d := none) (ty := 0) (t := 3) (x := (.tmp 37)) (y := (.tmp 35)) (b := ba0) (o := 1) (e := 48) (cs := [.slice Aa0v_0 a0v.L.length ca0v_0] ++ [.int .i64 a0v.At] ++ (enc_api_Token (gt a0v.L a0v.At)) ++ [.int .i64 a0v.Deep] ++ [.slice Aa0v_4 a0v.C.length ca0v_4] ++ (enc_weirref05_Fault a0v.F)) (v := .int .i64 (IntKind.i64.wrap (a0v.At + 1))) (vs := [.int .i64 (IntKind.i64.wrap (a0v.At + 1))]) (cs' := [.slice Aa0v_0 a0v.L.length ca0v_0] ++ [.int .i64 (IntKind.i64.wrap (a0v.At + 1))] ++ (enc_api_Token (gt a0v.L a0v.At)) ++ [.int .i64 a0v.Deep] ++ [.slice Aa0v_4 a0v.C.length ca0v_4] ++ (enc_weirref05_Fault a0v.F)) hS35 (by kernel_rfl) (by kernel_rfl) (by kernel_rfl) (by kernel_rfl) (by kernel_rfl) (by kernel_rfl) (by kernel_rfl) (Nat.le_of_ble_eq_true (by kernel_rfl)) (by kernel_rfl) ?_
    intro w36 hS37
    refine sx_run 6 (todo' := [.inRegion (opsOf (cd18 [1, 1, 1, 1, 0])) [3, 4], .code (cd18 [1, 1, 1, 1, 1])]) (us := [(38, .pointer (some ⟨ba0, 0, none⟩)), (39, .pointer (some ⟨ba0, 0, none⟩)), (40, .pointer (some ⟨ba0, 2, none⟩))]) (by kernel_rfl) ?_
    refine r_load (c := (cd18 [1, 1, 1, 1, 0])) (i := 3) (d := (some 41)) (ty := 24) (t := 24) (x := (.tmp 40)) (p := ⟨ba0, 2, none⟩) (v := .agg (enc_api_Token (gt a0v.L a0v.At)).toArray) (by kernel_rfl) (by kernel_rfl) (by kernel_rfl) (loads_agg (Cells.mid' (pre := [.slice Aa0v_0 a0v.L.length ca0v_0] ++ [.int .i64 (IntKind.i64.wrap (a0v.At + 1))]) (cs := enc_api_Token (gt a0v.L a0v.At)) (post := [.int .i64 a0v.Deep] ++ [.slice Aa0v_4 a0v.C.length ca0v_4] ++ (enc_weirref05_Fault a0v.F)) (off := 2) (hS37.blk 0 rfl) (by simp [len_api_Token, len_weirref05_Fault]) (by simp)) (by kernel_rfl) (by kernel_rfl)) ?_
    have hS38 := hS37.pick1
    refine r_store (c := (cd18 [1, 1, 1, 1, 0])) (i := 4) (d := none) (ty := 0) (t := 24) (x := (.tmp 2)) (y := (.tmp 41)) (b := b1) (o := 0) (e := 24) (cs := enc_api_Token (⟨0, (⟨#[]⟩ : ByteArray), 0, 0, 0, 0, 0⟩ : api_Token)) (v := .agg (enc_api_Token (gt a0v.L a0v.At)).toArray) (vs := enc_api_Token (gt a0v.L a0v.At)) (cs' := enc_api_Token (gt a0v.L a0v.At)) hS38 (by kernel_rfl) (by kernel_rfl) (by kernel_rfl) (by kernel_rfl) (by kernel_rfl) (by kernel_rfl) (one_api_Token _) (Nat.le_of_ble_eq_true (by kernel_rfl)) (by kernel_rfl) ?_
    intro w39 hS40
    refine sx_run 1 (todo' := [.code (cd18 [1, 1, 1, 1, 1])]) (us := []) (by kernel_rfl) ?_
    have hS41 := hS40.drop
    refine runs_ret (fn := Tryz.f18) (v := .agg (enc_api_Token (gt a0v.L a0v.At)).toArray) Tryz.func18 (resl_run (fn := Tryz.f18) (by kernel_rfl) (.cell (t := 2) (ty := 24) (by kernel_rfl) (loads_agg (hS40.blk 0 rfl) (by kernel_rfl) (by kernel_rfl)) .nil)) ?_
    have hr42 := (Option.some.inj hp26)
    cases hr42
    exact hR _ _ ⟨rfl, hS41⟩
  ·skip
   have hp43 := ite_t hp7 rfl
   refine q_run 11 (is' := []) (us := [(6, undef), (7, undef), (8, undef), (9, undef), (10, undef), (11, undef), (12, undef), (13, undef), (14, undef), (15, undef), (16, .bool true)]) (by kernel_rfl) ?_
   refine Qs.nil ?_
   intro w44 hS45
   refine sx_run 4 (todo' := [.inRegion (opsOf (cd18 [1, 0, 1, 0, 0])) [1], .code (cd18 [1, 0, 1, 0, 1]), .code (cd18 [1, 1])]) (us := [(17, .agg (enc_api_Token (⟨0, (⟨#[]⟩ : ByteArray), 0, 0, 0, 0, 0⟩ : api_Token)).toArray)]) (by kernel_rfl) ?_
   refine r_store (c := (cd18 [1, 0, 1, 0, 0])) (i := 1) (d := none) (ty := 0) (t := 24) (x := (.tmp 2)) (y := (.tmp 17)) (b := b1) (o := 0) (e := 24) (cs := enc_api_Token (⟨0, (⟨#[]⟩ : ByteArray), 0, 0, 0, 0, 0⟩ : api_Token)) (v := .agg (enc_api_Token (⟨0, (⟨#[]⟩ : ByteArray), 0, 0, 0, 0, 0⟩ : api_Token)).toArray) (vs := enc_api_Token (⟨0, (⟨#[]⟩ : ByteArray), 0, 0, 0, 0, 0⟩ : api_Token)) (cs' := enc_api_Token (⟨0, (⟨#[]⟩ : ByteArray), 0, 0, 0, 0, 0⟩ : api_Token)) hS45 (by kernel_rfl) (by kernel_rfl) (by kernel_rfl) (by kernel_rfl) (by kernel_rfl) (by kernel_rfl) (one_api_Token _) (Nat.le_of_ble_eq_true (by kernel_rfl)) (by kernel_rfl) ?_
   intro w46 hS47
   refine sx_run 1 (todo' := [.code (cd18 [1, 0, 1, 0, 1]), .code (cd18 [1, 1])]) (us := []) (by kernel_rfl) ?_
   have hS48 := hS47.drop
   refine runs_ret (fn := Tryz.f18) (v := .agg (enc_api_Token (⟨0, (⟨#[]⟩ : ByteArray), 0, 0, 0, 0, 0⟩ : api_Token)).toArray) Tryz.func18 (resl_run (fn := Tryz.f18) (by kernel_rfl) (.cell (t := 2) (ty := 24) (by kernel_rfl) (loads_agg (hS47.blk 0 rfl) (by kernel_rfl) (by kernel_rfl)) .nil)) ?_
   have hr49 := (Option.some.inj hp43)
   cases hr49
   exact hR _ _ ⟨rfl, hS48⟩

noncomputable def cd29 (p : List Nat) : Code := sub (bodyOf Tryz.f29) p
def weirref06_reader__fail.f (a0v : weirref06_reader) (a1 : api_Token) (a2 : Int) : Option weirref05_Fault :=
  (weirref06_reader__bad.f (⟨a0v.L, a0v.At, a0v.Last, a0v.Deep, a0v.C, a0v.F⟩ : weirref06_reader) >>= (fun t5 => (if (!t5) = true then some ((⟨a1.Line, a1.Col, a2⟩ : weirref05_Fault)) else some (a0v.F))))
set_option maxHeartbeats 16000000 in
theorem weirref06_reader__fail.ok (a0v : weirref06_reader) (a1 : api_Token) (a2 : Int) (ba0 : Nat) (Aa0v_0 : Option Addr) (ca0v_0 : Nat) (Aa0v_4 : Option Addr) (ca0v_4 : Nat) {w0 : World} {Z : Zm} {fs : List XObj} {w : World} (hS0 : St w0 Z (xblk ba0 48 ([.slice Aa0v_0 a0v.L.length ca0v_0] ++ [.int .i64 a0v.At] ++ (enc_api_Token a0v.Last) ++ [.int .i64 a0v.Deep] ++ [.slice Aa0v_4 a0v.C.length ca0v_4] ++ (enc_weirref05_Fault a0v.F)) :: fs) w) (ha0v_0 : SlZ (flat enc_api_Token) 7 Z Aa0v_0 ca0v_0 a0v.L) (ha0v_4 : SlZ (flat enc_api_Node) 6 Z Aa0v_4 ca0v_4 a0v.C) {q0 : weirref05_Fault} (hp0 : weirref06_reader__fail.f a0v a1 a2 = some q0) :
    Calls Tryz.prog 29 #[.pointer (some ⟨ba0, 0, none⟩), .agg (enc_api_Token a1).toArray, .int .i64 a2] w (fun e w' => e = .returned (.tuple #[]) ∧ St w0 Z (xblk ba0 48 ([.slice Aa0v_0 a0v.L.length ca0v_0] ++ [.int .i64 a0v.At] ++ (enc_api_Token a0v.Last) ++ [.int .i64 a0v.Deep] ++ [.slice Aa0v_4 a0v.C.length ca0v_4] ++ (enc_weirref05_Fault q0)) :: fs) w') := by
  refine calls_abs ?_; intro R hR
  unfold weirref06_reader__fail.f at hp0
  refine calls_of_runs (fn := Tryz.f29) (c := cd29 []) Tryz.func29 (by kernel_rfl) (al := [.pointer (some ⟨ba0, 0, none⟩), .agg (enc_api_Token a1).toArray, .int .i64 a2]) rfl (n := 15) rfl ?_
  refine sx_run 2 (todo' := [.inRegion (opsOf (cd29 [0])) [0], .code (cd29 [1])]) (us := []) (by kernel_rfl) ?_
  refine r_box (c := (cd29 [0])) (i := 0) (d := (some 4)) (ty := 0) (x := (.tmp 1)) (v := .agg (enc_api_Token a1).toArray) (t := 24) (cs := enc_api_Token a1) hS0 (by kernel_rfl) (by kernel_rfl) (by kernel_rfl) (by kernel_rfl) ?_
  intro b1 w2 hS3
  refine sx_run 4 (todo' := [.inRegion (opsOf (cd29 [1, 0])) [1, 2], .code (cd29 [1, 1])]) (us := [(6, .pointer (some ⟨ba0, 0, none⟩))]) (by kernel_rfl) ?_
  obtain ⟨t5, hr6, hp7⟩ := bind_some' hp0
  have hS10 := hS3.pick1
  refine r_call1 (c := (cd29 [1, 0])) (i := 1) (d := (some 7)) (g := 12) (args := #[.pointer (some ⟨ba0, 0, none⟩)]) (by kernel_rfl) (by kernel_rfl) (by kernel_rfl) (by kernel_rfl) (weirref06_reader__bad.ok (⟨a0v.L, a0v.At, a0v.Last, a0v.Deep, a0v.C, a0v.F⟩ : weirref06_reader) ba0 Aa0v_0 ca0v_0 Aa0v_4 ca0v_4 hS10 ha0v_0 ha0v_4 hr6) ?_
  rintro _ w11 ⟨rfl, hS12⟩
  refine ⟨.bool t5, rfl, ?_⟩
  refine sx_split 1 (todo' := [.inRegion (opsOf (cd29 [1, 0])) [], .code (cd29 [1, 1])]) (us := []) (d := 8) (t := (!t5)) (by kernel_rfl) (fun h13 => ?_) (fun h14 => ?_)
  ·skip
   have hp15 := ite_t hp7 h13
   refine sx_run 5 (todo' := [.inRegion (opsOf (cd29 [1, 1, 0])) [2, 3, 4, 5, 6, 7, 8, 9]]) (us := [(9, .pointer (some ⟨ba0, 0, none⟩)), (10, .pointer (some ⟨b1, 3, none⟩))]) (by kernel_rfl) ?_
   refine r_load (c := (cd29 [1, 1, 0])) (i := 2) (d := (some 11)) (ty := 3) (t := 3) (x := (.tmp 10)) (p := ⟨b1, 3, none⟩) (v := .int .i64 a1.Line) (by kernel_rfl) (by kernel_rfl) (by kernel_rfl) (loads_at 3 (hS12.blk 1 rfl) (by kernel_rfl) (by kernel_rfl)) ?_
   refine sx_run 1 (todo' := [.inRegion (opsOf (cd29 [1, 1, 0])) [4, 5, 6, 7, 8, 9]]) (us := [(12, .pointer (some ⟨b1, 4, none⟩))]) (by kernel_rfl) ?_
   refine r_load (c := (cd29 [1, 1, 0])) (i := 4) (d := (some 13)) (ty := 3) (t := 3) (x := (.tmp 12)) (p := ⟨b1, 4, none⟩) (v := .int .i64 a1.Col) (by kernel_rfl) (by kernel_rfl) (by kernel_rfl) (loads_at 4 (hS12.blk 1 rfl) (by kernel_rfl) (by kernel_rfl)) ?_
   refine sx_run 4 (todo' := [.inRegion (opsOf (cd29 [1, 1, 0])) [9]]) (us := [(14, .int .i64 a2), (15, .agg (enc_weirref05_Fault (⟨a1.Line, a1.Col, a2⟩ : weirref05_Fault)).toArray), (16, .pointer (some ⟨ba0, 0, none⟩)), (17, .pointer (some ⟨ba0, 11, none⟩))]) (by kernel_rfl) ?_
   refine r_store (c := (cd29 [1, 1, 0])) (i := 9) (d := none) (ty := 0) (t := 32) (x := (.tmp 17)) (y := (.tmp 15)) (b := ba0) (o := 11) (e := 48) (cs := [.slice Aa0v_0 a0v.L.length ca0v_0] ++ [.int .i64 a0v.At] ++ (enc_api_Token a0v.Last) ++ [.int .i64 a0v.Deep] ++ [.slice Aa0v_4 a0v.C.length ca0v_4] ++ (enc_weirref05_Fault a0v.F)) (v := .agg (enc_weirref05_Fault (⟨a1.Line, a1.Col, a2⟩ : weirref05_Fault)).toArray) (vs := enc_weirref05_Fault (⟨a1.Line, a1.Col, a2⟩ : weirref05_Fault)) (cs' := [.slice Aa0v_0 a0v.L.length ca0v_0] ++ [.int .i64 a0v.At] ++ (enc_api_Token a0v.Last) ++ [.int .i64 a0v.Deep] ++ [.slice Aa0v_4 a0v.C.length ca0v_4] ++ (enc_weirref05_Fault (⟨a1.Line, a1.Col, a2⟩ : weirref05_Fault))) hS12 (by kernel_rfl) (by kernel_rfl) (by kernel_rfl) (by kernel_rfl) (by kernel_rfl) (by kernel_rfl) (one_weirref05_Fault _) (Nat.le_of_ble_eq_true (by kernel_rfl)) (by kernel_rfl) ?_
   intro w16 hS17
   refine sx_run 1 (todo' := []) (us := []) (by kernel_rfl) ?_
   have hS18 := hS17.pick1
   have hS19 := hS18.drop
   refine runs_end (fn := Tryz.f29) (v := .tuple #[]) Tryz.func29 (by kernel_rfl) ?_
   have hr20 := (Option.some.inj hp15)
   cases hr20
   exact hR _ _ ⟨rfl, hS19⟩
  ·skip
   have hp21 := ite_f hp7 h14
   refine sx_run 3 (todo' := []) (us := []) (by kernel_rfl) ?_
   have hS22 := hS12.pick1
   have hS23 := hS22.drop
   refine runs_end (fn := Tryz.f29) (v := .tuple #[]) Tryz.func29 (by kernel_rfl) ?_
   have hr24 := (Option.some.inj hp21)
   cases hr24
   exact hR _ _ ⟨rfl, hS23⟩

noncomputable def cd19 (p : List Nat) : Code := sub (bodyOf Tryz.f19) p
def weirref06_reader__node.f (a0v : weirref06_reader) (a1 : api_Node) : Option (Int × (List api_Node) × weirref05_Fault) :=
  (weirref06_reader__bad.f (⟨a0v.L, a0v.At, a0v.Last, a0v.Deep, a0v.C, a0v.F⟩ : weirref06_reader) >>= (fun t5 => (if t5 = true then some ((0, a0v.C, a0v.F)) else (if ((a0v.C.length : Int) == 1024) = true then (weirref06_reader__fail.f (⟨a0v.L, a0v.At, a0v.Last, a0v.Deep, a0v.C, a0v.F⟩ : weirref06_reader) a0v.Last 1 >>= (fun t24 => some ((0, a0v.C, t24)))) else (if (a0v.C.length + ([a1] : List api_Node).length) * 56 ≤ 140737488355328 then some (((IntKind.i64.wrap (((a0v.C ++ ([a1] : List api_Node)).length : Int) - 1)), (a0v.C ++ ([a1] : List api_Node)), a0v.F)) else none)))))
set_option maxHeartbeats 16000000 in
theorem weirref06_reader__node.ok (a0v : weirref06_reader) (a1 : api_Node) (ba0 : Nat) (Aa0v_0 : Option Addr) (ca0v_0 : Nat) (Aa0v_4 : Option Addr) (ca0v_4 : Nat) {w0 : World} {Z : Zm} {fs : List XObj} {w : World} (hS0 : St w0 Z (xblk ba0 48 ([.slice Aa0v_0 a0v.L.length ca0v_0] ++ [.int .i64 a0v.At] ++ (enc_api_Token a0v.Last) ++ [.int .i64 a0v.Deep] ++ [.slice Aa0v_4 a0v.C.length ca0v_4] ++ (enc_weirref05_Fault a0v.F)) :: xrow Aa0v_4 ca0v_4 53 6 (a0v.C.flatMap enc_api_Node) :: fs) w) (ha0v_0 : SlZ (flat enc_api_Token) 7 Z Aa0v_0 ca0v_0 a0v.L) {q0 : Int} {q1 : List api_Node} {q2 : weirref05_Fault} (hp0 : weirref06_reader__node.f a0v a1 = some (q0, q1, q2)) :
    Calls Tryz.prog 19 #[.pointer (some ⟨ba0, 0, none⟩), .agg (enc_api_Node a1).toArray] w (fun e w' => ∃ (QA0 : Option Addr) (Qc0 : Nat), e = .returned (.int .i64 q0) ∧ St w0 Z (xrow QA0 Qc0 53 6 (q1.flatMap enc_api_Node) :: xblk ba0 48 ([.slice Aa0v_0 a0v.L.length ca0v_0] ++ [.int .i64 a0v.At] ++ (enc_api_Token a0v.Last) ++ [.int .i64 a0v.Deep] ++ [.slice QA0 q1.length Qc0] ++ (enc_weirref05_Fault q2)) :: fs) w') := by
  refine calls_abs ?_; intro R hR
  unfold weirref06_reader__node.f at hp0
  refine calls_of_runs (fn := Tryz.f19) (c := cd19 []) Tryz.func19 (by kernel_rfl) (al := [.pointer (some ⟨ba0, 0, none⟩), .agg (enc_api_Node a1).toArray]) rfl (n := 33) rfl ?_
  refine sx_run 2 (todo' := [.inRegion (opsOf (cd19 [0])) [0, 1], .code (cd19 [1])]) (us := []) (by kernel_rfl) ?_
  refine r_box (c := (cd19 [0])) (i := 0) (d := (some 3)) (ty := 0) (x := (.tmp 1)) (v := .agg (enc_api_Node a1).toArray) (t := 53) (cs := enc_api_Node a1) hS0 (by kernel_rfl) (by kernel_rfl) (by kernel_rfl) (by kernel_rfl) ?_
  intro b1 w2 hS3
  refine sx_run 6 (todo' := [.inRegion (opsOf (cd19 [1, 0, 0])) [1], .code (cd19 [1, 0, 1]), .code (cd19 [1, 1])]) (us := [(4, .int .i64 0), (5, .pointer (some ⟨ba0, 0, none⟩))]) (by kernel_rfl) ?_
  obtain ⟨t5, hr6, hp7⟩ := bind_some' hp0
  have hS10 := hS3.pick2
  obtain ⟨Z11, hz12, hS13, hs14, hb15⟩ := hS10.lendrow len_api_Node (by omega)
  have hS16 := hS13.pick1
  refine r_call1 (c := (cd19 [1, 0, 0])) (i := 1) (d := (some 6)) (g := 12) (args := #[.pointer (some ⟨ba0, 0, none⟩)]) (by kernel_rfl) (by kernel_rfl) (by kernel_rfl) (by kernel_rfl) (weirref06_reader__bad.ok (⟨a0v.L, a0v.At, a0v.Last, a0v.Deep, a0v.C, a0v.F⟩ : weirref06_reader) ba0 Aa0v_0 ca0v_0 Aa0v_4 ca0v_4 hS16 (ha0v_0.up hz12) hs14 hr6) ?_
  rintro _ w17 ⟨rfl, hS18⟩
  refine ⟨.bool t5, rfl, ?_⟩
  have hS19 := hb15 _ _ hS18
  refine sx_run 1 (todo' := [.code (cd19 [1, 0, 1]), .code (cd19 [1, 1])]) (us := []) (by kernel_rfl) ?_
  cases t5
  ·skip
   have hp20 := ite_f hp7 rfl
   refine sx_run 8 (todo' := [.inRegion (opsOf (cd19 [1, 1, 0, 0])) [3, 4, 5], .code (cd19 [1, 1, 0, 1]), .code (cd19 [1, 1, 1])]) (us := [(7, .pointer (some ⟨ba0, 0, none⟩)), (8, .pointer (some ⟨ba0, 0, none⟩)), (9, .pointer (some ⟨ba0, 10, none⟩))]) (by kernel_rfl) ?_
   refine r_load (c := (cd19 [1, 1, 0, 0])) (i := 3) (d := (some 10)) (ty := 26) (t := 26) (x := (.tmp 9)) (p := ⟨ba0, 10, none⟩) (v := .slice Aa0v_4 a0v.C.length ca0v_4) (by kernel_rfl) (by kernel_rfl) (by kernel_rfl) (loads_at 10 (hS19.blk 1 rfl) (by kernel_rfl) (by kernel_rfl)) ?_
   refine sx_split 2 (todo' := [.inRegion (opsOf (cd19 [1, 1, 0, 0])) [], .code (cd19 [1, 1, 0, 1]), .code (cd19 [1, 1, 1])]) (us := [(11, .int .i64 (a0v.C.length : Int))]) (d := 12) (t := ((a0v.C.length : Int) == 1024)) (by kernel_rfl) (fun h21 => ?_) (fun h22 => ?_)
   ·skip
    have hp23 := ite_t hp20 h21
    refine sx_run 8 (todo' := [.inRegion (opsOf (cd19 [1, 1, 0, 1, 0, 0])) [4, 5], .code (cd19 [1, 1, 0, 1, 0, 1]), .code (cd19 [1, 1, 1])]) (us := [(13, .pointer (some ⟨ba0, 0, none⟩)), (14, .pointer (some ⟨ba0, 0, none⟩)), (15, .pointer (some ⟨ba0, 0, none⟩)), (16, .pointer (some ⟨ba0, 2, none⟩))]) (by kernel_rfl) ?_
    refine r_load (c := (cd19 [1, 1, 0, 1, 0, 0])) (i := 4) (d := (some 17)) (ty := 24) (t := 24) (x := (.tmp 16)) (p := ⟨ba0, 2, none⟩) (v := .agg (enc_api_Token a0v.Last).toArray) (by kernel_rfl) (by kernel_rfl) (by kernel_rfl) (loads_agg (Cells.mid' (pre := [.slice Aa0v_0 a0v.L.length ca0v_0] ++ [.int .i64 a0v.At]) (cs := enc_api_Token a0v.Last) (post := [.int .i64 a0v.Deep] ++ [.slice Aa0v_4 a0v.C.length ca0v_4] ++ (enc_weirref05_Fault a0v.F)) (off := 2) (hS19.blk 1 rfl) (by simp [len_api_Token, len_weirref05_Fault]) (by simp)) (by kernel_rfl) (by kernel_rfl)) ?_
    obtain ⟨t24, hr25, hp26⟩ := bind_some' hp23
    obtain ⟨Z27, hz28, hS29, hs30, hb31⟩ := hS19.lendrow len_api_Node (by omega)
    refine r_call1 (c := (cd19 [1, 1, 0, 1, 0, 0])) (i := 5) (d := (some 18)) (g := 29) (args := #[.pointer (some ⟨ba0, 0, none⟩), .agg (enc_api_Token a0v.Last).toArray, .int .i64 1]) (by kernel_rfl) (by kernel_rfl) (by kernel_rfl) (by kernel_rfl) (weirref06_reader__fail.ok (⟨a0v.L, a0v.At, a0v.Last, a0v.Deep, a0v.C, a0v.F⟩ : weirref06_reader) a0v.Last 1 ba0 Aa0v_0 ca0v_0 Aa0v_4 ca0v_4 hS29 (ha0v_0.up hz28) hs30 hr25) ?_
    rintro _ w32 ⟨rfl, hS33⟩
    refine ⟨.tuple #[], rfl, ?_⟩
    have hS34 := hb31 _ _ hS33
    refine sx_run 5 (todo' := [.code (cd19 [1, 1, 0, 1, 0, 1, 1]), .code (cd19 [1, 1, 1])]) (us := [(4, .int .i64 0)]) (by kernel_rfl) ?_
    have hS35 := hS34.pick2
    have hS36 := hS35.drop
    refine runs_ret (fn := Tryz.f19) (v := .int .i64 0) Tryz.func19 (by kernel_rfl) ?_
    have hr37 := (Option.some.inj hp26)
    cases hr37
    exact hR _ _ ⟨Aa0v_4, ca0v_4, rfl, hS36⟩
   ·skip
    have hp38 := ite_f hp20 h22
    refine sx_run 4 (todo' := [.code (cd19 [1, 1, 1, 0]), .code (cd19 [1, 1, 1, 1])]) (us := []) (by kernel_rfl) ?_
    obtain ⟨g41, hp42⟩ := ite_some hp38
    refine r_drawnG (S := Option (Nat × Option ((Option Addr × Nat) × Option Unit))) (rank := (fun st => match st with | none => 0 | some (b39, none) => 1 | some (b39, some (x46, none)) => 2 | some (b39, some (x46, some x47)) => 3)) (C := (fun st w' => match st with | none => St w0 Z (xrow Aa0v_4 ca0v_4 53 6 (a0v.C.flatMap enc_api_Node) :: xblk ba0 48 ([.slice Aa0v_0 a0v.L.length ca0v_0] ++ [.int .i64 a0v.At] ++ (enc_api_Token a0v.Last) ++ [.int .i64 a0v.Deep] ++ [.slice Aa0v_4 a0v.C.length ca0v_4] ++ (enc_weirref05_Fault a0v.F)) :: xblk b1 53 (enc_api_Node a1) :: fs) w' | some (b39, none) => St w0 Z (xrow (some ⟨b39, 0, none⟩) 1 53 6 (([a1] : List api_Node).flatMap enc_api_Node) :: xrow Aa0v_4 ca0v_4 53 6 (a0v.C.flatMap enc_api_Node) :: xblk ba0 48 ([.slice Aa0v_0 a0v.L.length ca0v_0] ++ [.int .i64 a0v.At] ++ (enc_api_Token a0v.Last) ++ [.int .i64 a0v.Deep] ++ [.slice Aa0v_4 a0v.C.length ca0v_4] ++ (enc_weirref05_Fault a0v.F)) :: xblk b1 53 (enc_api_Node a1) :: fs) w' | some (b39, some (x46, none)) => St w0 Z (xrow x46.1 x46.2 53 6 ((a0v.C ++ ([a1] : List api_Node)).flatMap enc_api_Node) :: xrow (some ⟨b39, 0, none⟩) 1 53 6 (([a1] : List api_Node).flatMap enc_api_Node) :: xblk ba0 48 ([.slice Aa0v_0 a0v.L.length ca0v_0] ++ [.int .i64 a0v.At] ++ (enc_api_Token a0v.Last) ++ [.int .i64 a0v.Deep] ++ [.slice Aa0v_4 a0v.C.length ca0v_4] ++ (enc_weirref05_Fault a0v.F)) :: xblk b1 53 (enc_api_Node a1) :: fs) w' | some (b39, some (x46, some x47)) => St w0 Z (xblk ba0 48 ([.slice Aa0v_0 a0v.L.length ca0v_0] ++ [.int .i64 a0v.At] ++ (enc_api_Token a0v.Last) ++ [.int .i64 a0v.Deep] ++ [.slice x46.1 (a0v.C ++ ([a1] : List api_Node)).length x46.2] ++ (enc_weirref05_Fault a0v.F)) :: xrow x46.1 x46.2 53 6 ((a0v.C ++ ([a1] : List api_Node)).flatMap enc_api_Node) :: xrow (some ⟨b39, 0, none⟩) 1 53 6 (([a1] : List api_Node).flatMap enc_api_Node) :: xblk b1 53 (enc_api_Node a1) :: fs) w')) (v := (fun st => match st with | none => [.pointer (some ⟨ba0, 0, none⟩), .pointer (some ⟨ba0, 0, none⟩), .pointer (some ⟨ba0, 0, none⟩), .pointer (some ⟨ba0, 10, none⟩), .slice Aa0v_4 a0v.C.length ca0v_4, .agg (enc_api_Node a1).toArray, undef, undef, undef, undef, undef] | some (b39, none) => [.pointer (some ⟨ba0, 0, none⟩), .pointer (some ⟨ba0, 0, none⟩), .pointer (some ⟨ba0, 0, none⟩), .pointer (some ⟨ba0, 10, none⟩), .slice Aa0v_4 a0v.C.length ca0v_4, .agg (enc_api_Node a1).toArray, .slice (some ⟨b39, 0, none⟩) ([a1] : List api_Node).length 1, undef, undef, undef, undef] | some (b39, some (x46, none)) => [.pointer (some ⟨ba0, 0, none⟩), .pointer (some ⟨ba0, 0, none⟩), .pointer (some ⟨ba0, 0, none⟩), .pointer (some ⟨ba0, 10, none⟩), .slice Aa0v_4 a0v.C.length ca0v_4, .agg (enc_api_Node a1).toArray, .slice (some ⟨b39, 0, none⟩) ([a1] : List api_Node).length 1, .slice x46.1 (a0v.C ++ ([a1] : List api_Node)).length x46.2, .pointer (some ⟨ba0, 0, none⟩), .pointer (some ⟨ba0, 10, none⟩), undef] | some (b39, some (x46, some x47)) => [.pointer (some ⟨ba0, 0, none⟩), .pointer (some ⟨ba0, 0, none⟩), .pointer (some ⟨ba0, 0, none⟩), .pointer (some ⟨ba0, 10, none⟩), .slice Aa0v_4 a0v.C.length ca0v_4, .agg (enc_api_Node a1).toArray, .slice (some ⟨b39, 0, none⟩) ([a1] : List api_Node).length 1, .slice x46.1 (a0v.C ++ ([a1] : List api_Node)).length x46.2, .pointer (some ⟨ba0, 0, none⟩), .pointer (some ⟨ba0, 10, none⟩), undef])) (c := (cd19 [1, 1, 1, 0])) (id := 6) none 10 11 [6, 7, 10] [0, 0, 0, 0, 0, 0, 0, 1, 2, 2, 2] [2, 2, 2, 2, 1, 0, 1, 2, 3, 2, 3] [] (by kernel_rfl) (by kernel_rfl) (by kernel_rfl) (by kernel_rfl) (by kernel_rfl) (by kernel_rfl) (by kernel_rfl) (by kernel_rfl) (by kernel_rfl) (by kernel_rfl) rfl hS19.drew ?_ ?_ ?_ ?_
    ·intro st w hC
     rcases st with _ | ⟨b39, _ | ⟨x46, _ | x47⟩⟩
     ·exact Nat.le_of_ble_eq_true rfl
     ·exact Nat.le_of_ble_eq_true rfl
     ·exact Nat.le_of_ble_eq_true rfl
     ·exact Nat.le_of_ble_eq_true rfl
    ·intro i hi he st w hC hr hu
     match i, hi, he with
     | 0, _, _ =>
      rcases st with _ | ⟨b39, _ | ⟨x46, _ | x47⟩⟩
      ·replace hC : St w0 Z (xrow Aa0v_4 ca0v_4 53 6 (a0v.C.flatMap enc_api_Node) :: xblk ba0 48 ([.slice Aa0v_0 a0v.L.length ca0v_0] ++ [.int .i64 a0v.At] ++ (enc_api_Token a0v.Last) ++ [.int .i64 a0v.Deep] ++ [.slice Aa0v_4 a0v.C.length ca0v_4] ++ (enc_weirref05_Fault a0v.F)) :: xblk b1 53 (enc_api_Node a1) :: fs) w := hC
       exact does_pure (v := .pointer (some ⟨ba0, 0, none⟩)) (by kernel_rfl) rfl hC
      ·replace hC : St w0 Z (xrow (some ⟨b39, 0, none⟩) 1 53 6 (([a1] : List api_Node).flatMap enc_api_Node) :: xrow Aa0v_4 ca0v_4 53 6 (a0v.C.flatMap enc_api_Node) :: xblk ba0 48 ([.slice Aa0v_0 a0v.L.length ca0v_0] ++ [.int .i64 a0v.At] ++ (enc_api_Token a0v.Last) ++ [.int .i64 a0v.Deep] ++ [.slice Aa0v_4 a0v.C.length ca0v_4] ++ (enc_weirref05_Fault a0v.F)) :: xblk b1 53 (enc_api_Node a1) :: fs) w := hC
       exact does_pure (v := .pointer (some ⟨ba0, 0, none⟩)) (by kernel_rfl) rfl hC
      ·replace hC : St w0 Z (xrow x46.1 x46.2 53 6 ((a0v.C ++ ([a1] : List api_Node)).flatMap enc_api_Node) :: xrow (some ⟨b39, 0, none⟩) 1 53 6 (([a1] : List api_Node).flatMap enc_api_Node) :: xblk ba0 48 ([.slice Aa0v_0 a0v.L.length ca0v_0] ++ [.int .i64 a0v.At] ++ (enc_api_Token a0v.Last) ++ [.int .i64 a0v.Deep] ++ [.slice Aa0v_4 a0v.C.length ca0v_4] ++ (enc_weirref05_Fault a0v.F)) :: xblk b1 53 (enc_api_Node a1) :: fs) w := hC
       exact does_pure (v := .pointer (some ⟨ba0, 0, none⟩)) (by kernel_rfl) rfl hC
      ·exact absurd hu (Nat.not_le_of_gt (Nat.le_of_ble_eq_true rfl))
     | 1, _, _ =>
      rcases st with _ | ⟨b39, _ | ⟨x46, _ | x47⟩⟩
      ·replace hC : St w0 Z (xrow Aa0v_4 ca0v_4 53 6 (a0v.C.flatMap enc_api_Node) :: xblk ba0 48 ([.slice Aa0v_0 a0v.L.length ca0v_0] ++ [.int .i64 a0v.At] ++ (enc_api_Token a0v.Last) ++ [.int .i64 a0v.Deep] ++ [.slice Aa0v_4 a0v.C.length ca0v_4] ++ (enc_weirref05_Fault a0v.F)) :: xblk b1 53 (enc_api_Node a1) :: fs) w := hC
       exact does_pure (v := .pointer (some ⟨ba0, 0, none⟩)) (by kernel_rfl) rfl hC
      ·replace hC : St w0 Z (xrow (some ⟨b39, 0, none⟩) 1 53 6 (([a1] : List api_Node).flatMap enc_api_Node) :: xrow Aa0v_4 ca0v_4 53 6 (a0v.C.flatMap enc_api_Node) :: xblk ba0 48 ([.slice Aa0v_0 a0v.L.length ca0v_0] ++ [.int .i64 a0v.At] ++ (enc_api_Token a0v.Last) ++ [.int .i64 a0v.Deep] ++ [.slice Aa0v_4 a0v.C.length ca0v_4] ++ (enc_weirref05_Fault a0v.F)) :: xblk b1 53 (enc_api_Node a1) :: fs) w := hC
       exact does_pure (v := .pointer (some ⟨ba0, 0, none⟩)) (by kernel_rfl) rfl hC
      ·replace hC : St w0 Z (xrow x46.1 x46.2 53 6 ((a0v.C ++ ([a1] : List api_Node)).flatMap enc_api_Node) :: xrow (some ⟨b39, 0, none⟩) 1 53 6 (([a1] : List api_Node).flatMap enc_api_Node) :: xblk ba0 48 ([.slice Aa0v_0 a0v.L.length ca0v_0] ++ [.int .i64 a0v.At] ++ (enc_api_Token a0v.Last) ++ [.int .i64 a0v.Deep] ++ [.slice Aa0v_4 a0v.C.length ca0v_4] ++ (enc_weirref05_Fault a0v.F)) :: xblk b1 53 (enc_api_Node a1) :: fs) w := hC
       exact does_pure (v := .pointer (some ⟨ba0, 0, none⟩)) (by kernel_rfl) rfl hC
      ·exact absurd hu (Nat.not_le_of_gt (Nat.le_of_ble_eq_true rfl))
     | 2, _, _ =>
      rcases st with _ | ⟨b39, _ | ⟨x46, _ | x47⟩⟩
      ·replace hC : St w0 Z (xrow Aa0v_4 ca0v_4 53 6 (a0v.C.flatMap enc_api_Node) :: xblk ba0 48 ([.slice Aa0v_0 a0v.L.length ca0v_0] ++ [.int .i64 a0v.At] ++ (enc_api_Token a0v.Last) ++ [.int .i64 a0v.Deep] ++ [.slice Aa0v_4 a0v.C.length ca0v_4] ++ (enc_weirref05_Fault a0v.F)) :: xblk b1 53 (enc_api_Node a1) :: fs) w := hC
       exact does_pure (v := .pointer (some ⟨ba0, 0, none⟩)) (by kernel_rfl) rfl hC
      ·replace hC : St w0 Z (xrow (some ⟨b39, 0, none⟩) 1 53 6 (([a1] : List api_Node).flatMap enc_api_Node) :: xrow Aa0v_4 ca0v_4 53 6 (a0v.C.flatMap enc_api_Node) :: xblk ba0 48 ([.slice Aa0v_0 a0v.L.length ca0v_0] ++ [.int .i64 a0v.At] ++ (enc_api_Token a0v.Last) ++ [.int .i64 a0v.Deep] ++ [.slice Aa0v_4 a0v.C.length ca0v_4] ++ (enc_weirref05_Fault a0v.F)) :: xblk b1 53 (enc_api_Node a1) :: fs) w := hC
       exact does_pure (v := .pointer (some ⟨ba0, 0, none⟩)) (by kernel_rfl) rfl hC
      ·replace hC : St w0 Z (xrow x46.1 x46.2 53 6 ((a0v.C ++ ([a1] : List api_Node)).flatMap enc_api_Node) :: xrow (some ⟨b39, 0, none⟩) 1 53 6 (([a1] : List api_Node).flatMap enc_api_Node) :: xblk ba0 48 ([.slice Aa0v_0 a0v.L.length ca0v_0] ++ [.int .i64 a0v.At] ++ (enc_api_Token a0v.Last) ++ [.int .i64 a0v.Deep] ++ [.slice Aa0v_4 a0v.C.length ca0v_4] ++ (enc_weirref05_Fault a0v.F)) :: xblk b1 53 (enc_api_Node a1) :: fs) w := hC
       exact does_pure (v := .pointer (some ⟨ba0, 0, none⟩)) (by kernel_rfl) rfl hC
      ·exact absurd hu (Nat.not_le_of_gt (Nat.le_of_ble_eq_true rfl))
     | 3, _, _ =>
      rcases st with _ | ⟨b39, _ | ⟨x46, _ | x47⟩⟩
      ·replace hC : St w0 Z (xrow Aa0v_4 ca0v_4 53 6 (a0v.C.flatMap enc_api_Node) :: xblk ba0 48 ([.slice Aa0v_0 a0v.L.length ca0v_0] ++ [.int .i64 a0v.At] ++ (enc_api_Token a0v.Last) ++ [.int .i64 a0v.Deep] ++ [.slice Aa0v_4 a0v.C.length ca0v_4] ++ (enc_weirref05_Fault a0v.F)) :: xblk b1 53 (enc_api_Node a1) :: fs) w := hC
       exact does_pure (v := .pointer (some ⟨ba0, 10, none⟩)) (by kernel_rfl) rfl hC
      ·replace hC : St w0 Z (xrow (some ⟨b39, 0, none⟩) 1 53 6 (([a1] : List api_Node).flatMap enc_api_Node) :: xrow Aa0v_4 ca0v_4 53 6 (a0v.C.flatMap enc_api_Node) :: xblk ba0 48 ([.slice Aa0v_0 a0v.L.length ca0v_0] ++ [.int .i64 a0v.At] ++ (enc_api_Token a0v.Last) ++ [.int .i64 a0v.Deep] ++ [.slice Aa0v_4 a0v.C.length ca0v_4] ++ (enc_weirref05_Fault a0v.F)) :: xblk b1 53 (enc_api_Node a1) :: fs) w := hC
       exact does_pure (v := .pointer (some ⟨ba0, 10, none⟩)) (by kernel_rfl) rfl hC
      ·replace hC : St w0 Z (xrow x46.1 x46.2 53 6 ((a0v.C ++ ([a1] : List api_Node)).flatMap enc_api_Node) :: xrow (some ⟨b39, 0, none⟩) 1 53 6 (([a1] : List api_Node).flatMap enc_api_Node) :: xblk ba0 48 ([.slice Aa0v_0 a0v.L.length ca0v_0] ++ [.int .i64 a0v.At] ++ (enc_api_Token a0v.Last) ++ [.int .i64 a0v.Deep] ++ [.slice Aa0v_4 a0v.C.length ca0v_4] ++ (enc_weirref05_Fault a0v.F)) :: xblk b1 53 (enc_api_Node a1) :: fs) w := hC
       exact does_pure (v := .pointer (some ⟨ba0, 10, none⟩)) (by kernel_rfl) rfl hC
      ·exact absurd hu (Nat.not_le_of_gt (Nat.le_of_ble_eq_true rfl))
     | 4, _, _ =>
      rcases st with _ | ⟨b39, _ | ⟨x46, _ | x47⟩⟩
      ·replace hC : St w0 Z (xrow Aa0v_4 ca0v_4 53 6 (a0v.C.flatMap enc_api_Node) :: xblk ba0 48 ([.slice Aa0v_0 a0v.L.length ca0v_0] ++ [.int .i64 a0v.At] ++ (enc_api_Token a0v.Last) ++ [.int .i64 a0v.Deep] ++ [.slice Aa0v_4 a0v.C.length ca0v_4] ++ (enc_weirref05_Fault a0v.F)) :: xblk b1 53 (enc_api_Node a1) :: fs) w := hC
       exact does_run (x_load (t := 26) (x := (.tmp 22)) (p := ⟨ba0, 10, none⟩) (v := .slice Aa0v_4 a0v.C.length ca0v_4) (by kernel_rfl) (loads_at 10 (hC.blk 1 rfl) (by kernel_rfl) (by kernel_rfl)) (by kernel_rfl)) rfl hC
      ·replace hC : St w0 Z (xrow (some ⟨b39, 0, none⟩) 1 53 6 (([a1] : List api_Node).flatMap enc_api_Node) :: xrow Aa0v_4 ca0v_4 53 6 (a0v.C.flatMap enc_api_Node) :: xblk ba0 48 ([.slice Aa0v_0 a0v.L.length ca0v_0] ++ [.int .i64 a0v.At] ++ (enc_api_Token a0v.Last) ++ [.int .i64 a0v.Deep] ++ [.slice Aa0v_4 a0v.C.length ca0v_4] ++ (enc_weirref05_Fault a0v.F)) :: xblk b1 53 (enc_api_Node a1) :: fs) w := hC
       exact does_run (x_load (t := 26) (x := (.tmp 22)) (p := ⟨ba0, 10, none⟩) (v := .slice Aa0v_4 a0v.C.length ca0v_4) (by kernel_rfl) (loads_at 10 (hC.blk 2 rfl) (by kernel_rfl) (by kernel_rfl)) (by kernel_rfl)) rfl hC
      ·exact absurd hu (Nat.not_le_of_gt (Nat.le_of_ble_eq_true rfl))
      ·exact absurd hu (Nat.not_le_of_gt (Nat.le_of_ble_eq_true rfl))
     | 5, _, _ =>
      rcases st with _ | ⟨b39, _ | ⟨x46, _ | x47⟩⟩
      ·replace hC : St w0 Z (xrow Aa0v_4 ca0v_4 53 6 (a0v.C.flatMap enc_api_Node) :: xblk ba0 48 ([.slice Aa0v_0 a0v.L.length ca0v_0] ++ [.int .i64 a0v.At] ++ (enc_api_Token a0v.Last) ++ [.int .i64 a0v.Deep] ++ [.slice Aa0v_4 a0v.C.length ca0v_4] ++ (enc_weirref05_Fault a0v.F)) :: xblk b1 53 (enc_api_Node a1) :: fs) w := hC
       exact does_run (x_load (t := 53) (x := (.tmp 3)) (p := ⟨b1, 0, none⟩) (v := .agg (enc_api_Node a1).toArray) (by kernel_rfl) (loads_agg (hC.blk 2 rfl) (by kernel_rfl) (by kernel_rfl)) (by kernel_rfl)) rfl hC
      ·exact absurd hu (Nat.not_le_of_gt (Nat.le_of_ble_eq_true rfl))
      ·exact absurd hu (Nat.not_le_of_gt (Nat.le_of_ble_eq_true rfl))
      ·exact absurd hu (Nat.not_le_of_gt (Nat.le_of_ble_eq_true rfl))
     | 6, _, he => exact absurd he (by decide)
     | 7, _, he => exact absurd he (by decide)
     | 8, _, _ =>
      rcases st with _ | ⟨b39, _ | ⟨x46, _ | x47⟩⟩
      ·exact absurd hr (Nat.not_le_of_gt (Nat.le_of_ble_eq_true rfl))
      ·exact absurd hr (Nat.not_le_of_gt (Nat.le_of_ble_eq_true rfl))
      ·replace hC : St w0 Z (xrow x46.1 x46.2 53 6 ((a0v.C ++ ([a1] : List api_Node)).flatMap enc_api_Node) :: xrow (some ⟨b39, 0, none⟩) 1 53 6 (([a1] : List api_Node).flatMap enc_api_Node) :: xblk ba0 48 ([.slice Aa0v_0 a0v.L.length ca0v_0] ++ [.int .i64 a0v.At] ++ (enc_api_Token a0v.Last) ++ [.int .i64 a0v.Deep] ++ [.slice Aa0v_4 a0v.C.length ca0v_4] ++ (enc_weirref05_Fault a0v.F)) :: xblk b1 53 (enc_api_Node a1) :: fs) w := hC
       exact does_pure (v := .pointer (some ⟨ba0, 0, none⟩)) (by kernel_rfl) rfl hC
      ·replace hC : St w0 Z (xblk ba0 48 ([.slice Aa0v_0 a0v.L.length ca0v_0] ++ [.int .i64 a0v.At] ++ (enc_api_Token a0v.Last) ++ [.int .i64 a0v.Deep] ++ [.slice x46.1 (a0v.C ++ ([a1] : List api_Node)).length x46.2] ++ (enc_weirref05_Fault a0v.F)) :: xrow x46.1 x46.2 53 6 ((a0v.C ++ ([a1] : List api_Node)).flatMap enc_api_Node) :: xrow (some ⟨b39, 0, none⟩) 1 53 6 (([a1] : List api_Node).flatMap enc_api_Node) :: xblk b1 53 (enc_api_Node a1) :: fs) w := hC
       exact does_pure (v := .pointer (some ⟨ba0, 0, none⟩)) (by kernel_rfl) rfl hC
     | 9, _, _ =>
      rcases st with _ | ⟨b39, _ | ⟨x46, _ | x47⟩⟩
      ·exact absurd hr (Nat.not_le_of_gt (Nat.le_of_ble_eq_true rfl))
      ·exact absurd hr (Nat.not_le_of_gt (Nat.le_of_ble_eq_true rfl))
      ·replace hC : St w0 Z (xrow x46.1 x46.2 53 6 ((a0v.C ++ ([a1] : List api_Node)).flatMap enc_api_Node) :: xrow (some ⟨b39, 0, none⟩) 1 53 6 (([a1] : List api_Node).flatMap enc_api_Node) :: xblk ba0 48 ([.slice Aa0v_0 a0v.L.length ca0v_0] ++ [.int .i64 a0v.At] ++ (enc_api_Token a0v.Last) ++ [.int .i64 a0v.Deep] ++ [.slice Aa0v_4 a0v.C.length ca0v_4] ++ (enc_weirref05_Fault a0v.F)) :: xblk b1 53 (enc_api_Node a1) :: fs) w := hC
       exact does_pure (v := .pointer (some ⟨ba0, 10, none⟩)) (by kernel_rfl) rfl hC
      ·exact absurd hu (Nat.not_le_of_gt (Nat.le_of_ble_eq_true rfl))
     | 10, _, he => exact absurd he (by decide)
     | i + 11, hi, _ => exact absurd hi (by omega)
    ·intro k hk st w hC hr
     match k, hk with
     | 0, _ =>
      rcases st with _ | ⟨b39, _ | ⟨x46, _ | x47⟩⟩
      ·replace hC : St w0 Z (xrow Aa0v_4 ca0v_4 53 6 (a0v.C.flatMap enc_api_Node) :: xblk ba0 48 ([.slice Aa0v_0 a0v.L.length ca0v_0] ++ [.int .i64 a0v.At] ++ (enc_api_Token a0v.Last) ++ [.int .i64 a0v.Deep] ++ [.slice Aa0v_4 a0v.C.length ca0v_4] ++ (enc_weirref05_Fault a0v.F)) :: xblk b1 53 (enc_api_Node a1) :: fs) w := hC
       refine does_lit (t := 26) (e := 53) (sz := 6) (n := 1) (parts := #[(0, (.tmp 24))]) (vs := [(0, .agg (enc_api_Node a1).toArray)]) (z := zeroOf Tryz.prog 53) (cs' := ([a1] : List api_Node).flatMap enc_api_Node) hC (by kernel_rfl) (by kernel_rfl) (by kernel_rfl) (by kernel_rfl) (by decide) (by decide) (by kernel_rfl) rfl (Parts.cons (c := enc_api_Node a1) (by kernel_rfl) (len_api_Node _) Parts.nil) rfl ?_
       intro b39 w2 h2
       refine ⟨some (b39, none), rfl, ?_, .inr rfl, h2⟩
       intro j hj
       match j, hj with
       | 0, _ => exact rfl
       | 1, _ => exact rfl
       | 2, _ => exact rfl
       | 3, _ => exact rfl
       | 4, _ => exact rfl
       | 5, _ => exact rfl
       | 6, hj => exact absurd hj (by decide)
       | 7, hj => exact absurd hj (by decide)
       | 8, hj => exact absurd hj (by decide)
       | 9, hj => exact absurd hj (by decide)
       | 10, hj => exact absurd hj (by decide)
       | j + 11, _ => exact rfl
      ·exact absurd hr (Nat.ne_of_beq_eq_false rfl)
      ·exact absurd hr (Nat.ne_of_beq_eq_false rfl)
      ·exact absurd hr (Nat.ne_of_beq_eq_false rfl)
     | 1, _ =>
      rcases st with _ | ⟨b39, _ | ⟨x46, _ | x47⟩⟩
      ·exact absurd hr (Nat.ne_of_beq_eq_false rfl)
      ·replace hC : St w0 Z (xrow (some ⟨b39, 0, none⟩) 1 53 6 (([a1] : List api_Node).flatMap enc_api_Node) :: xrow Aa0v_4 ca0v_4 53 6 (a0v.C.flatMap enc_api_Node) :: xblk ba0 48 ([.slice Aa0v_0 a0v.L.length ca0v_0] ++ [.int .i64 a0v.At] ++ (enc_api_Token a0v.Last) ++ [.int .i64 a0v.Deep] ++ [.slice Aa0v_4 a0v.C.length ca0v_4] ++ (enc_weirref05_Fault a0v.F)) :: xblk b1 53 (enc_api_Node a1) :: fs) w := hC
       have hC := hC.pick1
       refine does_append (enc := enc_api_Node) (e := 53) (u := 53) (t := 26) (t2 := 26) (sz := 6) (cp := ca0v_4) (A := Aa0v_4) (bytes := 56) (xs := a0v.C) (ys := ([a1] : List api_Node)) (s := (.tmp 23)) (x := (.tmp 25)) (xv := .slice (some ⟨b39, 0, none⟩) ([a1] : List api_Node).length 1) (info := infoOf Tryz.prog 53) (z := zeroOf Tryz.prog 53) (ycs := ([a1] : List api_Node).flatMap enc_api_Node) hC (by kernel_rfl) (by kernel_rfl) (by kernel_rfl) (by kernel_rfl) (.inl (by kernel_rfl)) (by kernel_rfl) (by kernel_rfl) (by kernel_rfl) (by kernel_rfl) (by kernel_rfl) (by omega) len_api_Node one_api_Node (src_row (hC.row 1 rfl) (by omega) len_api_Node) rfl g41 (by omega) ?_
       intro A43 c44 w2 h2
       refine ⟨some (b39, some ((A43, c44), none)), rfl, ?_, .inr rfl, h2⟩
       intro j hj
       match j, hj with
       | 0, _ => exact rfl
       | 1, _ => exact rfl
       | 2, _ => exact rfl
       | 3, _ => exact rfl
       | 4, _ => exact rfl
       | 5, _ => exact rfl
       | 6, _ => exact rfl
       | 7, hj => exact absurd hj (by decide)
       | 8, hj => exact absurd hj (by decide)
       | 9, hj => exact absurd hj (by decide)
       | 10, hj => exact absurd hj (by decide)
       | j + 11, _ => exact rfl
      ·exact absurd hr (Nat.ne_of_beq_eq_false rfl)
      ·exact absurd hr (Nat.ne_of_beq_eq_false rfl)
     | 2, _ =>
      rcases st with _ | ⟨b39, _ | ⟨x46, _ | x47⟩⟩
      ·exact absurd hr (Nat.ne_of_beq_eq_false rfl)
      ·exact absurd hr (Nat.ne_of_beq_eq_false rfl)
      ·replace hC : St w0 Z (xrow x46.1 x46.2 53 6 ((a0v.C ++ ([a1] : List api_Node)).flatMap enc_api_Node) :: xrow (some ⟨b39, 0, none⟩) 1 53 6 (([a1] : List api_Node).flatMap enc_api_Node) :: xblk ba0 48 ([.slice Aa0v_0 a0v.L.length ca0v_0] ++ [.int .i64 a0v.At] ++ (enc_api_Token a0v.Last) ++ [.int .i64 a0v.Deep] ++ [.slice Aa0v_4 a0v.C.length ca0v_4] ++ (enc_weirref05_Fault a0v.F)) :: xblk b1 53 (enc_api_Node a1) :: fs) w := hC
       have hC := hC.pick2
       refine does_storeG (t := 26) (x := (.tmp 28)) (y := (.tmp 26)) (b := ba0) (o := 10) (e := 48) (cs := [.slice Aa0v_0 a0v.L.length ca0v_0] ++ [.int .i64 a0v.At] ++ (enc_api_Token a0v.Last) ++ [.int .i64 a0v.Deep] ++ [.slice Aa0v_4 a0v.C.length ca0v_4] ++ (enc_weirref05_Fault a0v.F)) (v := .slice x46.1 (a0v.C ++ ([a1] : List api_Node)).length x46.2) (vs := [.slice x46.1 (a0v.C ++ ([a1] : List api_Node)).length x46.2]) (cs' := [.slice Aa0v_0 a0v.L.length ca0v_0] ++ [.int .i64 a0v.At] ++ (enc_api_Token a0v.Last) ++ [.int .i64 a0v.Deep] ++ [.slice x46.1 (a0v.C ++ ([a1] : List api_Node)).length x46.2] ++ (enc_weirref05_Fault a0v.F)) hC (by kernel_rfl) (by kernel_rfl) (by kernel_rfl) (by kernel_rfl) (by kernel_rfl) (by kernel_rfl) (by kernel_rfl) (Nat.le_of_ble_eq_true (by kernel_rfl)) (by kernel_rfl) ?_
       intro w2 h2
       refine ⟨some (b39, some (x46, some ())), rfl, ?_, .inl rfl, h2⟩
       intro j hj
       match j, hj with
       | 0, _ => exact rfl
       | 1, _ => exact rfl
       | 2, _ => exact rfl
       | 3, _ => exact rfl
       | 4, _ => exact rfl
       | 5, _ => exact rfl
       | 6, _ => exact rfl
       | 7, _ => exact rfl
       | 8, _ => exact rfl
       | 9, _ => exact rfl
       | 10, hj => exact absurd hj (by decide)
       | j + 11, _ => exact rfl
      ·exact absurd hr (Nat.ne_of_beq_eq_false rfl)
     | k + 3, hk => exact absurd hk (by simp)
    intro st51 w48 hS49 hr50
    rcases st51 with _ | ⟨b39, _ | ⟨x46, _ | x47⟩⟩
    ·exact absurd hr50 (Nat.not_le_of_gt (Nat.le_of_ble_eq_true rfl))
    ·exact absurd hr50 (Nat.not_le_of_gt (Nat.le_of_ble_eq_true rfl))
    ·exact absurd hr50 (Nat.not_le_of_gt (Nat.le_of_ble_eq_true rfl))
    replace hS49 : St w0 Z (xblk ba0 48 ([.slice Aa0v_0 a0v.L.length ca0v_0] ++ [.int .i64 a0v.At] ++ (enc_api_Token a0v.Last) ++ [.int .i64 a0v.Deep] ++ [.slice x46.1 (a0v.C ++ ([a1] : List api_Node)).length x46.2] ++ (enc_weirref05_Fault a0v.F)) :: xrow x46.1 x46.2 53 6 ((a0v.C ++ ([a1] : List api_Node)).flatMap enc_api_Node) :: xrow (some ⟨b39, 0, none⟩) 1 53 6 (([a1] : List api_Node).flatMap enc_api_Node) :: xblk b1 53 (enc_api_Node a1) :: fs) w48 := hS49
    refine sx_run 5 (todo' := [.inRegion (opsOf (cd19 [1, 1, 1, 1, 0])) [3, 4, 5, 6], .code (cd19 [1, 1, 1, 1, 1])]) (us := [(29, .pointer (some ⟨ba0, 0, none⟩)), (30, .pointer (some ⟨ba0, 0, none⟩)), (31, .pointer (some ⟨ba0, 10, none⟩))]) (by kernel_rfl) ?_
    refine r_load (c := (cd19 [1, 1, 1, 1, 0])) (i := 3) (d := (some 32)) (ty := 26) (t := 26) (x := (.tmp 31)) (p := ⟨ba0, 10, none⟩) (v := .slice x46.1 (a0v.C ++ ([a1] : List api_Node)).length x46.2) (by kernel_rfl) (by kernel_rfl) (by kernel_rfl) (loads_at 10 (hS49.blk 0 rfl) (by kernel_rfl) (by kernel_rfl)) ?_
    refine sx_run 4 (todo' := [.code (cd19 [1, 1, 1, 1, 1])]) (us := [(33, .int .i64 ((a0v.C ++ ([a1] : List api_Node)).length : Int)), (34, .int .i64 (IntKind.i64.wrap (((a0v.C ++ ([a1] : List api_Node)).length : Int) - 1))), (4, .int .i64 (IntKind.i64.wrap (((a0v.C ++ ([a1] : List api_Node)).length : Int) - 1)))]) (by kernel_rfl) ?_
    have hS52 := hS49.pick2
    have hS53 := hS52.drop
    have hS54 := hS53.pick2
    have hS55 := hS54.drop
    have hS56 := hS55.pick1
    refine runs_ret (fn := Tryz.f19) (v := .int .i64 (IntKind.i64.wrap (((a0v.C ++ ([a1] : List api_Node)).length : Int) - 1))) Tryz.func19 (by kernel_rfl) ?_
    have hr57 := (Option.some.inj hp42)
    cases hr57
    exact hR _ _ ⟨x46.1, x46.2, rfl, hS56⟩
  ·skip
   have hp58 := ite_t hp7 rfl
   refine sx_run 5 (todo' := [.code (cd19 [1, 0, 1, 0, 1]), .code (cd19 [1, 1])]) (us := [(4, .int .i64 0)]) (by kernel_rfl) ?_
   have hS59 := hS19.pick2
   have hS60 := hS59.drop
   refine runs_ret (fn := Tryz.f19) (v := .int .i64 0) Tryz.func19 (by kernel_rfl) ?_
   have hr61 := (Option.some.inj hp58)
   cases hr61
   exact hR _ _ ⟨Aa0v_4, ca0v_4, rfl, hS60⟩

noncomputable def cd37 (p : List Nat) : Code := sub (bodyOf Tryz.f37) p
def weirref06_reader__opens.f (a0v : weirref06_reader) : Option (Int × api_Token × Int × weirref05_Fault) :=
  (if (decide (a0v.Deep ≥ 64)) = true then (if 0 ≤ a0v.At ∧ a0v.At < (a0v.L.length : Int) then (weirref06_reader__fail.f (⟨a0v.L, a0v.At, a0v.Last, a0v.Deep, a0v.C, a0v.F⟩ : weirref06_reader) (gt a0v.L a0v.At) 2 >>= (fun t12 => some ((a0v.At, a0v.Last, a0v.Deep, t12)))) else none) else (weirref06_reader__take.f (⟨a0v.L, a0v.At, a0v.Last, (IntKind.i64.wrap (a0v.Deep + 1)), a0v.C, a0v.F⟩ : weirref06_reader) >>= (fun (t21, t22, t23) => some ((t22, t23, (IntKind.i64.wrap (a0v.Deep + 1)), a0v.F)))))
set_option maxHeartbeats 16000000 in
theorem weirref06_reader__opens.ok (a0v : weirref06_reader) (ba0 : Nat) (Aa0v_0 : Option Addr) (ca0v_0 : Nat) (Aa0v_4 : Option Addr) (ca0v_4 : Nat) {w0 : World} {Z : Zm} {fs : List XObj} {w : World} (hS0 : St w0 Z (xblk ba0 48 ([.slice Aa0v_0 a0v.L.length ca0v_0] ++ [.int .i64 a0v.At] ++ (enc_api_Token a0v.Last) ++ [.int .i64 a0v.Deep] ++ [.slice Aa0v_4 a0v.C.length ca0v_4] ++ (enc_weirref05_Fault a0v.F)) :: fs) w) (ha0v_0 : SlZ (flat enc_api_Token) 7 Z Aa0v_0 ca0v_0 a0v.L) (ha0v_4 : SlZ (flat enc_api_Node) 6 Z Aa0v_4 ca0v_4 a0v.C) {q0 : Int} {q1 : api_Token} {q2 : Int} {q3 : weirref05_Fault} (hp0 : weirref06_reader__opens.f a0v = some (q0, q1, q2, q3)) :
    Calls Tryz.prog 37 #[.pointer (some ⟨ba0, 0, none⟩)] w (fun e w' => e = .returned (.tuple #[]) ∧ St w0 Z (xblk ba0 48 ([.slice Aa0v_0 a0v.L.length ca0v_0] ++ [.int .i64 q0] ++ (enc_api_Token q1) ++ [.int .i64 q2] ++ [.slice Aa0v_4 a0v.C.length ca0v_4] ++ (enc_weirref05_Fault q3)) :: fs) w') := by
  refine calls_abs ?_; intro R hR
  unfold weirref06_reader__opens.f at hp0
  refine calls_of_runs (fn := Tryz.f37) (c := cd37 []) Tryz.func37 (by kernel_rfl) (al := [.pointer (some ⟨ba0, 0, none⟩)]) rfl (n := 27) rfl ?_
  refine sx_run 6 (todo' := [.inRegion (opsOf (cd37 [0, 0])) [3, 4], .code (cd37 [0, 1]), .code (cd37 [1])]) (us := [(2, .pointer (some ⟨ba0, 0, none⟩)), (3, .pointer (some ⟨ba0, 0, none⟩)), (4, .pointer (some ⟨ba0, 9, none⟩))]) (by kernel_rfl) ?_
  refine r_load (c := (cd37 [0, 0])) (i := 3) (d := (some 5)) (ty := 3) (t := 3) (x := (.tmp 4)) (p := ⟨ba0, 9, none⟩) (v := .int .i64 a0v.Deep) (by kernel_rfl) (by kernel_rfl) (by kernel_rfl) (loads_at 9 (hS0.blk 0 rfl) (by kernel_rfl) (by kernel_rfl)) ?_
  refine sx_split 1 (todo' := [.inRegion (opsOf (cd37 [0, 0])) [], .code (cd37 [0, 1]), .code (cd37 [1])]) (us := []) (d := 6) (t := (decide (a0v.Deep ≥ 64))) (by kernel_rfl) (fun h1 => ?_) (fun h2 => ?_)
  ·skip
   have hp3 := ite_t hp0 h1
   refine sx_run 3 (todo' := [.code (cd37 [0, 1, 0, 0]), .code (cd37 [0, 1, 0, 1]), .code (cd37 [1])]) (us := []) (by kernel_rfl) ?_
   refine r_drawn3 (C := St w0 Z (xblk ba0 48 ([.slice Aa0v_0 a0v.L.length ca0v_0] ++ [.int .i64 a0v.At] ++ (enc_api_Token a0v.Last) ++ [.int .i64 a0v.Deep] ++ [.slice Aa0v_4 a0v.C.length ca0v_4] ++ (enc_weirref05_Fault a0v.F)) :: fs)) (c := (cd37 [0, 1, 0, 0])) (id := 1) (by kernel_rfl) (by kernel_rfl) 11 (Nat.le_of_ble_eq_true (by kernel_rfl)) (by kernel_rfl) (by kernel_rfl) (by kernel_rfl) (is := [0, 1, 2, 3, 4, 5, 6, 7, 8, 9, 10]) (rest := [11]) (by kernel_rfl) (by kernel_rfl) hS0.drew ?_
   refine q_run 4 (is' := [4, 5, 6, 7, 8, 9, 10]) (us := [(7, .pointer (some ⟨ba0, 0, none⟩)), (8, .pointer (some ⟨ba0, 0, none⟩)), (9, .pointer (some ⟨ba0, 0, none⟩)), (10, .pointer (some ⟨ba0, 0, none⟩))]) (by kernel_rfl) ?_
   refine q_load (c := (hd (cd37 [0, 1, 0, 0]) 11)) (i := 4) (d := (some 11)) (ty := 22) (t := 22) (x := (.tmp 10)) (p := ⟨ba0, 0, none⟩) (v := .slice Aa0v_0 a0v.L.length ca0v_0) (by kernel_rfl) (by kernel_rfl) (by kernel_rfl) (fun w hC => (loads_at 0 (hC.blk 0 rfl) (by kernel_rfl) (by kernel_rfl))) ?_
   refine q_run 3 (is' := [8, 9, 10]) (us := [(12, .pointer (some ⟨ba0, 0, none⟩)), (13, .pointer (some ⟨ba0, 0, none⟩)), (14, .pointer (some ⟨ba0, 1, none⟩))]) (by kernel_rfl) ?_
   refine q_load (c := (hd (cd37 [0, 1, 0, 0]) 11)) (i := 8) (d := (some 15)) (ty := 3) (t := 3) (x := (.tmp 14)) (p := ⟨ba0, 1, none⟩) (v := .int .i64 a0v.At) (by kernel_rfl) (by kernel_rfl) (by kernel_rfl) (fun w hC => (loads_at 1 (hC.blk 0 rfl) (by kernel_rfl) (by kernel_rfl))) ?_
   obtain ⟨g4, hp5⟩ := ite_some hp3
   obtain ⟨b6, p7, hA8, hc9⟩ := ha0v_0.atF g4.1 g4.2
   refine q_indexAddr (c := (hd (cd37 [0, 1, 0, 0]) 11)) (i := 9) (d := (some 16)) (ty := 0) (t := 22) (e := 24) (n := a0v.L.length) (cp := ca0v_0) (sz := 7) (kk := .i64) (x := (.tmp 11)) (y := (.tmp 15)) (b := b6) (o' := p7) (j := a0v.At) (by kernel_rfl) (by kernel_rfl) (slv (by kernel_rfl) hA8) (by kernel_rfl) (by kernel_rfl) (by kernel_rfl) g4.1 g4.2 ?_
   refine q_load (c := (hd (cd37 [0, 1, 0, 0]) 11)) (i := 10) (d := (some 17)) (ty := 24) (t := 24) (x := (.tmp 16)) (p := ⟨b6, p7 + a0v.At.toNat * 7, none⟩) (v := .agg (enc_api_Token (gt a0v.L a0v.At)).toArray) (by kernel_rfl) (by kernel_rfl) (by kernel_rfl) (fun w hC => (loads_agg (hc9.cells hC) (by kernel_rfl) (by kernel_rfl))) ?_
   refine Qs.nil ?_
   intro w10 hS11
   obtain ⟨t12, hr13, hp14⟩ := bind_some' hp5
   refine r_call1 (c := (cd37 [0, 1, 0, 0])) (i := 11) (d := (some 18)) (g := 29) (args := #[.pointer (some ⟨ba0, 0, none⟩), .agg (enc_api_Token (gt a0v.L a0v.At)).toArray, .int .i64 2]) (by kernel_rfl) (by kernel_rfl) (by kernel_rfl) (by kernel_rfl) (weirref06_reader__fail.ok (⟨a0v.L, a0v.At, a0v.Last, a0v.Deep, a0v.C, a0v.F⟩ : weirref06_reader) (gt a0v.L a0v.At) 2 ba0 Aa0v_0 ca0v_0 Aa0v_4 ca0v_4 hS11 ha0v_0 ha0v_4 hr13) ?_
   rintro _ w15 ⟨rfl, hS16⟩
   refine ⟨.tuple #[], rfl, ?_⟩
   refine sx_run 1 (todo' := [.code (cd37 [0, 1, 0, 1]), .code (cd37 [1])]) (us := []) (by kernel_rfl) ?_
   refine runs_ret (fn := Tryz.f37) (v := .tuple #[]) Tryz.func37 (by kernel_rfl) ?_
   have hr17 := (Option.some.inj hp14)
   cases hr17
   exact hR _ _ ⟨rfl, hS16⟩
  ·skip
   have hp18 := ite_f hp0 h2
   refine sx_run 8 (todo' := [.inRegion (opsOf (cd37 [1, 0])) [3, 4, 5, 6, 7], .code (cd37 [1, 1])]) (us := [(19, .pointer (some ⟨ba0, 0, none⟩)), (20, .pointer (some ⟨ba0, 0, none⟩)), (21, .pointer (some ⟨ba0, 9, none⟩))]) (by kernel_rfl) ?_
   refine r_load (c := (cd37 [1, 0])) (i := 3) (d := (some 22)) (ty := 3) (t := 3) (x := (.tmp 21)) (p := ⟨ba0, 9, none⟩) (v := .int .i64 a0v.Deep) (by kernel_rfl) (by kernel_rfl) (by kernel_rfl) (loads_at 9 (hS0.blk 0 rfl) (by kernel_rfl) (by kernel_rfl)) ?_
   refine sx_run 3 (todo' := [.inRegion (opsOf (cd37 [1, 0])) [7], .code (cd37 [1, 1])]) (us := [(23, .int .i64 (IntKind.i64.wrap (a0v.Deep + 1))), (24, .pointer (some ⟨ba0, 0, none⟩)), (25, .pointer (some ⟨ba0, 9, none⟩))]) (by kernel_rfl) ?_
   refine r_store (c := (cd37 [1, 0])) (i := 7) (d := none) (ty := 0) (t := 3) (x := (.tmp 25)) (y := (.tmp 23)) (b := ba0) (o := 9) (e := 48) (cs := [.slice Aa0v_0 a0v.L.length ca0v_0] ++ [.int .i64 a0v.At] ++ (enc_api_Token a0v.Last) ++ [.int .i64 a0v.Deep] ++ [.slice Aa0v_4 a0v.C.length ca0v_4] ++ (enc_weirref05_Fault a0v.F)) (v := .int .i64 (IntKind.i64.wrap (a0v.Deep + 1))) (vs := [.int .i64 (IntKind.i64.wrap (a0v.Deep + 1))]) (cs' := [.slice Aa0v_0 a0v.L.length ca0v_0] ++ [.int .i64 a0v.At] ++ (enc_api_Token a0v.Last) ++ [.int .i64 (IntKind.i64.wrap (a0v.Deep + 1))] ++ [.slice Aa0v_4 a0v.C.length ca0v_4] ++ (enc_weirref05_Fault a0v.F)) hS0 (by kernel_rfl) (by kernel_rfl) (by kernel_rfl) (by kernel_rfl) (by kernel_rfl) (by kernel_rfl) (by kernel_rfl) (Nat.le_of_ble_eq_true (by kernel_rfl)) (by kernel_rfl) ?_
   intro w19 hS20
   refine sx_run 3 (todo' := [.inRegion (opsOf (cd37 [1, 1])) [1]]) (us := [(26, .pointer (some ⟨ba0, 0, none⟩))]) (by kernel_rfl) ?_
   obtain ⟨⟨t21, t22, t23⟩, hr24, hp25⟩ := bind_some' hp18
   try dsimp only at hp25
   refine r_call1 (c := (cd37 [1, 1])) (i := 1) (d := (some 27)) (g := 18) (args := #[.pointer (some ⟨ba0, 0, none⟩)]) (by kernel_rfl) (by kernel_rfl) (by kernel_rfl) (by kernel_rfl) (weirref06_reader__take.ok (⟨a0v.L, a0v.At, a0v.Last, (IntKind.i64.wrap (a0v.Deep + 1)), a0v.C, a0v.F⟩ : weirref06_reader) ba0 Aa0v_0 ca0v_0 Aa0v_4 ca0v_4 hS20 ha0v_0 ha0v_4 hr24) ?_
   rintro _ w26 ⟨rfl, hS27⟩
   refine ⟨.agg (enc_api_Token t21).toArray, rfl, ?_⟩
   refine sx_run 1 (todo' := []) (us := []) (by kernel_rfl) ?_
   refine runs_end (fn := Tryz.f37) (v := .tuple #[]) Tryz.func37 (by kernel_rfl) ?_
   have hr28 := (Option.some.inj hp25)
   cases hr28
   exact hR _ _ ⟨rfl, hS27⟩

noncomputable def cd45 (p : List Nat) : Code := sub (bodyOf Tryz.f45) p
def weirref06_thread.l0 (a0 : ByteArray) (t17 : Int) (t18 : Int) : Option (Sum Int Int) :=
  (if (decide (t18 < (a0.size : Int))) = true then (if 0 ≤ t18 ∧ t18 < (a0.size : Int) then (if (decide ((byt a0 t18) < 48)) = true then some (.inr ((-1))) else (if 0 ≤ t18 ∧ t18 < (a0.size : Int) then (if (decide ((byt a0 t18) > 57)) = true then some (.inr ((-1))) else (if (decide (t18 > 3)) = true then some (.inr ((-1))) else (if 0 ≤ t18 ∧ t18 < (a0.size : Int) then (weirref06_thread.l0 a0 (IntKind.i64.wrap ((IntKind.i64.wrap (10 * t17)) + (IntKind.i64.wrap (IntKind.u8.wrap ((byt a0 t18) - 48))))) (IntKind.i64.wrap (t18 + 1))) else none))) else none)) else none) else some (.inl t17))
 partial_fixpoint
def weirref06_thread.f (a0 : ByteArray) : Option Int :=
  (weirref06_thread.l0 a0 0 0 >>= (fun | .inl t4 => (if ((a0.size : Int) == 0) = true then some ((-1)) else some (t4)) | .inr e => some e))
set_option maxHeartbeats 16000000 in
theorem weirref06_thread.ok (a0 : ByteArray) {w0 : World} {Z : Zm} {fs : List XObj} {w : World} (hS0 : St w0 Z (fs) w) {q0 : Int} (hp0 : weirref06_thread.f a0 = some q0) :
    Calls Tryz.prog 45 #[.string a0] w (fun e w' => e = .returned (.int .i64 q0) ∧ St w0 Z (fs) w') := by
  refine calls_abs ?_; intro R hR
  unfold weirref06_thread.f at hp0
  refine calls_of_runs (fn := Tryz.f45) (c := cd45 []) Tryz.func45 (by kernel_rfl) (al := [.string a0]) rfl (n := 36) rfl ?_
  refine sx_run 15 (todo' := [.code (cd45 [1, 1, 0, 1, 0, 0]), .inLoop (cd45 [1, 1, 0, 1, 0, 0]), .inBlock 0, .code (cd45 [1, 1, 1])]) (us := [(2, .int .i64 0), (3, .int .i64 0), (4, .int .i64 0)]) (by kernel_rfl) ?_
  obtain ⟨v1, hv2, hp3⟩ := bind_some' hp0
  have hq7 : ∀ x, Sum.inr x = v1 → x = q0 := by intro x hx; subst hx; simpa using hp3
  have J8 : ∀ (t4 : Int) (he10 : Sum.inl t4 = v1) (l9 : List Value) (w5 : World) (hS6 : St w0 Z (fs) w5), Runs Tryz.prog (fx 45) [.code (cd45 [1, 1, 1])] (fill [some (.string a0), none, none, some (.int .i64 t4), none, none, none, none, none, none, none, none, none, none, none, none, none, none, none, none, none, none, none, none, none, none, none, none, none, none, none, none, none, none, none, none, none] l9) w5 R := by
   intro t4 he10 l9 w5 hS6
   subst he10
   try dsimp only at hp3
   refine sx_split 6 (todo' := [.inRegion (opsOf (cd45 [1, 1, 1, 0, 0])) [], .code (cd45 [1, 1, 1, 0, 1]), .code (cd45 [1, 1, 1, 1])]) (us := [(33, .string a0), (34, .int .i64 (a0.size : Int))]) (d := 35) (t := ((a0.size : Int) == 0)) (by kernel_rfl) (fun h11 => ?_) (fun h12 => ?_)
   ·skip
    have hp13 := ite_t hp3 h11
    refine sx_run 6 (todo' := [.code (cd45 [1, 1, 1, 0, 1, 0, 1]), .code (cd45 [1, 1, 1, 1])]) (us := [(2, .int .i64 (-1))]) (by kernel_rfl) ?_
    refine runs_ret (fn := Tryz.f45) (v := .int .i64 (-1)) Tryz.func45 (by kernel_rfl) ?_
    have hr14 := (Option.some.inj hp13)
    cases hr14
    exact hR _ _ ⟨rfl, hS6⟩
   ·skip
    have hp15 := ite_f hp3 h12
    refine sx_run 8 (todo' := [.code (cd45 [1, 1, 1, 1, 1])]) (us := [(36, .int .i64 t4), (2, .int .i64 t4)]) (by kernel_rfl) ?_
    refine runs_ret (fn := Tryz.f45) (v := .int .i64 t4) Tryz.func45 (by kernel_rfl) ?_
    have hr16 := (Option.some.inj hp15)
    cases hr16
    exact hR _ _ ⟨rfl, hS6⟩
  have L27 : ∀ (t17 : Int) (t18 : Int) (e22 : Sum Int Int), weirref06_thread.l0 a0 t17 t18 = some e22 → e22 = v1 → ∀ (l21 : List Value) (w19 : World) (hS20 : St w0 Z (fs) w19), Runs Tryz.prog (fx 45) [.code (cd45 [1, 1, 0, 1, 0, 0]), .inLoop (cd45 [1, 1, 0, 1, 0, 0]), .inBlock 0, .code (cd45 [1, 1, 1])] (fill [some (.string a0), none, none, some (.int .i64 t17), some (.int .i64 t18), none, none, none, none, none, none, none, none, none, none, none, none, none, none, none, none, none, none, none, none, none, none, none, none, none, none, none, none, none, none, none, none] l21) w19 R := by
   refine weirref06_thread.l0.partial_correctness a0 (fun t17 t18 e22 => e22 = v1 → ∀ (l21 : List Value) (w19 : World) (hS20 : St w0 Z (fs) w19), Runs Tryz.prog (fx 45) [.code (cd45 [1, 1, 0, 1, 0, 0]), .inLoop (cd45 [1, 1, 0, 1, 0, 0]), .inBlock 0, .code (cd45 [1, 1, 1])] (fill [some (.string a0), none, none, some (.int .i64 t17), some (.int .i64 t18), none, none, none, none, none, none, none, none, none, none, none, none, none, none, none, none, none, none, none, none, none, none, none, none, none, none, none, none, none, none, none, none] l21) w19 R) ?_
   intro rec26 ih25 t17 t18 e22 hb24 he23 l21 w19 hS20
   have hq28 : ∀ x, Sum.inr x = e22 → x = q0 := fun x hx => hq7 x (hx.trans he23)
   refine sx_split 7 (todo' := [.inRegion (opsOf (cd45 [1, 1, 0, 1, 0, 0, 0, 0])) [], .code (cd45 [1, 1, 0, 1, 0, 0, 0, 1]), .code (cd45 [1, 1, 0, 1, 0, 0, 1]), .inLoop (cd45 [1, 1, 0, 1, 0, 0]), .inBlock 0, .code (cd45 [1, 1, 1])]) (us := [(5, .int .i64 t18), (6, .string a0), (7, .int .i64 (a0.size : Int))]) (d := 8) (t := (decide (t18 < (a0.size : Int)))) (by kernel_rfl) (fun h29 => ?_) (fun h30 => ?_)
   ·skip
    have hp31 := ite_t hb24 h29
    refine sx_run 10 (todo' := [.inRegion (opsOf (cd45 [1, 1, 0, 1, 0, 0, 1, 0, 0, 0, 0])) [2, 3, 4, 5, 6, 7, 8, 9, 10, 11, 12, 13], .code (cd45 [1, 1, 0, 1, 0, 0, 1, 0, 0, 0, 1]), .code (cd45 [1, 1, 0, 1, 0, 0, 1, 0, 0, 1]), .inBlock 1, .code (cd45 [1, 1, 0, 1, 0, 0, 1, 1]), .inLoop (cd45 [1, 1, 0, 1, 0, 0]), .inBlock 0, .code (cd45 [1, 1, 1])]) (us := [(11, .string a0), (12, .int .i64 t18)]) (by kernel_rfl) ?_
    obtain ⟨g32, hp33⟩ := ite_some hp31
    refine r_val (c := (cd45 [1, 1, 0, 1, 0, 0, 1, 0, 0, 0, 0])) (i := 2) (d := (some 13)) (ty := 5) (op := .index 9 (.tmp 11) (.tmp 12)) (v := .int .u8 (byt a0 t18)) (by kernel_rfl) (by kernel_rfl) (fun o ho _ => x_indexStr (kk := .i64) (by kernel_rfl) (by kernel_rfl) (by kernel_rfl) g32.1 g32.2 ho) ?_
    refine sx_split 1 (todo' := [.inRegion (opsOf (cd45 [1, 1, 0, 1, 0, 0, 1, 0, 0, 0, 0])) [4, 5, 6, 7, 8, 9, 10, 11, 12, 13], .code (cd45 [1, 1, 0, 1, 0, 0, 1, 0, 0, 0, 1]), .code (cd45 [1, 1, 0, 1, 0, 0, 1, 0, 0, 1]), .inBlock 1, .code (cd45 [1, 1, 0, 1, 0, 0, 1, 1]), .inLoop (cd45 [1, 1, 0, 1, 0, 0]), .inBlock 0, .code (cd45 [1, 1, 1])]) (us := []) (d := 14) (t := (decide ((byt a0 t18) < 48))) (by kernel_rfl) (fun h34 => ?_) (fun h35 => ?_)
    ·skip
     have hp36 := ite_t hp33 h34
     refine sx_run 16 (todo' := [.code (cd45 [1, 1, 0, 1, 0, 0, 1, 0, 0, 0, 1, 0, 1]), .code (cd45 [1, 1, 0, 1, 0, 0, 1, 0, 0, 1]), .inBlock 1, .code (cd45 [1, 1, 0, 1, 0, 0, 1, 1]), .inLoop (cd45 [1, 1, 0, 1, 0, 0]), .inBlock 0, .code (cd45 [1, 1, 1])]) (us := [(15, .bool true), (16, undef), (17, undef), (18, undef), (19, undef), (20, .bool true), (21, .bool true), (22, undef), (23, undef), (24, .bool true), (2, .int .i64 (-1))]) (by kernel_rfl) ?_
     refine runs_ret (fn := Tryz.f45) (v := .int .i64 (-1)) Tryz.func45 (by kernel_rfl) ?_
     have hr37 := (hq28 _ (Option.some.inj hp36))
     cases hr37
     exact hR _ _ ⟨rfl, hS20⟩
    ·skip
     have hp38 := ite_f hp33 h35
     refine sx_run 3 (todo' := [.inRegion (opsOf (cd45 [1, 1, 0, 1, 0, 0, 1, 0, 0, 0, 0])) [7, 8, 9, 10, 11, 12, 13], .code (cd45 [1, 1, 0, 1, 0, 0, 1, 0, 0, 0, 1]), .code (cd45 [1, 1, 0, 1, 0, 0, 1, 0, 0, 1]), .inBlock 1, .code (cd45 [1, 1, 0, 1, 0, 0, 1, 1]), .inLoop (cd45 [1, 1, 0, 1, 0, 0]), .inBlock 0, .code (cd45 [1, 1, 1])]) (us := [(15, .bool false), (16, .string a0), (17, .int .i64 t18)]) (by kernel_rfl) ?_
     obtain ⟨g39, hp40⟩ := ite_some hp38
     refine r_val (c := (cd45 [1, 1, 0, 1, 0, 0, 1, 0, 0, 0, 0])) (i := 7) (d := (some 18)) (ty := 5) (op := .index 9 (.tmp 16) (.tmp 17)) (v := .int .u8 (byt a0 t18)) (by kernel_rfl) (by kernel_rfl) (fun o ho _ => x_indexStr (kk := .i64) (by kernel_rfl) (by kernel_rfl) (by kernel_rfl) g39.1 g39.2 ho) ?_
     refine sx_split 1 (todo' := [.inRegion (opsOf (cd45 [1, 1, 0, 1, 0, 0, 1, 0, 0, 0, 0])) [9, 10, 11, 12, 13], .code (cd45 [1, 1, 0, 1, 0, 0, 1, 0, 0, 0, 1]), .code (cd45 [1, 1, 0, 1, 0, 0, 1, 0, 0, 1]), .inBlock 1, .code (cd45 [1, 1, 0, 1, 0, 0, 1, 1]), .inLoop (cd45 [1, 1, 0, 1, 0, 0]), .inBlock 0, .code (cd45 [1, 1, 1])]) (us := []) (d := 19) (t := (decide ((byt a0 t18) > 57))) (by kernel_rfl) (fun h41 => ?_) (fun h42 => ?_)
     ·skip
      have hp43 := ite_t hp40 h41
      refine sx_run 11 (todo' := [.code (cd45 [1, 1, 0, 1, 0, 0, 1, 0, 0, 0, 1, 0, 1]), .code (cd45 [1, 1, 0, 1, 0, 0, 1, 0, 0, 1]), .inBlock 1, .code (cd45 [1, 1, 0, 1, 0, 0, 1, 1]), .inLoop (cd45 [1, 1, 0, 1, 0, 0]), .inBlock 0, .code (cd45 [1, 1, 1])]) (us := [(20, .bool true), (21, .bool true), (22, undef), (23, undef), (24, .bool true), (2, .int .i64 (-1))]) (by kernel_rfl) ?_
      refine runs_ret (fn := Tryz.f45) (v := .int .i64 (-1)) Tryz.func45 (by kernel_rfl) ?_
      have hr44 := (hq28 _ (Option.some.inj hp43))
      cases hr44
      exact hR _ _ ⟨rfl, hS20⟩
     ·skip
      have hp45 := ite_f hp40 h42
      refine sx_split 4 (todo' := [.inRegion (opsOf (cd45 [1, 1, 0, 1, 0, 0, 1, 0, 0, 0, 0])) [13], .code (cd45 [1, 1, 0, 1, 0, 0, 1, 0, 0, 0, 1]), .code (cd45 [1, 1, 0, 1, 0, 0, 1, 0, 0, 1]), .inBlock 1, .code (cd45 [1, 1, 0, 1, 0, 0, 1, 1]), .inLoop (cd45 [1, 1, 0, 1, 0, 0]), .inBlock 0, .code (cd45 [1, 1, 1])]) (us := [(20, .bool false), (21, .bool false), (22, .int .i64 t18)]) (d := 23) (t := (decide (t18 > 3))) (by kernel_rfl) (fun h46 => ?_) (fun h47 => ?_)
      ·skip
       have hp48 := ite_t hp45 h46
       refine sx_run 7 (todo' := [.code (cd45 [1, 1, 0, 1, 0, 0, 1, 0, 0, 0, 1, 0, 1]), .code (cd45 [1, 1, 0, 1, 0, 0, 1, 0, 0, 1]), .inBlock 1, .code (cd45 [1, 1, 0, 1, 0, 0, 1, 1]), .inLoop (cd45 [1, 1, 0, 1, 0, 0]), .inBlock 0, .code (cd45 [1, 1, 1])]) (us := [(24, .bool true), (2, .int .i64 (-1))]) (by kernel_rfl) ?_
       refine runs_ret (fn := Tryz.f45) (v := .int .i64 (-1)) Tryz.func45 (by kernel_rfl) ?_
       have hr49 := (hq28 _ (Option.some.inj hp48))
       cases hr49
       exact hR _ _ ⟨rfl, hS20⟩
      ·skip
       have hp50 := ite_f hp45 h47
       refine sx_run 9 (todo' := [.inRegion (opsOf (cd45 [1, 1, 0, 1, 0, 0, 1, 0, 0, 1])) [4, 5, 6, 7, 8], .inBlock 1, .code (cd45 [1, 1, 0, 1, 0, 0, 1, 1]), .inLoop (cd45 [1, 1, 0, 1, 0, 0]), .inBlock 0, .code (cd45 [1, 1, 1])]) (us := [(24, .bool false), (25, .int .i64 t17), (26, .int .i64 (IntKind.i64.wrap (10 * t17))), (27, .string a0), (28, .int .i64 t18)]) (by kernel_rfl) ?_
       obtain ⟨g51, hp52⟩ := ite_some hp50
       refine r_val (c := (cd45 [1, 1, 0, 1, 0, 0, 1, 0, 0, 1])) (i := 4) (d := (some 29)) (ty := 5) (op := .index 9 (.tmp 27) (.tmp 28)) (v := .int .u8 (byt a0 t18)) (by kernel_rfl) (by kernel_rfl) (fun o ho _ => x_indexStr (kk := .i64) (by kernel_rfl) (by kernel_rfl) (by kernel_rfl) g51.1 g51.2 ho) ?_
       refine sx_run 11 (todo' := [.inLoop (cd45 [1, 1, 0, 1, 0, 0]), .inBlock 0, .code (cd45 [1, 1, 1])]) (us := [(30, .int .u8 (IntKind.u8.wrap ((byt a0 t18) - 48))), (31, .int .i64 (IntKind.i64.wrap (IntKind.u8.wrap ((byt a0 t18) - 48)))), (32, .int .i64 (IntKind.i64.wrap ((IntKind.i64.wrap (10 * t17)) + (IntKind.i64.wrap (IntKind.u8.wrap ((byt a0 t18) - 48)))))), (3, .int .i64 (IntKind.i64.wrap ((IntKind.i64.wrap (10 * t17)) + (IntKind.i64.wrap (IntKind.u8.wrap ((byt a0 t18) - 48)))))), (9, .int .i64 t18), (10, .int .i64 (IntKind.i64.wrap (t18 + 1))), (4, .int .i64 (IntKind.i64.wrap (t18 + 1)))]) (by kernel_rfl) ?_
       refine sx_run 1 (todo' := [.code (cd45 [1, 1, 0, 1, 0, 0]), .inLoop (cd45 [1, 1, 0, 1, 0, 0]), .inBlock 0, .code (cd45 [1, 1, 1])]) (us := []) (by kernel_rfl) ?_
       refine Runs.fill (m := [some (.string a0), none, none, some (.int .i64 (IntKind.i64.wrap ((IntKind.i64.wrap (10 * t17)) + (IntKind.i64.wrap (IntKind.u8.wrap ((byt a0 t18) - 48)))))), some (.int .i64 (IntKind.i64.wrap (t18 + 1))), none, none, none, none, none, none, none, none, none, none, none, none, none, none, none, none, none, none, none, none, none, none, none, none, none, none, none, none, none, none, none, none]) (by kernel_rfl) ?_
       exact ih25 (IntKind.i64.wrap ((IntKind.i64.wrap (10 * t17)) + (IntKind.i64.wrap (IntKind.u8.wrap ((byt a0 t18) - 48))))) (IntKind.i64.wrap (t18 + 1)) _ hp52 he23 _ _ hS20
   ·skip
    have hp53 := ite_f hb24 h30
    refine sx_run 3 (todo' := [.code (cd45 [1, 1, 1])]) (us := []) (by kernel_rfl) ?_
    refine Runs.fill (m := [some (.string a0), none, none, some (.int .i64 t17), none, none, none, none, none, none, none, none, none, none, none, none, none, none, none, none, none, none, none, none, none, none, none, none, none, none, none, none, none, none, none, none, none]) (by kernel_rfl) ?_
    exact J8 t17 ((Option.some.inj hp53).trans he23) _ _ hS20
  refine Runs.fill (m := [some (.string a0), none, none, some (.int .i64 0), some (.int .i64 0), none, none, none, none, none, none, none, none, none, none, none, none, none, none, none, none, none, none, none, none, none, none, none, none, none, none, none, none, none, none, none, none]) (by kernel_rfl) ?_
  exact L27 0 0 _ hv2 rfl _ _ hS0

noncomputable def cd43 (p : List Nat) : Code := sub (bodyOf Tryz.f43) p
def weirref06_reader__syntax.f (a0v : weirref06_reader) : Option weirref05_Fault :=
  (((if (decide ((a0v.L.length : Int) > 0)) = true then (if 0 ≤ (IntKind.i64.wrap ((a0v.L.length : Int) - 1)) ∧ (IntKind.i64.wrap ((a0v.L.length : Int) - 1)) < (a0v.L.length : Int) then some ((gt a0v.L (IntKind.i64.wrap ((a0v.L.length : Int) - 1)))) else none) else some ((⟨0, (⟨#[]⟩ : ByteArray), 0, 0, 0, 0, 0⟩ : api_Token))) : Option api_Token) >>= (fun t10 => (if (decide (a0v.At < (a0v.L.length : Int))) = true then (if 0 ≤ a0v.At ∧ a0v.At < (a0v.L.length : Int) then (weirref06_reader__fail.f (⟨a0v.L, a0v.At, a0v.Last, a0v.Deep, a0v.C, a0v.F⟩ : weirref06_reader) (gt a0v.L a0v.At) 70 >>= (fun t32 => some (t32))) else none) else (weirref06_reader__fail.f (⟨a0v.L, a0v.At, a0v.Last, a0v.Deep, a0v.C, a0v.F⟩ : weirref06_reader) t10 70 >>= (fun t44 => some (t44))))))
set_option maxHeartbeats 16000000 in
theorem weirref06_reader__syntax.ok (a0v : weirref06_reader) (ba0 : Nat) (Aa0v_0 : Option Addr) (ca0v_0 : Nat) (Aa0v_4 : Option Addr) (ca0v_4 : Nat) {w0 : World} {Z : Zm} {fs : List XObj} {w : World} (hS0 : St w0 Z (xblk ba0 48 ([.slice Aa0v_0 a0v.L.length ca0v_0] ++ [.int .i64 a0v.At] ++ (enc_api_Token a0v.Last) ++ [.int .i64 a0v.Deep] ++ [.slice Aa0v_4 a0v.C.length ca0v_4] ++ (enc_weirref05_Fault a0v.F)) :: fs) w) (ha0v_0 : SlZ (flat enc_api_Token) 7 Z Aa0v_0 ca0v_0 a0v.L) (ha0v_4 : SlZ (flat enc_api_Node) 6 Z Aa0v_4 ca0v_4 a0v.C) {q0 : weirref05_Fault} (hp0 : weirref06_reader__syntax.f a0v = some q0) :
    Calls Tryz.prog 43 #[.pointer (some ⟨ba0, 0, none⟩)] w (fun e w' => e = .returned (.tuple #[]) ∧ St w0 Z (xblk ba0 48 ([.slice Aa0v_0 a0v.L.length ca0v_0] ++ [.int .i64 a0v.At] ++ (enc_api_Token a0v.Last) ++ [.int .i64 a0v.Deep] ++ [.slice Aa0v_4 a0v.C.length ca0v_4] ++ (enc_weirref05_Fault q0)) :: fs) w') := by
  refine calls_abs ?_; intro R hR
  unfold weirref06_reader__syntax.f at hp0
  refine calls_of_runs (fn := Tryz.f43) (c := cd43 []) Tryz.func43 (by kernel_rfl) (al := [.pointer (some ⟨ba0, 0, none⟩)]) rfl (n := 44) rfl ?_
  refine sx_run 3 (todo' := [.inRegion (opsOf (cd43 [0])) [1, 2], .code (cd43 [1])]) (us := [(3, .agg (enc_api_Token (⟨0, (⟨#[]⟩ : ByteArray), 0, 0, 0, 0, 0⟩ : api_Token)).toArray)]) (by kernel_rfl) ?_
  refine r_alloc (c := (cd43 [0])) (i := 1) (d := (some 2)) (ty := 0) (z := .agg (enc_api_Token (⟨0, (⟨#[]⟩ : ByteArray), 0, 0, 0, 0, 0⟩ : api_Token)).toArray) (t := 24) (cs := enc_api_Token (⟨0, (⟨#[]⟩ : ByteArray), 0, 0, 0, 0, 0⟩ : api_Token)) hS0 (by kernel_rfl) (by kernel_rfl) (by kernel_rfl) (by kernel_rfl) ?_
  intro b1 w2 hS3
  refine r_store (c := (cd43 [0])) (i := 2) (d := none) (ty := 0) (t := 24) (x := (.tmp 2)) (y := (.tmp 3)) (b := b1) (o := 0) (e := 24) (cs := enc_api_Token (⟨0, (⟨#[]⟩ : ByteArray), 0, 0, 0, 0, 0⟩ : api_Token)) (v := .agg (enc_api_Token (⟨0, (⟨#[]⟩ : ByteArray), 0, 0, 0, 0, 0⟩ : api_Token)).toArray) (vs := enc_api_Token (⟨0, (⟨#[]⟩ : ByteArray), 0, 0, 0, 0, 0⟩ : api_Token)) (cs' := enc_api_Token (⟨0, (⟨#[]⟩ : ByteArray), 0, 0, 0, 0, 0⟩ : api_Token)) hS3 (by kernel_rfl) (by kernel_rfl) (by kernel_rfl) (by kernel_rfl) (by kernel_rfl) (by kernel_rfl) (one_api_Token _) (Nat.le_of_ble_eq_true (by kernel_rfl)) (by kernel_rfl) ?_
  intro w5 hS6
  refine sx_run 7 (todo' := [.inRegion (opsOf (cd43 [1, 0, 0])) [3, 4, 5], .code (cd43 [1, 0, 1]), .code (cd43 [1, 1])]) (us := [(4, .pointer (some ⟨ba0, 0, none⟩)), (5, .pointer (some ⟨ba0, 0, none⟩)), (6, .pointer (some ⟨ba0, 0, none⟩))]) (by kernel_rfl) ?_
  refine r_load (c := (cd43 [1, 0, 0])) (i := 3) (d := (some 7)) (ty := 22) (t := 22) (x := (.tmp 6)) (p := ⟨ba0, 0, none⟩) (v := .slice Aa0v_0 a0v.L.length ca0v_0) (by kernel_rfl) (by kernel_rfl) (by kernel_rfl) (loads_at 0 (hS6.blk 1 rfl) (by kernel_rfl) (by kernel_rfl)) ?_
  obtain ⟨v7, hv8, hp9⟩ := bind_some' hp0
  have J13 : ∀ (t10 : api_Token) (he15 : t10 = v7) (l14 : List Value) (w11 : World) (hS12 : St w0 Z (xblk ba0 48 ([.slice Aa0v_0 a0v.L.length ca0v_0] ++ [.int .i64 a0v.At] ++ (enc_api_Token a0v.Last) ++ [.int .i64 a0v.Deep] ++ [.slice Aa0v_4 a0v.C.length ca0v_4] ++ (enc_weirref05_Fault a0v.F)) :: xblk b1 24 (enc_api_Token t10) :: fs) w11), Runs Tryz.prog (fx 43) [.code (cd43 [1, 1])] (fill [some (.pointer (some ⟨ba0, 0, none⟩)), none, some (.pointer (some ⟨b1, 0, none⟩)), none, none, none, none, none, none, none, none, none, none, none, none, none, none, none, none, none, none, none, none, none, none, none, none, none, none, none, none, none, none, none, none, none, none, none, none, none, none, none, none, none, none] l14) w11 R := by
   intro t10 he15 l14 w11 hS12
   subst he15
   try dsimp only at hp9
   refine sx_run 2 (todo' := [.code (cd43 [1, 1, 0, 0]), .code (cd43 [1, 1, 0, 1]), .code (cd43 [1, 1, 1])]) (us := []) (by kernel_rfl) ?_
   refine r_quiet hS12 (c := (cd43 [1, 1, 0, 0])) (id := 3) (by kernel_rfl) (by kernel_rfl) (by kernel_rfl) (is := [0, 1, 2, 3, 4, 5, 6, 7, 8, 9]) (by kernel_rfl) ?_
   refine q_run 3 (is' := [3, 4, 5, 6, 7, 8, 9]) (us := [(22, .pointer (some ⟨ba0, 0, none⟩)), (23, .pointer (some ⟨ba0, 0, none⟩)), (24, .pointer (some ⟨ba0, 1, none⟩))]) (by kernel_rfl) ?_
   refine q_load (c := (cd43 [1, 1, 0, 0])) (i := 3) (d := (some 25)) (ty := 3) (t := 3) (x := (.tmp 24)) (p := ⟨ba0, 1, none⟩) (v := .int .i64 a0v.At) (by kernel_rfl) (by kernel_rfl) (by kernel_rfl) (fun w hC => (loads_at 1 (hC.blk 0 rfl) (by kernel_rfl) (by kernel_rfl))) ?_
   refine q_run 3 (is' := [7, 8, 9]) (us := [(26, .pointer (some ⟨ba0, 0, none⟩)), (27, .pointer (some ⟨ba0, 0, none⟩)), (28, .pointer (some ⟨ba0, 0, none⟩))]) (by kernel_rfl) ?_
   refine q_load (c := (cd43 [1, 1, 0, 0])) (i := 7) (d := (some 29)) (ty := 22) (t := 22) (x := (.tmp 28)) (p := ⟨ba0, 0, none⟩) (v := .slice Aa0v_0 a0v.L.length ca0v_0) (by kernel_rfl) (by kernel_rfl) (by kernel_rfl) (fun w hC => (loads_at 0 (hC.blk 0 rfl) (by kernel_rfl) (by kernel_rfl))) ?_
   refine q_splitr 2 (is' := []) (us := [(30, .int .i64 (a0v.L.length : Int))]) (d := 31) (t := (decide (a0v.At < (a0v.L.length : Int)))) (by kernel_rfl) (fun h16 => ?_) (fun h17 => ?_)
   ·skip
    have hp18 := ite_t hp9 h16
    refine Qs.nil ?_
    intro w19 hS20
    refine sx_run 1 (todo' := [.code (cd43 [1, 1, 0, 1, 0]), .code (cd43 [1, 1, 1])]) (us := []) (by kernel_rfl) ?_
    refine r_drawn3 (C := St w0 Z (xblk ba0 48 ([.slice Aa0v_0 a0v.L.length ca0v_0] ++ [.int .i64 a0v.At] ++ (enc_api_Token a0v.Last) ++ [.int .i64 a0v.Deep] ++ [.slice Aa0v_4 a0v.C.length ca0v_4] ++ (enc_weirref05_Fault a0v.F)) :: xblk b1 24 (enc_api_Token t10) :: fs)) (c := (cd43 [1, 1, 0, 1, 0])) (id := 4) (by kernel_rfl) (by kernel_rfl) 10 (Nat.le_of_ble_eq_true (by kernel_rfl)) (by kernel_rfl) (by kernel_rfl) (by kernel_rfl) (is := [0, 1, 2, 3, 4, 5, 6, 7, 8, 9]) (rest := [10]) (by kernel_rfl) (by kernel_rfl) hS20.drew ?_
    refine q_run 3 (is' := [3, 4, 5, 6, 7, 8, 9]) (us := [(32, .pointer (some ⟨ba0, 0, none⟩)), (33, .pointer (some ⟨ba0, 0, none⟩)), (34, .pointer (some ⟨ba0, 0, none⟩))]) (by kernel_rfl) ?_
    refine q_load (c := (hd (cd43 [1, 1, 0, 1, 0]) 10)) (i := 3) (d := (some 35)) (ty := 22) (t := 22) (x := (.tmp 34)) (p := ⟨ba0, 0, none⟩) (v := .slice Aa0v_0 a0v.L.length ca0v_0) (by kernel_rfl) (by kernel_rfl) (by kernel_rfl) (fun w hC => (loads_at 0 (hC.blk 0 rfl) (by kernel_rfl) (by kernel_rfl))) ?_
    refine q_run 3 (is' := [7, 8, 9]) (us := [(36, .pointer (some ⟨ba0, 0, none⟩)), (37, .pointer (some ⟨ba0, 0, none⟩)), (38, .pointer (some ⟨ba0, 1, none⟩))]) (by kernel_rfl) ?_
    refine q_load (c := (hd (cd43 [1, 1, 0, 1, 0]) 10)) (i := 7) (d := (some 39)) (ty := 3) (t := 3) (x := (.tmp 38)) (p := ⟨ba0, 1, none⟩) (v := .int .i64 a0v.At) (by kernel_rfl) (by kernel_rfl) (by kernel_rfl) (fun w hC => (loads_at 1 (hC.blk 0 rfl) (by kernel_rfl) (by kernel_rfl))) ?_
    obtain ⟨g21, hp22⟩ := ite_some hp18
    obtain ⟨b23, p24, hA25, hc26⟩ := ha0v_0.atF g21.1 g21.2
    refine q_indexAddr (c := (hd (cd43 [1, 1, 0, 1, 0]) 10)) (i := 8) (d := (some 40)) (ty := 0) (t := 22) (e := 24) (n := a0v.L.length) (cp := ca0v_0) (sz := 7) (kk := .i64) (x := (.tmp 35)) (y := (.tmp 39)) (b := b23) (o' := p24) (j := a0v.At) (by kernel_rfl) (by kernel_rfl) (slv (by kernel_rfl) hA25) (by kernel_rfl) (by kernel_rfl) (by kernel_rfl) g21.1 g21.2 ?_
    refine q_load (c := (hd (cd43 [1, 1, 0, 1, 0]) 10)) (i := 9) (d := (some 41)) (ty := 24) (t := 24) (x := (.tmp 40)) (p := ⟨b23, p24 + a0v.At.toNat * 7, none⟩) (v := .agg (enc_api_Token (gt a0v.L a0v.At)).toArray) (by kernel_rfl) (by kernel_rfl) (by kernel_rfl) (fun w hC => (loads_agg (hc26.cells hC) (by kernel_rfl) (by kernel_rfl))) ?_
    refine Qs.nil ?_
    intro w27 hS28
    have hS29 := hS28.pick1
    refine r_store (c := (cd43 [1, 1, 0, 1, 0])) (i := 10) (d := none) (ty := 0) (t := 24) (x := (.tmp 2)) (y := (.tmp 41)) (b := b1) (o := 0) (e := 24) (cs := enc_api_Token t10) (v := .agg (enc_api_Token (gt a0v.L a0v.At)).toArray) (vs := enc_api_Token (gt a0v.L a0v.At)) (cs' := enc_api_Token (gt a0v.L a0v.At)) hS29 (by kernel_rfl) (by kernel_rfl) (by kernel_rfl) (by kernel_rfl) (by kernel_rfl) (by kernel_rfl) (one_api_Token _) (Nat.le_of_ble_eq_true (by kernel_rfl)) (by kernel_rfl) ?_
    intro w30 hS31
    refine sx_run 3 (todo' := [.inRegion (opsOf (cd43 [1, 1, 1])) [1, 2]]) (us := [(42, .pointer (some ⟨ba0, 0, none⟩))]) (by kernel_rfl) ?_
    refine r_load (c := (cd43 [1, 1, 1])) (i := 1) (d := (some 43)) (ty := 24) (t := 24) (x := (.tmp 2)) (p := ⟨b1, 0, none⟩) (v := .agg (enc_api_Token (gt a0v.L a0v.At)).toArray) (by kernel_rfl) (by kernel_rfl) (by kernel_rfl) (loads_agg (hS31.blk 0 rfl) (by kernel_rfl) (by kernel_rfl)) ?_
    obtain ⟨t32, hr33, hp34⟩ := bind_some' hp22
    have hS35 := hS31.pick1
    refine r_call1 (c := (cd43 [1, 1, 1])) (i := 2) (d := (some 44)) (g := 29) (args := #[.pointer (some ⟨ba0, 0, none⟩), .agg (enc_api_Token (gt a0v.L a0v.At)).toArray, .int .i64 70]) (by kernel_rfl) (by kernel_rfl) (by kernel_rfl) (by kernel_rfl) (weirref06_reader__fail.ok (⟨a0v.L, a0v.At, a0v.Last, a0v.Deep, a0v.C, a0v.F⟩ : weirref06_reader) (gt a0v.L a0v.At) 70 ba0 Aa0v_0 ca0v_0 Aa0v_4 ca0v_4 hS35 ha0v_0 ha0v_4 hr33) ?_
    rintro _ w36 ⟨rfl, hS37⟩
    refine ⟨.tuple #[], rfl, ?_⟩
    refine sx_run 1 (todo' := []) (us := []) (by kernel_rfl) ?_
    have hS38 := hS37.pick1
    have hS39 := hS38.drop
    refine runs_end (fn := Tryz.f43) (v := .tuple #[]) Tryz.func43 (by kernel_rfl) ?_
    have hr40 := (Option.some.inj hp34)
    cases hr40
    exact hR _ _ ⟨rfl, hS39⟩
   ·skip
    have hp41 := ite_f hp9 h17
    refine Qs.nil ?_
    intro w42 hS43
    refine sx_run 4 (todo' := [.inRegion (opsOf (cd43 [1, 1, 1])) [1, 2]]) (us := [(42, .pointer (some ⟨ba0, 0, none⟩))]) (by kernel_rfl) ?_
    refine r_load (c := (cd43 [1, 1, 1])) (i := 1) (d := (some 43)) (ty := 24) (t := 24) (x := (.tmp 2)) (p := ⟨b1, 0, none⟩) (v := .agg (enc_api_Token t10).toArray) (by kernel_rfl) (by kernel_rfl) (by kernel_rfl) (loads_agg (hS43.blk 1 rfl) (by kernel_rfl) (by kernel_rfl)) ?_
    obtain ⟨t44, hr45, hp46⟩ := bind_some' hp41
    refine r_call1 (c := (cd43 [1, 1, 1])) (i := 2) (d := (some 44)) (g := 29) (args := #[.pointer (some ⟨ba0, 0, none⟩), .agg (enc_api_Token t10).toArray, .int .i64 70]) (by kernel_rfl) (by kernel_rfl) (by kernel_rfl) (by kernel_rfl) (weirref06_reader__fail.ok (⟨a0v.L, a0v.At, a0v.Last, a0v.Deep, a0v.C, a0v.F⟩ : weirref06_reader) t10 70 ba0 Aa0v_0 ca0v_0 Aa0v_4 ca0v_4 hS43 ha0v_0 ha0v_4 hr45) ?_
    rintro _ w47 ⟨rfl, hS48⟩
    refine ⟨.tuple #[], rfl, ?_⟩
    refine sx_run 1 (todo' := []) (us := []) (by kernel_rfl) ?_
    have hS49 := hS48.pick1
    have hS50 := hS49.drop
    refine runs_end (fn := Tryz.f43) (v := .tuple #[]) Tryz.func43 (by kernel_rfl) ?_
    have hr51 := (Option.some.inj hp46)
    cases hr51
    exact hR _ _ ⟨rfl, hS50⟩
  refine sx_split 2 (todo' := [.inRegion (opsOf (cd43 [1, 0, 0])) [], .code (cd43 [1, 0, 1]), .code (cd43 [1, 1])]) (us := [(8, .int .i64 (a0v.L.length : Int))]) (d := 9) (t := (decide ((a0v.L.length : Int) > 0))) (by kernel_rfl) (fun h52 => ?_) (fun h53 => ?_)
  ·skip
   have hp54 := ite_t hv8 h52
   refine sx_run 2 (todo' := [.code (cd43 [1, 0, 1, 0]), .code (cd43 [1, 1])]) (us := []) (by kernel_rfl) ?_
   refine r_drawn3 (C := St w0 Z (xblk b1 24 (enc_api_Token (⟨0, (⟨#[]⟩ : ByteArray), 0, 0, 0, 0, 0⟩ : api_Token)) :: xblk ba0 48 ([.slice Aa0v_0 a0v.L.length ca0v_0] ++ [.int .i64 a0v.At] ++ (enc_api_Token a0v.Last) ++ [.int .i64 a0v.Deep] ++ [.slice Aa0v_4 a0v.C.length ca0v_4] ++ (enc_weirref05_Fault a0v.F)) :: fs)) (c := (cd43 [1, 0, 1, 0])) (id := 2) (by kernel_rfl) (by kernel_rfl) 12 (Nat.le_of_ble_eq_true (by kernel_rfl)) (by kernel_rfl) (by kernel_rfl) (by kernel_rfl) (is := [0, 1, 2, 3, 4, 5, 6, 7, 8, 9, 10, 11]) (rest := [12]) (by kernel_rfl) (by kernel_rfl) hS6.drew ?_
   refine q_run 3 (is' := [3, 4, 5, 6, 7, 8, 9, 10, 11]) (us := [(10, .pointer (some ⟨ba0, 0, none⟩)), (11, .pointer (some ⟨ba0, 0, none⟩)), (12, .pointer (some ⟨ba0, 0, none⟩))]) (by kernel_rfl) ?_
   refine q_load (c := (hd (cd43 [1, 0, 1, 0]) 12)) (i := 3) (d := (some 13)) (ty := 22) (t := 22) (x := (.tmp 12)) (p := ⟨ba0, 0, none⟩) (v := .slice Aa0v_0 a0v.L.length ca0v_0) (by kernel_rfl) (by kernel_rfl) (by kernel_rfl) (fun w hC => (loads_at 0 (hC.blk 1 rfl) (by kernel_rfl) (by kernel_rfl))) ?_
   refine q_run 3 (is' := [7, 8, 9, 10, 11]) (us := [(14, .pointer (some ⟨ba0, 0, none⟩)), (15, .pointer (some ⟨ba0, 0, none⟩)), (16, .pointer (some ⟨ba0, 0, none⟩))]) (by kernel_rfl) ?_
   refine q_load (c := (hd (cd43 [1, 0, 1, 0]) 12)) (i := 7) (d := (some 17)) (ty := 22) (t := 22) (x := (.tmp 16)) (p := ⟨ba0, 0, none⟩) (v := .slice Aa0v_0 a0v.L.length ca0v_0) (by kernel_rfl) (by kernel_rfl) (by kernel_rfl) (fun w hC => (loads_at 0 (hC.blk 1 rfl) (by kernel_rfl) (by kernel_rfl))) ?_
   refine q_run 2 (is' := [10, 11]) (us := [(18, .int .i64 (a0v.L.length : Int)), (19, .int .i64 (IntKind.i64.wrap ((a0v.L.length : Int) - 1)))]) (by kernel_rfl) ?_
   obtain ⟨g55, hp56⟩ := ite_some hp54
   obtain ⟨b57, p58, hA59, hc60⟩ := ha0v_0.atF g55.1 g55.2
   refine q_indexAddr (c := (hd (cd43 [1, 0, 1, 0]) 12)) (i := 10) (d := (some 20)) (ty := 0) (t := 22) (e := 24) (n := a0v.L.length) (cp := ca0v_0) (sz := 7) (kk := .i64) (x := (.tmp 13)) (y := (.tmp 19)) (b := b57) (o' := p58) (j := (IntKind.i64.wrap ((a0v.L.length : Int) - 1))) (by kernel_rfl) (by kernel_rfl) (slv (by kernel_rfl) hA59) (by kernel_rfl) (by kernel_rfl) (by kernel_rfl) g55.1 g55.2 ?_
   refine q_load (c := (hd (cd43 [1, 0, 1, 0]) 12)) (i := 11) (d := (some 21)) (ty := 24) (t := 24) (x := (.tmp 20)) (p := ⟨b57, p58 + (IntKind.i64.wrap ((a0v.L.length : Int) - 1)).toNat * 7, none⟩) (v := .agg (enc_api_Token (gt a0v.L (IntKind.i64.wrap ((a0v.L.length : Int) - 1)))).toArray) (by kernel_rfl) (by kernel_rfl) (by kernel_rfl) (fun w hC => (loads_agg (hc60.cells hC) (by kernel_rfl) (by kernel_rfl))) ?_
   refine Qs.nil ?_
   intro w61 hS62
   refine r_store (c := (cd43 [1, 0, 1, 0])) (i := 12) (d := none) (ty := 0) (t := 24) (x := (.tmp 2)) (y := (.tmp 21)) (b := b1) (o := 0) (e := 24) (cs := enc_api_Token (⟨0, (⟨#[]⟩ : ByteArray), 0, 0, 0, 0, 0⟩ : api_Token)) (v := .agg (enc_api_Token (gt a0v.L (IntKind.i64.wrap ((a0v.L.length : Int) - 1)))).toArray) (vs := enc_api_Token (gt a0v.L (IntKind.i64.wrap ((a0v.L.length : Int) - 1)))) (cs' := enc_api_Token (gt a0v.L (IntKind.i64.wrap ((a0v.L.length : Int) - 1)))) hS62 (by kernel_rfl) (by kernel_rfl) (by kernel_rfl) (by kernel_rfl) (by kernel_rfl) (by kernel_rfl) (one_api_Token _) (Nat.le_of_ble_eq_true (by kernel_rfl)) (by kernel_rfl) ?_
   intro w63 hS64
   refine sx_run 1 (todo' := [.code (cd43 [1, 1])]) (us := []) (by kernel_rfl) ?_
   have hS65 := hS64.pick1
   refine Runs.fill (m := [some (.pointer (some ⟨ba0, 0, none⟩)), none, some (.pointer (some ⟨b1, 0, none⟩)), none, none, none, none, none, none, none, none, none, none, none, none, none, none, none, none, none, none, none, none, none, none, none, none, none, none, none, none, none, none, none, none, none, none, none, none, none, none, none, none, none, none]) (by kernel_rfl) ?_
   exact J13 (gt a0v.L (IntKind.i64.wrap ((a0v.L.length : Int) - 1))) (Option.some.inj hp56) _ _ hS65
  ·skip
   have hp66 := ite_f hv8 h53
   refine sx_run 3 (todo' := [.code (cd43 [1, 1])]) (us := []) (by kernel_rfl) ?_
   have hS67 := hS6.pick1
   refine Runs.fill (m := [some (.pointer (some ⟨ba0, 0, none⟩)), none, some (.pointer (some ⟨b1, 0, none⟩)), none, none, none, none, none, none, none, none, none, none, none, none, none, none, none, none, none, none, none, none, none, none, none, none, none, none, none, none, none, none, none, none, none, none, none, none, none, none, none, none, none, none]) (by kernel_rfl) ?_
   exact J13 (⟨0, (⟨#[]⟩ : ByteArray), 0, 0, 0, 0, 0⟩ : api_Token) (Option.some.inj hp66) _ _ hS67

noncomputable def cd38 (p : List Nat) : Code := sub (bodyOf Tryz.f38) p
def weirref06_reader__sign.f (a0v : weirref06_reader) (a1 : ByteArray) : Option (Int × api_Token × weirref05_Fault) :=
  (weirref06_reader__is.f (⟨a0v.L, a0v.At, a0v.Last, a0v.Deep, a0v.C, a0v.F⟩ : weirref06_reader) 0 4 a1 >>= (fun t1 => (if (!t1) = true then (weirref06_reader__syntax.f (⟨a0v.L, a0v.At, a0v.Last, a0v.Deep, a0v.C, a0v.F⟩ : weirref06_reader) >>= (fun t11 => some ((a0v.At, a0v.Last, t11)))) else (weirref06_reader__take.f (⟨a0v.L, a0v.At, a0v.Last, a0v.Deep, a0v.C, a0v.F⟩ : weirref06_reader) >>= (fun (t18, t19, t20) => some ((t19, t20, a0v.F)))))))
set_option maxHeartbeats 16000000 in
theorem weirref06_reader__sign.ok (a0v : weirref06_reader) (a1 : ByteArray) (ba0 : Nat) (Aa0v_0 : Option Addr) (ca0v_0 : Nat) (Aa0v_4 : Option Addr) (ca0v_4 : Nat) {w0 : World} {Z : Zm} {fs : List XObj} {w : World} (hS0 : St w0 Z (xblk ba0 48 ([.slice Aa0v_0 a0v.L.length ca0v_0] ++ [.int .i64 a0v.At] ++ (enc_api_Token a0v.Last) ++ [.int .i64 a0v.Deep] ++ [.slice Aa0v_4 a0v.C.length ca0v_4] ++ (enc_weirref05_Fault a0v.F)) :: fs) w) (ha0v_0 : SlZ (flat enc_api_Token) 7 Z Aa0v_0 ca0v_0 a0v.L) (ha0v_4 : SlZ (flat enc_api_Node) 6 Z Aa0v_4 ca0v_4 a0v.C) {q0 : Int} {q1 : api_Token} {q2 : weirref05_Fault} (hp0 : weirref06_reader__sign.f a0v a1 = some (q0, q1, q2)) :
    Calls Tryz.prog 38 #[.pointer (some ⟨ba0, 0, none⟩), .string a1] w (fun e w' => e = .returned (.tuple #[]) ∧ St w0 Z (xblk ba0 48 ([.slice Aa0v_0 a0v.L.length ca0v_0] ++ [.int .i64 q0] ++ (enc_api_Token q1) ++ [.int .i64 a0v.Deep] ++ [.slice Aa0v_4 a0v.C.length ca0v_4] ++ (enc_weirref05_Fault q2)) :: fs) w') := by
  refine calls_abs ?_; intro R hR
  unfold weirref06_reader__sign.f at hp0
  refine calls_of_runs (fn := Tryz.f38) (c := cd38 []) Tryz.func38 (by kernel_rfl) (al := [.pointer (some ⟨ba0, 0, none⟩), .string a1]) rfl (n := 10) rfl ?_
  refine sx_run 5 (todo' := [.inRegion (opsOf (cd38 [0, 0])) [2, 3], .code (cd38 [0, 1]), .code (cd38 [1])]) (us := [(4, .pointer (some ⟨ba0, 0, none⟩)), (5, .string a1)]) (by kernel_rfl) ?_
  obtain ⟨t1, hr2, hp3⟩ := bind_some' hp0
  refine r_call1 (c := (cd38 [0, 0])) (i := 2) (d := (some 6)) (g := 17) (args := #[.pointer (some ⟨ba0, 0, none⟩), .int .i64 0, .int .i64 4, .string a1]) (by kernel_rfl) (by kernel_rfl) (by kernel_rfl) (by kernel_rfl) (weirref06_reader__is.ok (⟨a0v.L, a0v.At, a0v.Last, a0v.Deep, a0v.C, a0v.F⟩ : weirref06_reader) 0 4 a1 ba0 Aa0v_0 ca0v_0 Aa0v_4 ca0v_4 hS0 ha0v_0 ha0v_4 hr2) ?_
  rintro _ w6 ⟨rfl, hS7⟩
  refine ⟨.bool t1, rfl, ?_⟩
  refine sx_split 1 (todo' := [.inRegion (opsOf (cd38 [0, 0])) [], .code (cd38 [0, 1]), .code (cd38 [1])]) (us := []) (d := 7) (t := (!t1)) (by kernel_rfl) (fun h8 => ?_) (fun h9 => ?_)
  ·skip
   have hp10 := ite_t hp3 h8
   refine sx_run 5 (todo' := [.inRegion (opsOf (cd38 [0, 1, 0, 0])) [1], .code (cd38 [0, 1, 0, 1]), .code (cd38 [1])]) (us := [(8, .pointer (some ⟨ba0, 0, none⟩))]) (by kernel_rfl) ?_
   obtain ⟨t11, hr12, hp13⟩ := bind_some' hp10
   refine r_call1 (c := (cd38 [0, 1, 0, 0])) (i := 1) (d := (some 9)) (g := 43) (args := #[.pointer (some ⟨ba0, 0, none⟩)]) (by kernel_rfl) (by kernel_rfl) (by kernel_rfl) (by kernel_rfl) (weirref06_reader__syntax.ok (⟨a0v.L, a0v.At, a0v.Last, a0v.Deep, a0v.C, a0v.F⟩ : weirref06_reader) ba0 Aa0v_0 ca0v_0 Aa0v_4 ca0v_4 hS7 ha0v_0 ha0v_4 hr12) ?_
   rintro _ w14 ⟨rfl, hS15⟩
   refine ⟨.tuple #[], rfl, ?_⟩
   refine sx_run 1 (todo' := [.code (cd38 [0, 1, 0, 1]), .code (cd38 [1])]) (us := []) (by kernel_rfl) ?_
   refine runs_ret (fn := Tryz.f38) (v := .tuple #[]) Tryz.func38 (by kernel_rfl) ?_
   have hr16 := (Option.some.inj hp13)
   cases hr16
   exact hR _ _ ⟨rfl, hS15⟩
  ·skip
   have hp17 := ite_f hp3 h9
   refine sx_run 5 (todo' := [.inRegion (opsOf (cd38 [1])) [1]]) (us := [(10, .pointer (some ⟨ba0, 0, none⟩))]) (by kernel_rfl) ?_
   obtain ⟨⟨t18, t19, t20⟩, hr21, hp22⟩ := bind_some' hp17
   try dsimp only at hp22
   refine r_call1 (c := (cd38 [1])) (i := 1) (d := (some 11)) (g := 18) (args := #[.pointer (some ⟨ba0, 0, none⟩)]) (by kernel_rfl) (by kernel_rfl) (by kernel_rfl) (by kernel_rfl) (weirref06_reader__take.ok (⟨a0v.L, a0v.At, a0v.Last, a0v.Deep, a0v.C, a0v.F⟩ : weirref06_reader) ba0 Aa0v_0 ca0v_0 Aa0v_4 ca0v_4 hS7 ha0v_0 ha0v_4 hr21) ?_
   rintro _ w23 ⟨rfl, hS24⟩
   refine ⟨.agg (enc_api_Token t18).toArray, rfl, ?_⟩
   refine sx_run 1 (todo' := []) (us := []) (by kernel_rfl) ?_
   refine runs_end (fn := Tryz.f38) (v := .tuple #[]) Tryz.func38 (by kernel_rfl) ?_
   have hr25 := (Option.some.inj hp22)
   cases hr25
   exact hR _ _ ⟨rfl, hS24⟩

noncomputable def cd64 (p : List Nat) : Code := sub (bodyOf Tryz.f64) p
def weirref05_letter.f (a0 : Int) : Option Bool :=
  (if (decide (a0 ≥ 97)) = true then (if (decide (a0 ≤ 122)) = true then some (true) else (if (decide (a0 ≥ 65)) = true then (if (decide (a0 ≤ 90)) = true then some (true) else (if (a0 == 95) = true then some (true) else some (false))) else (if (a0 == 95) = true then some (true) else some (false)))) else (if (decide (a0 ≥ 65)) = true then (if (decide (a0 ≤ 90)) = true then some (true) else (if (a0 == 95) = true then some (true) else some (false))) else (if (a0 == 95) = true then some (true) else some (false))))
set_option maxHeartbeats 16000000 in
theorem weirref05_letter.ok (a0 : Int) {w0 : World} {Z : Zm} {fs : List XObj} {w : World} (hS0 : St w0 Z (fs) w) {q0 : Bool} (hp0 : weirref05_letter.f a0 = some q0) :
    Calls Tryz.prog 64 #[.int .u8 a0] w (fun e w' => e = .returned (.bool q0) ∧ St w0 Z (fs) w') := by
  refine calls_abs ?_; intro R hR
  unfold weirref05_letter.f at hp0
  refine calls_of_runs (fn := Tryz.f64) (c := cd64 []) Tryz.func64 (by kernel_rfl) (al := [.int .u8 a0]) rfl (n := 20) rfl ?_
  refine sx_split 8 (todo' := [.inRegion (opsOf (cd64 [1, 0])) [2, 3, 4, 5, 6, 7, 8, 9, 10, 11, 12, 13, 14, 15, 16, 17, 18], .code (cd64 [1, 1])]) (us := [(2, .bool false), (3, .int .u8 a0)]) (d := 4) (t := (decide (a0 ≥ 97))) (by kernel_rfl) (fun h1 => ?_) (fun h2 => ?_)
  ·skip
   have hp3 := ite_t hp0 h1
   refine sx_split 3 (todo' := [.inRegion (opsOf (cd64 [1, 0])) [5, 6, 7, 8, 9, 10, 11, 12, 13, 14, 15, 16, 17, 18], .code (cd64 [1, 1])]) (us := [(5, .bool true), (6, .int .u8 a0)]) (d := 7) (t := (decide (a0 ≤ 122))) (by kernel_rfl) (fun h4 => ?_) (fun h5 => ?_)
   ·skip
    have hp6 := ite_t hp3 h4
    refine sx_run 15 (todo' := [.code (cd64 [1, 1])]) (us := [(8, .bool true), (9, .bool true), (10, undef), (11, undef), (12, undef), (13, undef), (14, undef), (15, undef), (16, .bool true), (17, .bool true), (18, undef), (19, undef), (20, .bool true), (2, .bool true)]) (by kernel_rfl) ?_
    refine runs_ret (fn := Tryz.f64) (v := .bool true) Tryz.func64 (by kernel_rfl) ?_
    have hr7 := (Option.some.inj hp6)
    cases hr7
    exact hR _ _ ⟨rfl, hS0⟩
   ·skip
    have hp8 := ite_f hp3 h5
    refine sx_split 4 (todo' := [.inRegion (opsOf (cd64 [1, 0])) [9, 10, 11, 12, 13, 14, 15, 16, 17, 18], .code (cd64 [1, 1])]) (us := [(8, .bool false), (9, .bool false), (10, .int .u8 a0)]) (d := 11) (t := (decide (a0 ≥ 65))) (by kernel_rfl) (fun h9 => ?_) (fun h10 => ?_)
    ·skip
     have hp11 := ite_t hp8 h9
     refine sx_split 3 (todo' := [.inRegion (opsOf (cd64 [1, 0])) [12, 13, 14, 15, 16, 17, 18], .code (cd64 [1, 1])]) (us := [(12, .bool true), (13, .int .u8 a0)]) (d := 14) (t := (decide (a0 ≤ 90))) (by kernel_rfl) (fun h12 => ?_) (fun h13 => ?_)
     ·skip
      have hp14 := ite_t hp11 h12
      refine sx_run 8 (todo' := [.code (cd64 [1, 1])]) (us := [(15, .bool true), (16, .bool true), (17, .bool true), (18, undef), (19, undef), (20, .bool true), (2, .bool true)]) (by kernel_rfl) ?_
      refine runs_ret (fn := Tryz.f64) (v := .bool true) Tryz.func64 (by kernel_rfl) ?_
      have hr15 := (Option.some.inj hp14)
      cases hr15
      exact hR _ _ ⟨rfl, hS0⟩
     ·skip
      have hp16 := ite_f hp11 h13
      refine sx_split 5 (todo' := [.inRegion (opsOf (cd64 [1, 0])) [17, 18], .code (cd64 [1, 1])]) (us := [(15, .bool false), (16, .bool false), (17, .bool false), (18, .int .u8 a0)]) (d := 19) (t := (a0 == 95)) (by kernel_rfl) (fun h17 => ?_) (fun h18 => ?_)
      ·skip
       have hp19 := ite_t hp16 h17
       refine sx_run 3 (todo' := [.code (cd64 [1, 1])]) (us := [(20, .bool true), (2, .bool true)]) (by kernel_rfl) ?_
       refine runs_ret (fn := Tryz.f64) (v := .bool true) Tryz.func64 (by kernel_rfl) ?_
       have hr20 := (Option.some.inj hp19)
       cases hr20
       exact hR _ _ ⟨rfl, hS0⟩
      ·skip
       have hp21 := ite_f hp16 h18
       refine sx_run 3 (todo' := [.code (cd64 [1, 1])]) (us := [(20, .bool false), (2, .bool false)]) (by kernel_rfl) ?_
       refine runs_ret (fn := Tryz.f64) (v := .bool false) Tryz.func64 (by kernel_rfl) ?_
       have hr22 := (Option.some.inj hp21)
       cases hr22
       exact hR _ _ ⟨rfl, hS0⟩
    ·skip
     have hp23 := ite_f hp8 h10
     refine sx_split 8 (todo' := [.inRegion (opsOf (cd64 [1, 0])) [17, 18], .code (cd64 [1, 1])]) (us := [(12, .bool false), (13, undef), (14, undef), (15, .bool false), (16, .bool false), (17, .bool false), (18, .int .u8 a0)]) (d := 19) (t := (a0 == 95)) (by kernel_rfl) (fun h24 => ?_) (fun h25 => ?_)
     ·skip
      have hp26 := ite_t hp23 h24
      refine sx_run 3 (todo' := [.code (cd64 [1, 1])]) (us := [(20, .bool true), (2, .bool true)]) (by kernel_rfl) ?_
      refine runs_ret (fn := Tryz.f64) (v := .bool true) Tryz.func64 (by kernel_rfl) ?_
      have hr27 := (Option.some.inj hp26)
      cases hr27
      exact hR _ _ ⟨rfl, hS0⟩
     ·skip
      have hp28 := ite_f hp23 h25
      refine sx_run 3 (todo' := [.code (cd64 [1, 1])]) (us := [(20, .bool false), (2, .bool false)]) (by kernel_rfl) ?_
      refine runs_ret (fn := Tryz.f64) (v := .bool false) Tryz.func64 (by kernel_rfl) ?_
      have hr29 := (Option.some.inj hp28)
      cases hr29
      exact hR _ _ ⟨rfl, hS0⟩
  ·skip
   have hp30 := ite_f hp0 h2
   refine sx_split 7 (todo' := [.inRegion (opsOf (cd64 [1, 0])) [9, 10, 11, 12, 13, 14, 15, 16, 17, 18], .code (cd64 [1, 1])]) (us := [(5, .bool false), (6, undef), (7, undef), (8, .bool false), (9, .bool false), (10, .int .u8 a0)]) (d := 11) (t := (decide (a0 ≥ 65))) (by kernel_rfl) (fun h31 => ?_) (fun h32 => ?_)
   ·skip
    have hp33 := ite_t hp30 h31
    refine sx_split 3 (todo' := [.inRegion (opsOf (cd64 [1, 0])) [12, 13, 14, 15, 16, 17, 18], .code (cd64 [1, 1])]) (us := [(12, .bool true), (13, .int .u8 a0)]) (d := 14) (t := (decide (a0 ≤ 90))) (by kernel_rfl) (fun h34 => ?_) (fun h35 => ?_)
    ·skip
     have hp36 := ite_t hp33 h34
     refine sx_run 8 (todo' := [.code (cd64 [1, 1])]) (us := [(15, .bool true), (16, .bool true), (17, .bool true), (18, undef), (19, undef), (20, .bool true), (2, .bool true)]) (by kernel_rfl) ?_
     refine runs_ret (fn := Tryz.f64) (v := .bool true) Tryz.func64 (by kernel_rfl) ?_
     have hr37 := (Option.some.inj hp36)
     cases hr37
     exact hR _ _ ⟨rfl, hS0⟩
    ·skip
     have hp38 := ite_f hp33 h35
     refine sx_split 5 (todo' := [.inRegion (opsOf (cd64 [1, 0])) [17, 18], .code (cd64 [1, 1])]) (us := [(15, .bool false), (16, .bool false), (17, .bool false), (18, .int .u8 a0)]) (d := 19) (t := (a0 == 95)) (by kernel_rfl) (fun h39 => ?_) (fun h40 => ?_)
     ·skip
      have hp41 := ite_t hp38 h39
      refine sx_run 3 (todo' := [.code (cd64 [1, 1])]) (us := [(20, .bool true), (2, .bool true)]) (by kernel_rfl) ?_
      refine runs_ret (fn := Tryz.f64) (v := .bool true) Tryz.func64 (by kernel_rfl) ?_
      have hr42 := (Option.some.inj hp41)
      cases hr42
      exact hR _ _ ⟨rfl, hS0⟩
     ·skip
      have hp43 := ite_f hp38 h40
      refine sx_run 3 (todo' := [.code (cd64 [1, 1])]) (us := [(20, .bool false), (2, .bool false)]) (by kernel_rfl) ?_
      refine runs_ret (fn := Tryz.f64) (v := .bool false) Tryz.func64 (by kernel_rfl) ?_
      have hr44 := (Option.some.inj hp43)
      cases hr44
      exact hR _ _ ⟨rfl, hS0⟩
   ·skip
    have hp45 := ite_f hp30 h32
    refine sx_split 8 (todo' := [.inRegion (opsOf (cd64 [1, 0])) [17, 18], .code (cd64 [1, 1])]) (us := [(12, .bool false), (13, undef), (14, undef), (15, .bool false), (16, .bool false), (17, .bool false), (18, .int .u8 a0)]) (d := 19) (t := (a0 == 95)) (by kernel_rfl) (fun h46 => ?_) (fun h47 => ?_)
    ·skip
     have hp48 := ite_t hp45 h46
     refine sx_run 3 (todo' := [.code (cd64 [1, 1])]) (us := [(20, .bool true), (2, .bool true)]) (by kernel_rfl) ?_
     refine runs_ret (fn := Tryz.f64) (v := .bool true) Tryz.func64 (by kernel_rfl) ?_
     have hr49 := (Option.some.inj hp48)
     cases hr49
     exact hR _ _ ⟨rfl, hS0⟩
    ·skip
     have hp50 := ite_f hp45 h47
     refine sx_run 3 (todo' := [.code (cd64 [1, 1])]) (us := [(20, .bool false), (2, .bool false)]) (by kernel_rfl) ?_
     refine runs_ret (fn := Tryz.f64) (v := .bool false) Tryz.func64 (by kernel_rfl) ?_
     have hr51 := (Option.some.inj hp50)
     cases hr51
     exact hR _ _ ⟨rfl, hS0⟩

noncomputable def cd65 (p : List Nat) : Code := sub (bodyOf Tryz.f65) p
def weirref05_digit.f (a0 : Int) : Option Bool :=
  (if (decide (a0 ≥ 48)) = true then (if (decide (a0 ≤ 57)) = true then some (true) else some (false)) else some (false))
set_option maxHeartbeats 16000000 in
theorem weirref05_digit.ok (a0 : Int) {w0 : World} {Z : Zm} {fs : List XObj} {w : World} (hS0 : St w0 Z (fs) w) {q0 : Bool} (hp0 : weirref05_digit.f a0 = some q0) :
    Calls Tryz.prog 65 #[.int .u8 a0] w (fun e w' => e = .returned (.bool q0) ∧ St w0 Z (fs) w') := by
  refine calls_abs ?_; intro R hR
  unfold weirref05_digit.f at hp0
  refine calls_of_runs (fn := Tryz.f65) (c := cd65 []) Tryz.func65 (by kernel_rfl) (al := [.int .u8 a0]) rfl (n := 8) rfl ?_
  refine sx_split 8 (todo' := [.inRegion (opsOf (cd65 [1, 0])) [2, 3, 4, 5, 6], .code (cd65 [1, 1])]) (us := [(2, .bool false), (3, .int .u8 a0)]) (d := 4) (t := (decide (a0 ≥ 48))) (by kernel_rfl) (fun h1 => ?_) (fun h2 => ?_)
  ·skip
   have hp3 := ite_t hp0 h1
   refine sx_split 3 (todo' := [.inRegion (opsOf (cd65 [1, 0])) [5, 6], .code (cd65 [1, 1])]) (us := [(5, .bool true), (6, .int .u8 a0)]) (d := 7) (t := (decide (a0 ≤ 57))) (by kernel_rfl) (fun h4 => ?_) (fun h5 => ?_)
   ·skip
    have hp6 := ite_t hp3 h4
    refine sx_run 3 (todo' := [.code (cd65 [1, 1])]) (us := [(8, .bool true), (2, .bool true)]) (by kernel_rfl) ?_
    refine runs_ret (fn := Tryz.f65) (v := .bool true) Tryz.func65 (by kernel_rfl) ?_
    have hr7 := (Option.some.inj hp6)
    cases hr7
    exact hR _ _ ⟨rfl, hS0⟩
   ·skip
    have hp8 := ite_f hp3 h5
    refine sx_run 3 (todo' := [.code (cd65 [1, 1])]) (us := [(8, .bool false), (2, .bool false)]) (by kernel_rfl) ?_
    refine runs_ret (fn := Tryz.f65) (v := .bool false) Tryz.func65 (by kernel_rfl) ?_
    have hr9 := (Option.some.inj hp8)
    cases hr9
    exact hR _ _ ⟨rfl, hS0⟩
  ·skip
   have hp10 := ite_f hp0 h2
   refine sx_run 6 (todo' := [.code (cd65 [1, 1])]) (us := [(5, .bool false), (6, undef), (7, undef), (8, .bool false), (2, .bool false)]) (by kernel_rfl) ?_
   refine runs_ret (fn := Tryz.f65) (v := .bool false) Tryz.func65 (by kernel_rfl) ?_
   have hr11 := (Option.some.inj hp10)
   cases hr11
   exact hR _ _ ⟨rfl, hS0⟩

noncomputable def cd53 (p : List Nat) : Code := sub (bodyOf Tryz.f53) p
def weirref05_name.l0 (a0 : ByteArray) (a1 : Int) (t28 : Int) : Option Int :=
  (if (decide ((IntKind.i64.wrap (a1 + t28)) < (a0.size : Int))) = true then (if 0 ≤ (IntKind.i64.wrap (a1 + t28)) ∧ (IntKind.i64.wrap (a1 + t28)) < (a0.size : Int) then (weirref05_letter.f (byt a0 (IntKind.i64.wrap (a1 + t28))) >>= (fun t43 => (((if t43 = true then some (true) else (weirref05_digit.f (byt a0 (IntKind.i64.wrap (a1 + t28))) >>= (fun t119 => (if t119 = true then some (true) else (if ((byt a0 (IntKind.i64.wrap (a1 + t28))) == 46) = true then some (true) else some (false)))))) : Option Bool) >>= (fun t51 => (((if ((byt a0 (IntKind.i64.wrap (a1 + t28))) == 43) = true then (if (decide ((IntKind.i64.wrap ((IntKind.i64.wrap (a1 + t28)) + 1)) < (a0.size : Int))) = true then (if 0 ≤ (IntKind.i64.wrap ((IntKind.i64.wrap (a1 + t28)) + 1)) ∧ (IntKind.i64.wrap ((IntKind.i64.wrap (a1 + t28)) + 1)) < (a0.size : Int) then (weirref05_letter.f (byt a0 (IntKind.i64.wrap ((IntKind.i64.wrap (a1 + t28)) + 1))) >>= (fun t78 => (if t78 = true then some (true) else (if 0 ≤ (IntKind.i64.wrap ((IntKind.i64.wrap (a1 + t28)) + 1)) ∧ (IntKind.i64.wrap ((IntKind.i64.wrap (a1 + t28)) + 1)) < (a0.size : Int) then (weirref05_digit.f (byt a0 (IntKind.i64.wrap ((IntKind.i64.wrap (a1 + t28)) + 1))) >>= (fun t86 => some (t86))) else none)))) else none) else some (t51)) else (if ((byt a0 (IntKind.i64.wrap (a1 + t28))) == 45) = true then (if (decide ((IntKind.i64.wrap ((IntKind.i64.wrap (a1 + t28)) + 1)) < (a0.size : Int))) = true then (if 0 ≤ (IntKind.i64.wrap ((IntKind.i64.wrap (a1 + t28)) + 1)) ∧ (IntKind.i64.wrap ((IntKind.i64.wrap (a1 + t28)) + 1)) < (a0.size : Int) then (weirref05_letter.f (byt a0 (IntKind.i64.wrap ((IntKind.i64.wrap (a1 + t28)) + 1))) >>= (fun t102 => (if t102 = true then some (true) else (if 0 ≤ (IntKind.i64.wrap ((IntKind.i64.wrap (a1 + t28)) + 1)) ∧ (IntKind.i64.wrap ((IntKind.i64.wrap (a1 + t28)) + 1)) < (a0.size : Int) then (weirref05_digit.f (byt a0 (IntKind.i64.wrap ((IntKind.i64.wrap (a1 + t28)) + 1))) >>= (fun t110 => some (t110))) else none)))) else none) else some (t51)) else some (t51))) : Option Bool) >>= (fun t60 => (if (!t60) = true then some (t28) else (weirref05_name.l0 a0 a1 (IntKind.i64.wrap (t28 + 1)))))))))) else none) else some (t28))
 partial_fixpoint
def weirref05_name.f (a0 : ByteArray) (a1 : Int) : Option Int :=
  (if (decide (a1 ≥ (a0.size : Int))) = true then some (0) else (if 0 ≤ a1 ∧ a1 < (a0.size : Int) then (weirref05_letter.f (byt a0 a1) >>= (fun t8 => (if (!t8) = true then some (0) else (weirref05_name.l0 a0 a1 1 >>= (fun t21 => some (t21)))))) else none))
set_option maxHeartbeats 16000000 in
theorem weirref05_name.ok (a0 : ByteArray) (a1 : Int) {w0 : World} {Z : Zm} {fs : List XObj} {w : World} (hS0 : St w0 Z (fs) w) {q0 : Int} (hp0 : weirref05_name.f a0 a1 = some q0) :
    Calls Tryz.prog 53 #[.string a0, .int .i64 a1] w (fun e w' => e = .returned (.int .i64 q0) ∧ St w0 Z (fs) w') := by
  refine calls_abs ?_; intro R hR
  unfold weirref05_name.f at hp0
  refine calls_of_runs (fn := Tryz.f53) (c := cd53 []) Tryz.func53 (by kernel_rfl) (al := [.string a0, .int .i64 a1]) rfl (n := 74) rfl ?_
  refine sx_split 11 (todo' := [.inRegion (opsOf (cd53 [1, 0, 0])) [4, 5, 6, 7, 8, 9, 10], .code (cd53 [1, 0, 1]), .code (cd53 [1, 1])]) (us := [(4, .int .i64 0), (8, .int .i64 a1), (9, .string a0), (10, .int .i64 (a0.size : Int))]) (d := 11) (t := (decide (a1 ≥ (a0.size : Int)))) (by kernel_rfl) (fun h1 => ?_) (fun h2 => ?_)
  ·skip
   have hp3 := ite_t hp0 h1
   refine sx_run 13 (todo' := [.code (cd53 [1, 0, 1, 0, 1]), .code (cd53 [1, 1])]) (us := [(12, .bool true), (13, undef), (14, undef), (15, undef), (16, undef), (17, undef), (18, .bool true), (4, .int .i64 0)]) (by kernel_rfl) ?_
   refine runs_ret (fn := Tryz.f53) (v := .int .i64 0) Tryz.func53 (by kernel_rfl) ?_
   have hr4 := (Option.some.inj hp3)
   cases hr4
   exact hR _ _ ⟨rfl, hS0⟩
  ·skip
   have hp5 := ite_f hp0 h2
   refine sx_run 3 (todo' := [.inRegion (opsOf (cd53 [1, 0, 0])) [7, 8, 9, 10], .code (cd53 [1, 0, 1]), .code (cd53 [1, 1])]) (us := [(12, .bool false), (13, .string a0), (14, .int .i64 a1)]) (by kernel_rfl) ?_
   obtain ⟨g6, hp7⟩ := ite_some hp5
   refine r_val (c := (cd53 [1, 0, 0])) (i := 7) (d := (some 15)) (ty := 5) (op := .index 9 (.tmp 13) (.tmp 14)) (v := .int .u8 (byt a0 a1)) (by kernel_rfl) (by kernel_rfl) (fun o ho _ => x_indexStr (kk := .i64) (by kernel_rfl) (by kernel_rfl) (by kernel_rfl) g6.1 g6.2 ho) ?_
   obtain ⟨t8, hr9, hp10⟩ := bind_some' hp7
   refine r_call1 (c := (cd53 [1, 0, 0])) (i := 8) (d := (some 16)) (g := 64) (args := #[.int .u8 (byt a0 a1)]) (by kernel_rfl) (by kernel_rfl) (by kernel_rfl) (by kernel_rfl) (weirref05_letter.ok (byt a0 a1) hS0 hr9) ?_
   rintro _ w11 ⟨rfl, hS12⟩
   refine ⟨.bool t8, rfl, ?_⟩
   refine sx_split 1 (todo' := [.inRegion (opsOf (cd53 [1, 0, 0])) [10], .code (cd53 [1, 0, 1]), .code (cd53 [1, 1])]) (us := []) (d := 17) (t := (!t8)) (by kernel_rfl) (fun h13 => ?_) (fun h14 => ?_)
   ·skip
    have hp15 := ite_t hp10 h13
    refine sx_run 7 (todo' := [.code (cd53 [1, 0, 1, 0, 1]), .code (cd53 [1, 1])]) (us := [(18, .bool true), (4, .int .i64 0)]) (by kernel_rfl) ?_
    refine runs_ret (fn := Tryz.f53) (v := .int .i64 0) Tryz.func53 (by kernel_rfl) ?_
    have hr16 := (Option.some.inj hp15)
    cases hr16
    exact hR _ _ ⟨rfl, hS12⟩
   ·skip
    have hp17 := ite_f hp10 h14
    refine sx_run 11 (todo' := [.code (cd53 [1, 1, 1, 0, 0, 0]), .inLoop (cd53 [1, 1, 1, 0, 0, 0]), .inBlock 0, .code (cd53 [1, 1, 1, 1])]) (us := [(18, .bool false), (5, .int .i64 1)]) (by kernel_rfl) ?_
    obtain ⟨v18, hv19, hp20⟩ := bind_some' hp17
    have J24 : ∀ (t21 : Int) (he26 : t21 = v18) (l25 : List Value) (w22 : World) (hS23 : St w0 Z (fs) w22), Runs Tryz.prog (fx 53) [.code (cd53 [1, 1, 1, 1])] (fill [none, none, none, none, none, some (.int .i64 t21), none, none, none, none, none, none, none, none, none, none, none, none, none, none, none, none, none, none, none, none, none, none, none, none, none, none, none, none, none, none, none, none, none, none, none, none, none, none, none, none, none, none, none, none, none, none, none, none, none, none, none, none, none, none, none, none, none, none, none, none, none, none, none, none, none, none, none, none, none, none] l25) w22 R := by
     intro t21 he26 l25 w22 hS23
     subst he26
     try dsimp only at hp20
     refine sx_run 5 (todo' := [.code (cd53 [1, 1, 1, 1, 1])]) (us := [(75, .int .i64 t21), (4, .int .i64 t21)]) (by kernel_rfl) ?_
     refine runs_ret (fn := Tryz.f53) (v := .int .i64 t21) Tryz.func53 (by kernel_rfl) ?_
     have hr27 := (Option.some.inj hp20)
     cases hr27
     exact hR _ _ ⟨rfl, hS23⟩
    have L37 : ∀ (t28 : Int) (e32 : Int), weirref05_name.l0 a0 a1 t28 = some e32 → e32 = v18 → ∀ (l31 : List Value) (w29 : World) (hS30 : St w0 Z (fs) w29), Runs Tryz.prog (fx 53) [.code (cd53 [1, 1, 1, 0, 0, 0]), .inLoop (cd53 [1, 1, 1, 0, 0, 0]), .inBlock 0, .code (cd53 [1, 1, 1, 1])] (fill [some (.string a0), some (.int .i64 a1), none, none, none, some (.int .i64 t28), none, none, none, none, none, none, none, none, none, none, none, none, none, none, none, none, none, none, none, none, none, none, none, none, none, none, none, none, none, none, none, none, none, none, none, none, none, none, none, none, none, none, none, none, none, none, none, none, none, none, none, none, none, none, none, none, none, none, none, none, none, none, none, none, none, none, none, none, none, none] l31) w29 R := by
     refine weirref05_name.l0.partial_correctness a0 a1 (fun t28 e32 => e32 = v18 → ∀ (l31 : List Value) (w29 : World) (hS30 : St w0 Z (fs) w29), Runs Tryz.prog (fx 53) [.code (cd53 [1, 1, 1, 0, 0, 0]), .inLoop (cd53 [1, 1, 1, 0, 0, 0]), .inBlock 0, .code (cd53 [1, 1, 1, 1])] (fill [some (.string a0), some (.int .i64 a1), none, none, none, some (.int .i64 t28), none, none, none, none, none, none, none, none, none, none, none, none, none, none, none, none, none, none, none, none, none, none, none, none, none, none, none, none, none, none, none, none, none, none, none, none, none, none, none, none, none, none, none, none, none, none, none, none, none, none, none, none, none, none, none, none, none, none, none, none, none, none, none, none, none, none, none, none, none, none] l31) w29 R) ?_
     intro rec36 ih35 t28 e32 hb34 he33 l31 w29 hS30
     refine sx_split 9 (todo' := [.inRegion (opsOf (cd53 [1, 1, 1, 0, 0, 0, 0, 0])) [], .code (cd53 [1, 1, 1, 0, 0, 0, 0, 1]), .code (cd53 [1, 1, 1, 0, 0, 0, 1]), .inLoop (cd53 [1, 1, 1, 0, 0, 0]), .inBlock 0, .code (cd53 [1, 1, 1, 1])]) (us := [(19, .int .i64 a1), (20, .int .i64 t28), (21, .int .i64 (IntKind.i64.wrap (a1 + t28))), (22, .string a0), (23, .int .i64 (a0.size : Int))]) (d := 24) (t := (decide ((IntKind.i64.wrap (a1 + t28)) < (a0.size : Int)))) (by kernel_rfl) (fun h38 => ?_) (fun h39 => ?_)
     ·skip
      have hp40 := ite_t hb34 h38
      refine sx_run 10 (todo' := [.inRegion (opsOf (cd53 [1, 1, 1, 0, 0, 0, 1, 0, 0])) [4, 5], .code (cd53 [1, 1, 1, 0, 0, 0, 1, 0, 1]), .inBlock 1, .inLoop (cd53 [1, 1, 1, 0, 0, 0]), .inBlock 0, .code (cd53 [1, 1, 1, 1])]) (us := [(25, .string a0), (26, .int .i64 a1), (27, .int .i64 t28), (28, .int .i64 (IntKind.i64.wrap (a1 + t28)))]) (by kernel_rfl) ?_
      obtain ⟨g41, hp42⟩ := ite_some hp40
      refine r_val (c := (cd53 [1, 1, 1, 0, 0, 0, 1, 0, 0])) (i := 4) (d := (some 29)) (ty := 5) (op := .index 9 (.tmp 25) (.tmp 28)) (v := .int .u8 (byt a0 (IntKind.i64.wrap (a1 + t28)))) (by kernel_rfl) (by kernel_rfl) (fun o ho _ => x_indexStr (kk := .i64) (by kernel_rfl) (by kernel_rfl) (by kernel_rfl) g41.1 g41.2 ho) ?_
      refine sx_run 5 (todo' := [.inRegion (opsOf (cd53 [1, 1, 1, 0, 0, 0, 1, 0, 1, 0])) [1, 2, 3, 4, 5, 6, 7, 8, 9, 10], .code (cd53 [1, 1, 1, 0, 0, 0, 1, 0, 1, 1]), .inBlock 1, .inLoop (cd53 [1, 1, 1, 0, 0, 0]), .inBlock 0, .code (cd53 [1, 1, 1, 1])]) (us := [(6, .int .u8 (byt a0 (IntKind.i64.wrap (a1 + t28)))), (30, .int .u8 (byt a0 (IntKind.i64.wrap (a1 + t28))))]) (by kernel_rfl) ?_
      obtain ⟨t43, hr44, hp45⟩ := bind_some' hp42
      refine r_call1 (c := (cd53 [1, 1, 1, 0, 0, 0, 1, 0, 1, 0])) (i := 1) (d := (some 31)) (g := 64) (args := #[.int .u8 (byt a0 (IntKind.i64.wrap (a1 + t28)))]) (by kernel_rfl) (by kernel_rfl) (by kernel_rfl) (by kernel_rfl) (weirref05_letter.ok (byt a0 (IntKind.i64.wrap (a1 + t28))) hS30 hr44) ?_
      rintro _ w46 ⟨rfl, hS47⟩
      refine ⟨.bool t43, rfl, ?_⟩
      refine sx_run 1 (todo' := [.inRegion (opsOf (cd53 [1, 1, 1, 0, 0, 0, 1, 0, 1, 0])) [3, 4, 5, 6, 7, 8, 9, 10], .code (cd53 [1, 1, 1, 0, 0, 0, 1, 0, 1, 1]), .inBlock 1, .inLoop (cd53 [1, 1, 1, 0, 0, 0]), .inBlock 0, .code (cd53 [1, 1, 1, 1])]) (us := [(32, .bool t43)]) (by kernel_rfl) ?_
      obtain ⟨v48, hv49, hp50⟩ := bind_some' hp45
      have J54 : ∀ (t51 : Bool) (he56 : t51 = v48) (l55 : List Value) (w52 : World) (hS53 : St w0 Z (fs) w52), Runs Tryz.prog (fx 53) [.code (cd53 [1, 1, 1, 0, 0, 0, 1, 0, 1, 1, 0, 0]), .code (cd53 [1, 1, 1, 0, 0, 0, 1, 0, 1, 1, 0, 1]), .code (cd53 [1, 1, 1, 0, 0, 0, 1, 0, 1, 1, 1]), .inBlock 1, .inLoop (cd53 [1, 1, 1, 0, 0, 0]), .inBlock 0, .code (cd53 [1, 1, 1, 1])] (fill [some (.string a0), some (.int .i64 a1), none, none, none, some (.int .i64 t28), some (.int .u8 (byt a0 (IntKind.i64.wrap (a1 + t28)))), some (.bool t51), none, none, none, none, none, none, none, none, none, none, none, none, none, none, none, none, none, none, none, none, none, none, none, none, none, none, none, none, none, none, none, none, none, none, none, none, none, none, none, none, none, none, none, none, none, none, none, none, none, none, none, none, none, none, none, none, none, none, none, none, none, none, none, none, none, none, none, none] l55) w52 R := by
       intro t51 he56 l55 w52 hS53
       subst he56
       try dsimp only at hp50
       obtain ⟨v57, hv58, hp59⟩ := bind_some' hp50
       have J63 : ∀ (t60 : Bool) (he65 : t60 = v57) (l64 : List Value) (w61 : World) (hS62 : St w0 Z (fs) w61), Runs Tryz.prog (fx 53) [.code (cd53 [1, 1, 1, 0, 0, 0, 1, 0, 1, 1, 1]), .inBlock 1, .inLoop (cd53 [1, 1, 1, 0, 0, 0]), .inBlock 0, .code (cd53 [1, 1, 1, 1])] (fill [some (.string a0), some (.int .i64 a1), none, none, none, some (.int .i64 t28), none, some (.bool t60), none, none, none, none, none, none, none, none, none, none, none, none, none, none, none, none, none, none, none, none, none, none, none, none, none, none, none, none, none, none, none, none, none, none, none, none, none, none, none, none, none, none, none, none, none, none, none, none, none, none, none, none, none, none, none, none, none, none, none, none, none, none, none, none, none, none, none, none] l64) w61 R := by
        intro t60 he65 l64 w61 hS62
        subst he65
        try dsimp only at hp59
        refine sx_split 5 (todo' := [.inRegion (opsOf (cd53 [1, 1, 1, 0, 0, 0, 1, 0, 1, 1, 1, 0, 0])) [], .code (cd53 [1, 1, 1, 0, 0, 0, 1, 0, 1, 1, 1, 0, 1]), .code (cd53 [1, 1, 1, 0, 0, 0, 1, 0, 1, 1, 1, 1]), .inBlock 1, .inLoop (cd53 [1, 1, 1, 0, 0, 0]), .inBlock 0, .code (cd53 [1, 1, 1, 1])]) (us := [(71, .bool t60)]) (d := 72) (t := (!t60)) (by kernel_rfl) (fun h66 => ?_) (fun h67 => ?_)
        ·skip
         have hp68 := ite_t hp59 h66
         refine sx_run 3 (todo' := [.code (cd53 [1, 1, 1, 1])]) (us := []) (by kernel_rfl) ?_
         refine Runs.fill (m := [none, none, none, none, none, some (.int .i64 t28), none, none, none, none, none, none, none, none, none, none, none, none, none, none, none, none, none, none, none, none, none, none, none, none, none, none, none, none, none, none, none, none, none, none, none, none, none, none, none, none, none, none, none, none, none, none, none, none, none, none, none, none, none, none, none, none, none, none, none, none, none, none, none, none, none, none, none, none, none, none]) (by kernel_rfl) ?_
         exact J24 t28 ((Option.some.inj hp68).trans he33) _ _ hS62
        ·skip
         have hp69 := ite_f hp59 h67
         refine sx_run 9 (todo' := [.inLoop (cd53 [1, 1, 1, 0, 0, 0]), .inBlock 0, .code (cd53 [1, 1, 1, 1])]) (us := [(73, .int .i64 t28), (74, .int .i64 (IntKind.i64.wrap (t28 + 1))), (5, .int .i64 (IntKind.i64.wrap (t28 + 1)))]) (by kernel_rfl) ?_
         refine sx_run 1 (todo' := [.code (cd53 [1, 1, 1, 0, 0, 0]), .inLoop (cd53 [1, 1, 1, 0, 0, 0]), .inBlock 0, .code (cd53 [1, 1, 1, 1])]) (us := []) (by kernel_rfl) ?_
         refine Runs.fill (m := [some (.string a0), some (.int .i64 a1), none, none, none, some (.int .i64 (IntKind.i64.wrap (t28 + 1))), none, none, none, none, none, none, none, none, none, none, none, none, none, none, none, none, none, none, none, none, none, none, none, none, none, none, none, none, none, none, none, none, none, none, none, none, none, none, none, none, none, none, none, none, none, none, none, none, none, none, none, none, none, none, none, none, none, none, none, none, none, none, none, none, none, none, none, none, none, none]) (by kernel_rfl) ?_
         exact ih35 (IntKind.i64.wrap (t28 + 1)) _ hp69 he33 _ _ hS62
       refine sx_split 3 (todo' := [.inRegion (opsOf (cd53 [1, 1, 1, 0, 0, 0, 1, 0, 1, 1, 0, 0])) [2, 3, 4, 5, 6, 7, 8, 9, 10, 11, 12, 13, 14], .code (cd53 [1, 1, 1, 0, 0, 0, 1, 0, 1, 1, 0, 1]), .code (cd53 [1, 1, 1, 0, 0, 0, 1, 0, 1, 1, 1]), .inBlock 1, .inLoop (cd53 [1, 1, 1, 0, 0, 0]), .inBlock 0, .code (cd53 [1, 1, 1, 1])]) (us := [(40, .int .u8 (byt a0 (IntKind.i64.wrap (a1 + t28))))]) (d := 41) (t := ((byt a0 (IntKind.i64.wrap (a1 + t28))) == 43)) (by kernel_rfl) (fun h70 => ?_) (fun h71 => ?_)
       ·skip
        have hp72 := ite_t hv58 h70
        refine sx_split 12 (todo' := [.inRegion (opsOf (cd53 [1, 1, 1, 0, 0, 0, 1, 0, 1, 1, 0, 0])) [14], .code (cd53 [1, 1, 1, 0, 0, 0, 1, 0, 1, 1, 0, 1]), .code (cd53 [1, 1, 1, 0, 0, 0, 1, 0, 1, 1, 1]), .inBlock 1, .inLoop (cd53 [1, 1, 1, 0, 0, 0]), .inBlock 0, .code (cd53 [1, 1, 1, 1])]) (us := [(42, .bool true), (43, undef), (44, undef), (45, .bool true), (46, .bool true), (47, .int .i64 a1), (48, .int .i64 t28), (49, .int .i64 (IntKind.i64.wrap (a1 + t28))), (50, .int .i64 (IntKind.i64.wrap ((IntKind.i64.wrap (a1 + t28)) + 1))), (51, .string a0), (52, .int .i64 (a0.size : Int))]) (d := 53) (t := (decide ((IntKind.i64.wrap ((IntKind.i64.wrap (a1 + t28)) + 1)) < (a0.size : Int)))) (by kernel_rfl) (fun h73 => ?_) (fun h74 => ?_)
        ·skip
         have hp75 := ite_t hp72 h73
         refine sx_run 9 (todo' := [.inRegion (opsOf (cd53 [1, 1, 1, 0, 0, 0, 1, 0, 1, 1, 0, 1, 0])) [5, 6, 7, 8, 9, 10, 11, 12, 13, 14, 15, 16], .code (cd53 [1, 1, 1, 0, 0, 0, 1, 0, 1, 1, 1]), .inBlock 1, .inLoop (cd53 [1, 1, 1, 0, 0, 0]), .inBlock 0, .code (cd53 [1, 1, 1, 1])]) (us := [(54, .bool true), (55, .string a0), (56, .int .i64 a1), (57, .int .i64 t28), (58, .int .i64 (IntKind.i64.wrap (a1 + t28))), (59, .int .i64 (IntKind.i64.wrap ((IntKind.i64.wrap (a1 + t28)) + 1)))]) (by kernel_rfl) ?_
         obtain ⟨g76, hp77⟩ := ite_some hp75
         refine r_val (c := (cd53 [1, 1, 1, 0, 0, 0, 1, 0, 1, 1, 0, 1, 0])) (i := 5) (d := (some 60)) (ty := 5) (op := .index 9 (.tmp 55) (.tmp 59)) (v := .int .u8 (byt a0 (IntKind.i64.wrap ((IntKind.i64.wrap (a1 + t28)) + 1)))) (by kernel_rfl) (by kernel_rfl) (fun o ho _ => x_indexStr (kk := .i64) (by kernel_rfl) (by kernel_rfl) (by kernel_rfl) g76.1 g76.2 ho) ?_
         obtain ⟨t78, hr79, hp80⟩ := bind_some' hp77
         refine r_call1 (c := (cd53 [1, 1, 1, 0, 0, 0, 1, 0, 1, 1, 0, 1, 0])) (i := 6) (d := (some 61)) (g := 64) (args := #[.int .u8 (byt a0 (IntKind.i64.wrap ((IntKind.i64.wrap (a1 + t28)) + 1)))]) (by kernel_rfl) (by kernel_rfl) (by kernel_rfl) (by kernel_rfl) (weirref05_letter.ok (byt a0 (IntKind.i64.wrap ((IntKind.i64.wrap (a1 + t28)) + 1))) hS53 hr79) ?_
         rintro _ w81 ⟨rfl, hS82⟩
         refine ⟨.bool t78, rfl, ?_⟩
         refine sx_run 1 (todo' := [.inRegion (opsOf (cd53 [1, 1, 1, 0, 0, 0, 1, 0, 1, 1, 0, 1, 0])) [8, 9, 10, 11, 12, 13, 14, 15, 16], .code (cd53 [1, 1, 1, 0, 0, 0, 1, 0, 1, 1, 1]), .inBlock 1, .inLoop (cd53 [1, 1, 1, 0, 0, 0]), .inBlock 0, .code (cd53 [1, 1, 1, 1])]) (us := [(62, .bool t78)]) (by kernel_rfl) ?_
         cases t78
         ·skip
          have hp83 := ite_f hp80 rfl
          refine sx_run 5 (todo' := [.inRegion (opsOf (cd53 [1, 1, 1, 0, 0, 0, 1, 0, 1, 1, 0, 1, 0])) [13, 14, 15, 16], .code (cd53 [1, 1, 1, 0, 0, 0, 1, 0, 1, 1, 1]), .inBlock 1, .inLoop (cd53 [1, 1, 1, 0, 0, 0]), .inBlock 0, .code (cd53 [1, 1, 1, 1])]) (us := [(63, .string a0), (64, .int .i64 a1), (65, .int .i64 t28), (66, .int .i64 (IntKind.i64.wrap (a1 + t28))), (67, .int .i64 (IntKind.i64.wrap ((IntKind.i64.wrap (a1 + t28)) + 1)))]) (by kernel_rfl) ?_
          obtain ⟨g84, hp85⟩ := ite_some hp83
          refine r_val (c := (cd53 [1, 1, 1, 0, 0, 0, 1, 0, 1, 1, 0, 1, 0])) (i := 13) (d := (some 68)) (ty := 5) (op := .index 9 (.tmp 63) (.tmp 67)) (v := .int .u8 (byt a0 (IntKind.i64.wrap ((IntKind.i64.wrap (a1 + t28)) + 1)))) (by kernel_rfl) (by kernel_rfl) (fun o ho _ => x_indexStr (kk := .i64) (by kernel_rfl) (by kernel_rfl) (by kernel_rfl) g84.1 g84.2 ho) ?_
          obtain ⟨t86, hr87, hp88⟩ := bind_some' hp85
          refine r_call1 (c := (cd53 [1, 1, 1, 0, 0, 0, 1, 0, 1, 1, 0, 1, 0])) (i := 14) (d := (some 69)) (g := 65) (args := #[.int .u8 (byt a0 (IntKind.i64.wrap ((IntKind.i64.wrap (a1 + t28)) + 1)))]) (by kernel_rfl) (by kernel_rfl) (by kernel_rfl) (by kernel_rfl) (weirref05_digit.ok (byt a0 (IntKind.i64.wrap ((IntKind.i64.wrap (a1 + t28)) + 1))) hS82 hr87) ?_
          rintro _ w89 ⟨rfl, hS90⟩
          refine ⟨.bool t86, rfl, ?_⟩
          refine sx_run 3 (todo' := [.code (cd53 [1, 1, 1, 0, 0, 0, 1, 0, 1, 1, 1]), .inBlock 1, .inLoop (cd53 [1, 1, 1, 0, 0, 0]), .inBlock 0, .code (cd53 [1, 1, 1, 1])]) (us := [(70, .bool t86), (7, .bool t86)]) (by kernel_rfl) ?_
          refine Runs.fill (m := [some (.string a0), some (.int .i64 a1), none, none, none, some (.int .i64 t28), none, some (.bool t86), none, none, none, none, none, none, none, none, none, none, none, none, none, none, none, none, none, none, none, none, none, none, none, none, none, none, none, none, none, none, none, none, none, none, none, none, none, none, none, none, none, none, none, none, none, none, none, none, none, none, none, none, none, none, none, none, none, none, none, none, none, none, none, none, none, none, none, none]) (by kernel_rfl) ?_
          exact J63 t86 (Option.some.inj hp88) _ _ hS90
         ·skip
          have hp91 := ite_t hp80 rfl
          refine sx_run 10 (todo' := [.code (cd53 [1, 1, 1, 0, 0, 0, 1, 0, 1, 1, 1]), .inBlock 1, .inLoop (cd53 [1, 1, 1, 0, 0, 0]), .inBlock 0, .code (cd53 [1, 1, 1, 1])]) (us := [(63, undef), (64, undef), (65, undef), (66, undef), (67, undef), (68, undef), (69, undef), (70, .bool true), (7, .bool true)]) (by kernel_rfl) ?_
          refine Runs.fill (m := [some (.string a0), some (.int .i64 a1), none, none, none, some (.int .i64 t28), none, some (.bool true), none, none, none, none, none, none, none, none, none, none, none, none, none, none, none, none, none, none, none, none, none, none, none, none, none, none, none, none, none, none, none, none, none, none, none, none, none, none, none, none, none, none, none, none, none, none, none, none, none, none, none, none, none, none, none, none, none, none, none, none, none, none, none, none, none, none, none, none]) (by kernel_rfl) ?_
          exact J63 true (Option.some.inj hp91) _ _ hS82
        ·skip
         have hp92 := ite_f hp72 h74
         refine sx_run 4 (todo' := [.code (cd53 [1, 1, 1, 0, 0, 0, 1, 0, 1, 1, 1]), .inBlock 1, .inLoop (cd53 [1, 1, 1, 0, 0, 0]), .inBlock 0, .code (cd53 [1, 1, 1, 1])]) (us := [(54, .bool false)]) (by kernel_rfl) ?_
         refine Runs.fill (m := [some (.string a0), some (.int .i64 a1), none, none, none, some (.int .i64 t28), none, some (.bool t51), none, none, none, none, none, none, none, none, none, none, none, none, none, none, none, none, none, none, none, none, none, none, none, none, none, none, none, none, none, none, none, none, none, none, none, none, none, none, none, none, none, none, none, none, none, none, none, none, none, none, none, none, none, none, none, none, none, none, none, none, none, none, none, none, none, none, none, none]) (by kernel_rfl) ?_
         exact J63 t51 (Option.some.inj hp92) _ _ hS53
       ·skip
        have hp93 := ite_f hv58 h71
        refine sx_split 3 (todo' := [.inRegion (opsOf (cd53 [1, 1, 1, 0, 0, 0, 1, 0, 1, 1, 0, 0])) [5, 6, 7, 8, 9, 10, 11, 12, 13, 14], .code (cd53 [1, 1, 1, 0, 0, 0, 1, 0, 1, 1, 0, 1]), .code (cd53 [1, 1, 1, 0, 0, 0, 1, 0, 1, 1, 1]), .inBlock 1, .inLoop (cd53 [1, 1, 1, 0, 0, 0]), .inBlock 0, .code (cd53 [1, 1, 1, 1])]) (us := [(42, .bool false), (43, .int .u8 (byt a0 (IntKind.i64.wrap (a1 + t28))))]) (d := 44) (t := ((byt a0 (IntKind.i64.wrap (a1 + t28))) == 45)) (by kernel_rfl) (fun h94 => ?_) (fun h95 => ?_)
        ·skip
         have hp96 := ite_t hp93 h94
         refine sx_split 9 (todo' := [.inRegion (opsOf (cd53 [1, 1, 1, 0, 0, 0, 1, 0, 1, 1, 0, 0])) [14], .code (cd53 [1, 1, 1, 0, 0, 0, 1, 0, 1, 1, 0, 1]), .code (cd53 [1, 1, 1, 0, 0, 0, 1, 0, 1, 1, 1]), .inBlock 1, .inLoop (cd53 [1, 1, 1, 0, 0, 0]), .inBlock 0, .code (cd53 [1, 1, 1, 1])]) (us := [(45, .bool true), (46, .bool true), (47, .int .i64 a1), (48, .int .i64 t28), (49, .int .i64 (IntKind.i64.wrap (a1 + t28))), (50, .int .i64 (IntKind.i64.wrap ((IntKind.i64.wrap (a1 + t28)) + 1))), (51, .string a0), (52, .int .i64 (a0.size : Int))]) (d := 53) (t := (decide ((IntKind.i64.wrap ((IntKind.i64.wrap (a1 + t28)) + 1)) < (a0.size : Int)))) (by kernel_rfl) (fun h97 => ?_) (fun h98 => ?_)
         ·skip
          have hp99 := ite_t hp96 h97
          refine sx_run 9 (todo' := [.inRegion (opsOf (cd53 [1, 1, 1, 0, 0, 0, 1, 0, 1, 1, 0, 1, 0])) [5, 6, 7, 8, 9, 10, 11, 12, 13, 14, 15, 16], .code (cd53 [1, 1, 1, 0, 0, 0, 1, 0, 1, 1, 1]), .inBlock 1, .inLoop (cd53 [1, 1, 1, 0, 0, 0]), .inBlock 0, .code (cd53 [1, 1, 1, 1])]) (us := [(54, .bool true), (55, .string a0), (56, .int .i64 a1), (57, .int .i64 t28), (58, .int .i64 (IntKind.i64.wrap (a1 + t28))), (59, .int .i64 (IntKind.i64.wrap ((IntKind.i64.wrap (a1 + t28)) + 1)))]) (by kernel_rfl) ?_
          obtain ⟨g100, hp101⟩ := ite_some hp99
          refine r_val (c := (cd53 [1, 1, 1, 0, 0, 0, 1, 0, 1, 1, 0, 1, 0])) (i := 5) (d := (some 60)) (ty := 5) (op := .index 9 (.tmp 55) (.tmp 59)) (v := .int .u8 (byt a0 (IntKind.i64.wrap ((IntKind.i64.wrap (a1 + t28)) + 1)))) (by kernel_rfl) (by kernel_rfl) (fun o ho _ => x_indexStr (kk := .i64) (by kernel_rfl) (by kernel_rfl) (by kernel_rfl) g100.1 g100.2 ho) ?_
          obtain ⟨t102, hr103, hp104⟩ := bind_some' hp101
          refine r_call1 (c := (cd53 [1, 1, 1, 0, 0, 0, 1, 0, 1, 1, 0, 1, 0])) (i := 6) (d := (some 61)) (g := 64) (args := #[.int .u8 (byt a0 (IntKind.i64.wrap ((IntKind.i64.wrap (a1 + t28)) + 1)))]) (by kernel_rfl) (by kernel_rfl) (by kernel_rfl) (by kernel_rfl) (weirref05_letter.ok (byt a0 (IntKind.i64.wrap ((IntKind.i64.wrap (a1 + t28)) + 1))) hS53 hr103) ?_
          rintro _ w105 ⟨rfl, hS106⟩
          refine ⟨.bool t102, rfl, ?_⟩
          refine sx_run 1 (todo' := [.inRegion (opsOf (cd53 [1, 1, 1, 0, 0, 0, 1, 0, 1, 1, 0, 1, 0])) [8, 9, 10, 11, 12, 13, 14, 15, 16], .code (cd53 [1, 1, 1, 0, 0, 0, 1, 0, 1, 1, 1]), .inBlock 1, .inLoop (cd53 [1, 1, 1, 0, 0, 0]), .inBlock 0, .code (cd53 [1, 1, 1, 1])]) (us := [(62, .bool t102)]) (by kernel_rfl) ?_
          cases t102
          ·skip
           have hp107 := ite_f hp104 rfl
           refine sx_run 5 (todo' := [.inRegion (opsOf (cd53 [1, 1, 1, 0, 0, 0, 1, 0, 1, 1, 0, 1, 0])) [13, 14, 15, 16], .code (cd53 [1, 1, 1, 0, 0, 0, 1, 0, 1, 1, 1]), .inBlock 1, .inLoop (cd53 [1, 1, 1, 0, 0, 0]), .inBlock 0, .code (cd53 [1, 1, 1, 1])]) (us := [(63, .string a0), (64, .int .i64 a1), (65, .int .i64 t28), (66, .int .i64 (IntKind.i64.wrap (a1 + t28))), (67, .int .i64 (IntKind.i64.wrap ((IntKind.i64.wrap (a1 + t28)) + 1)))]) (by kernel_rfl) ?_
           obtain ⟨g108, hp109⟩ := ite_some hp107
           refine r_val (c := (cd53 [1, 1, 1, 0, 0, 0, 1, 0, 1, 1, 0, 1, 0])) (i := 13) (d := (some 68)) (ty := 5) (op := .index 9 (.tmp 63) (.tmp 67)) (v := .int .u8 (byt a0 (IntKind.i64.wrap ((IntKind.i64.wrap (a1 + t28)) + 1)))) (by kernel_rfl) (by kernel_rfl) (fun o ho _ => x_indexStr (kk := .i64) (by kernel_rfl) (by kernel_rfl) (by kernel_rfl) g108.1 g108.2 ho) ?_
           obtain ⟨t110, hr111, hp112⟩ := bind_some' hp109
           refine r_call1 (c := (cd53 [1, 1, 1, 0, 0, 0, 1, 0, 1, 1, 0, 1, 0])) (i := 14) (d := (some 69)) (g := 65) (args := #[.int .u8 (byt a0 (IntKind.i64.wrap ((IntKind.i64.wrap (a1 + t28)) + 1)))]) (by kernel_rfl) (by kernel_rfl) (by kernel_rfl) (by kernel_rfl) (weirref05_digit.ok (byt a0 (IntKind.i64.wrap ((IntKind.i64.wrap (a1 + t28)) + 1))) hS106 hr111) ?_
           rintro _ w113 ⟨rfl, hS114⟩
           refine ⟨.bool t110, rfl, ?_⟩
           refine sx_run 3 (todo' := [.code (cd53 [1, 1, 1, 0, 0, 0, 1, 0, 1, 1, 1]), .inBlock 1, .inLoop (cd53 [1, 1, 1, 0, 0, 0]), .inBlock 0, .code (cd53 [1, 1, 1, 1])]) (us := [(70, .bool t110), (7, .bool t110)]) (by kernel_rfl) ?_
           refine Runs.fill (m := [some (.string a0), some (.int .i64 a1), none, none, none, some (.int .i64 t28), none, some (.bool t110), none, none, none, none, none, none, none, none, none, none, none, none, none, none, none, none, none, none, none, none, none, none, none, none, none, none, none, none, none, none, none, none, none, none, none, none, none, none, none, none, none, none, none, none, none, none, none, none, none, none, none, none, none, none, none, none, none, none, none, none, none, none, none, none, none, none, none, none]) (by kernel_rfl) ?_
           exact J63 t110 (Option.some.inj hp112) _ _ hS114
          ·skip
           have hp115 := ite_t hp104 rfl
           refine sx_run 10 (todo' := [.code (cd53 [1, 1, 1, 0, 0, 0, 1, 0, 1, 1, 1]), .inBlock 1, .inLoop (cd53 [1, 1, 1, 0, 0, 0]), .inBlock 0, .code (cd53 [1, 1, 1, 1])]) (us := [(63, undef), (64, undef), (65, undef), (66, undef), (67, undef), (68, undef), (69, undef), (70, .bool true), (7, .bool true)]) (by kernel_rfl) ?_
           refine Runs.fill (m := [some (.string a0), some (.int .i64 a1), none, none, none, some (.int .i64 t28), none, some (.bool true), none, none, none, none, none, none, none, none, none, none, none, none, none, none, none, none, none, none, none, none, none, none, none, none, none, none, none, none, none, none, none, none, none, none, none, none, none, none, none, none, none, none, none, none, none, none, none, none, none, none, none, none, none, none, none, none, none, none, none, none, none, none, none, none, none, none, none, none]) (by kernel_rfl) ?_
           exact J63 true (Option.some.inj hp115) _ _ hS106
         ·skip
          have hp116 := ite_f hp96 h98
          refine sx_run 4 (todo' := [.code (cd53 [1, 1, 1, 0, 0, 0, 1, 0, 1, 1, 1]), .inBlock 1, .inLoop (cd53 [1, 1, 1, 0, 0, 0]), .inBlock 0, .code (cd53 [1, 1, 1, 1])]) (us := [(54, .bool false)]) (by kernel_rfl) ?_
          refine Runs.fill (m := [some (.string a0), some (.int .i64 a1), none, none, none, some (.int .i64 t28), none, some (.bool t51), none, none, none, none, none, none, none, none, none, none, none, none, none, none, none, none, none, none, none, none, none, none, none, none, none, none, none, none, none, none, none, none, none, none, none, none, none, none, none, none, none, none, none, none, none, none, none, none, none, none, none, none, none, none, none, none, none, none, none, none, none, none, none, none, none, none, none, none]) (by kernel_rfl) ?_
          exact J63 t51 (Option.some.inj hp116) _ _ hS53
        ·skip
         have hp117 := ite_f hp93 h95
         refine sx_run 13 (todo' := [.code (cd53 [1, 1, 1, 0, 0, 0, 1, 0, 1, 1, 1]), .inBlock 1, .inLoop (cd53 [1, 1, 1, 0, 0, 0]), .inBlock 0, .code (cd53 [1, 1, 1, 1])]) (us := [(45, .bool false), (46, .bool false), (47, undef), (48, undef), (49, undef), (50, undef), (51, undef), (52, undef), (53, undef), (54, .bool false)]) (by kernel_rfl) ?_
         refine Runs.fill (m := [some (.string a0), some (.int .i64 a1), none, none, none, some (.int .i64 t28), none, some (.bool t51), none, none, none, none, none, none, none, none, none, none, none, none, none, none, none, none, none, none, none, none, none, none, none, none, none, none, none, none, none, none, none, none, none, none, none, none, none, none, none, none, none, none, none, none, none, none, none, none, none, none, none, none, none, none, none, none, none, none, none, none, none, none, none, none, none, none, none, none]) (by kernel_rfl) ?_
         exact J63 t51 (Option.some.inj hp117) _ _ hS53
      cases t43
      ·skip
       have hp118 := ite_f hv49 rfl
       refine sx_run 1 (todo' := [.inRegion (opsOf (cd53 [1, 1, 1, 0, 0, 0, 1, 0, 1, 0])) [4, 5, 6, 7, 8, 9, 10], .code (cd53 [1, 1, 1, 0, 0, 0, 1, 0, 1, 1]), .inBlock 1, .inLoop (cd53 [1, 1, 1, 0, 0, 0]), .inBlock 0, .code (cd53 [1, 1, 1, 1])]) (us := [(33, .int .u8 (byt a0 (IntKind.i64.wrap (a1 + t28))))]) (by kernel_rfl) ?_
       obtain ⟨t119, hr120, hp121⟩ := bind_some' hp118
       refine r_call1 (c := (cd53 [1, 1, 1, 0, 0, 0, 1, 0, 1, 0])) (i := 4) (d := (some 34)) (g := 65) (args := #[.int .u8 (byt a0 (IntKind.i64.wrap (a1 + t28)))]) (by kernel_rfl) (by kernel_rfl) (by kernel_rfl) (by kernel_rfl) (weirref05_digit.ok (byt a0 (IntKind.i64.wrap (a1 + t28))) hS47 hr120) ?_
       rintro _ w122 ⟨rfl, hS123⟩
       refine ⟨.bool t119, rfl, ?_⟩
       refine sx_run 2 (todo' := [.inRegion (opsOf (cd53 [1, 1, 1, 0, 0, 0, 1, 0, 1, 0])) [7, 8, 9, 10], .code (cd53 [1, 1, 1, 0, 0, 0, 1, 0, 1, 1]), .inBlock 1, .inLoop (cd53 [1, 1, 1, 0, 0, 0]), .inBlock 0, .code (cd53 [1, 1, 1, 1])]) (us := [(35, .bool t119), (36, .bool t119)]) (by kernel_rfl) ?_
       cases t119
       ·skip
        have hp124 := ite_f hp121 rfl
        refine sx_split 2 (todo' := [.inRegion (opsOf (cd53 [1, 1, 1, 0, 0, 0, 1, 0, 1, 0])) [9, 10], .code (cd53 [1, 1, 1, 0, 0, 0, 1, 0, 1, 1]), .inBlock 1, .inLoop (cd53 [1, 1, 1, 0, 0, 0]), .inBlock 0, .code (cd53 [1, 1, 1, 1])]) (us := [(37, .int .u8 (byt a0 (IntKind.i64.wrap (a1 + t28))))]) (d := 38) (t := ((byt a0 (IntKind.i64.wrap (a1 + t28))) == 46)) (by kernel_rfl) (fun h125 => ?_) (fun h126 => ?_)
        ·skip
         have hp127 := ite_t hp124 h125
         refine sx_run 5 (todo' := [.code (cd53 [1, 1, 1, 0, 0, 0, 1, 0, 1, 1, 0, 0]), .code (cd53 [1, 1, 1, 0, 0, 0, 1, 0, 1, 1, 0, 1]), .code (cd53 [1, 1, 1, 0, 0, 0, 1, 0, 1, 1, 1]), .inBlock 1, .inLoop (cd53 [1, 1, 1, 0, 0, 0]), .inBlock 0, .code (cd53 [1, 1, 1, 1])]) (us := [(39, .bool true), (7, .bool true)]) (by kernel_rfl) ?_
         refine Runs.fill (m := [some (.string a0), some (.int .i64 a1), none, none, none, some (.int .i64 t28), some (.int .u8 (byt a0 (IntKind.i64.wrap (a1 + t28)))), some (.bool true), none, none, none, none, none, none, none, none, none, none, none, none, none, none, none, none, none, none, none, none, none, none, none, none, none, none, none, none, none, none, none, none, none, none, none, none, none, none, none, none, none, none, none, none, none, none, none, none, none, none, none, none, none, none, none, none, none, none, none, none, none, none, none, none, none, none, none, none]) (by kernel_rfl) ?_
         exact J54 true (Option.some.inj hp127) _ _ hS123
        ·skip
         have hp128 := ite_f hp124 h126
         refine sx_run 5 (todo' := [.code (cd53 [1, 1, 1, 0, 0, 0, 1, 0, 1, 1, 0, 0]), .code (cd53 [1, 1, 1, 0, 0, 0, 1, 0, 1, 1, 0, 1]), .code (cd53 [1, 1, 1, 0, 0, 0, 1, 0, 1, 1, 1]), .inBlock 1, .inLoop (cd53 [1, 1, 1, 0, 0, 0]), .inBlock 0, .code (cd53 [1, 1, 1, 1])]) (us := [(39, .bool false), (7, .bool false)]) (by kernel_rfl) ?_
         refine Runs.fill (m := [some (.string a0), some (.int .i64 a1), none, none, none, some (.int .i64 t28), some (.int .u8 (byt a0 (IntKind.i64.wrap (a1 + t28)))), some (.bool false), none, none, none, none, none, none, none, none, none, none, none, none, none, none, none, none, none, none, none, none, none, none, none, none, none, none, none, none, none, none, none, none, none, none, none, none, none, none, none, none, none, none, none, none, none, none, none, none, none, none, none, none, none, none, none, none, none, none, none, none, none, none, none, none, none, none, none, none]) (by kernel_rfl) ?_
         exact J54 false (Option.some.inj hp128) _ _ hS123
       ·skip
        have hp129 := ite_t hp121 rfl
        refine sx_run 7 (todo' := [.code (cd53 [1, 1, 1, 0, 0, 0, 1, 0, 1, 1, 0, 0]), .code (cd53 [1, 1, 1, 0, 0, 0, 1, 0, 1, 1, 0, 1]), .code (cd53 [1, 1, 1, 0, 0, 0, 1, 0, 1, 1, 1]), .inBlock 1, .inLoop (cd53 [1, 1, 1, 0, 0, 0]), .inBlock 0, .code (cd53 [1, 1, 1, 1])]) (us := [(37, undef), (38, undef), (39, .bool true), (7, .bool true)]) (by kernel_rfl) ?_
        refine Runs.fill (m := [some (.string a0), some (.int .i64 a1), none, none, none, some (.int .i64 t28), some (.int .u8 (byt a0 (IntKind.i64.wrap (a1 + t28)))), some (.bool true), none, none, none, none, none, none, none, none, none, none, none, none, none, none, none, none, none, none, none, none, none, none, none, none, none, none, none, none, none, none, none, none, none, none, none, none, none, none, none, none, none, none, none, none, none, none, none, none, none, none, none, none, none, none, none, none, none, none, none, none, none, none, none, none, none, none, none, none]) (by kernel_rfl) ?_
        exact J54 true (Option.some.inj hp129) _ _ hS123
      ·skip
       have hp130 := ite_t hv49 rfl
       refine sx_run 11 (todo' := [.code (cd53 [1, 1, 1, 0, 0, 0, 1, 0, 1, 1, 0, 0]), .code (cd53 [1, 1, 1, 0, 0, 0, 1, 0, 1, 1, 0, 1]), .code (cd53 [1, 1, 1, 0, 0, 0, 1, 0, 1, 1, 1]), .inBlock 1, .inLoop (cd53 [1, 1, 1, 0, 0, 0]), .inBlock 0, .code (cd53 [1, 1, 1, 1])]) (us := [(33, undef), (34, undef), (35, .bool true), (36, .bool true), (37, undef), (38, undef), (39, .bool true), (7, .bool true)]) (by kernel_rfl) ?_
       refine Runs.fill (m := [some (.string a0), some (.int .i64 a1), none, none, none, some (.int .i64 t28), some (.int .u8 (byt a0 (IntKind.i64.wrap (a1 + t28)))), some (.bool true), none, none, none, none, none, none, none, none, none, none, none, none, none, none, none, none, none, none, none, none, none, none, none, none, none, none, none, none, none, none, none, none, none, none, none, none, none, none, none, none, none, none, none, none, none, none, none, none, none, none, none, none, none, none, none, none, none, none, none, none, none, none, none, none, none, none, none, none]) (by kernel_rfl) ?_
       exact J54 true (Option.some.inj hp130) _ _ hS47
     ·skip
      have hp131 := ite_f hb34 h39
      refine sx_run 3 (todo' := [.code (cd53 [1, 1, 1, 1])]) (us := []) (by kernel_rfl) ?_
      refine Runs.fill (m := [none, none, none, none, none, some (.int .i64 t28), none, none, none, none, none, none, none, none, none, none, none, none, none, none, none, none, none, none, none, none, none, none, none, none, none, none, none, none, none, none, none, none, none, none, none, none, none, none, none, none, none, none, none, none, none, none, none, none, none, none, none, none, none, none, none, none, none, none, none, none, none, none, none, none, none, none, none, none, none, none]) (by kernel_rfl) ?_
      exact J24 t28 ((Option.some.inj hp131).trans he33) _ _ hS30
    refine Runs.fill (m := [some (.string a0), some (.int .i64 a1), none, none, none, some (.int .i64 1), none, none, none, none, none, none, none, none, none, none, none, none, none, none, none, none, none, none, none, none, none, none, none, none, none, none, none, none, none, none, none, none, none, none, none, none, none, none, none, none, none, none, none, none, none, none, none, none, none, none, none, none, none, none, none, none, none, none, none, none, none, none, none, none, none, none, none, none, none, none]) (by kernel_rfl) ?_
    exact L37 1 _ hv19 rfl _ _ hS12

noncomputable def cd49 (p : List Nat) : Code := sub (bodyOf Tryz.f49) p
def weirref05_Name.f (a0 : ByteArray) : Option Bool :=
  (if (decide ((a0.size : Int) > 0)) = true then (if (decide ((a0.size : Int) ≤ 64)) = true then (weirref05_name.f a0 0 >>= (fun t7 => (if (t7 == (a0.size : Int)) = true then some (true) else some (false)))) else some (false)) else some (false))
set_option maxHeartbeats 16000000 in
theorem weirref05_Name.ok (a0 : ByteArray) {w0 : World} {Z : Zm} {fs : List XObj} {w : World} (hS0 : St w0 Z (fs) w) {q0 : Bool} (hp0 : weirref05_Name.f a0 = some q0) :
    Calls Tryz.prog 49 #[.string a0] w (fun e w' => e = .returned (.bool q0) ∧ St w0 Z (fs) w') := by
  refine calls_abs ?_; intro R hR
  unfold weirref05_Name.f at hp0
  refine calls_of_runs (fn := Tryz.f49) (c := cd49 []) Tryz.func49 (by kernel_rfl) (al := [.string a0]) rfl (n := 17) rfl ?_
  refine sx_split 9 (todo' := [.inRegion (opsOf (cd49 [1, 0])) [3, 4, 5, 6, 7, 8, 9, 10, 11, 12, 13, 14, 15], .code (cd49 [1, 1])]) (us := [(2, .bool false), (3, .string a0), (4, .int .i64 (a0.size : Int))]) (d := 5) (t := (decide ((a0.size : Int) > 0))) (by kernel_rfl) (fun h1 => ?_) (fun h2 => ?_)
  ·skip
   have hp3 := ite_t hp0 h1
   refine sx_split 4 (todo' := [.inRegion (opsOf (cd49 [1, 0])) [7, 8, 9, 10, 11, 12, 13, 14, 15], .code (cd49 [1, 1])]) (us := [(6, .bool true), (7, .string a0), (8, .int .i64 (a0.size : Int))]) (d := 9) (t := (decide ((a0.size : Int) ≤ 64))) (by kernel_rfl) (fun h4 => ?_) (fun h5 => ?_)
   ·skip
    have hp6 := ite_t hp3 h4
    refine sx_run 3 (todo' := [.inRegion (opsOf (cd49 [1, 0])) [10, 11, 12, 13, 14, 15], .code (cd49 [1, 1])]) (us := [(10, .bool true), (11, .bool true), (12, .string a0)]) (by kernel_rfl) ?_
    obtain ⟨t7, hr8, hp9⟩ := bind_some' hp6
    refine r_call1 (c := (cd49 [1, 0])) (i := 10) (d := (some 13)) (g := 53) (args := #[.string a0, .int .i64 0]) (by kernel_rfl) (by kernel_rfl) (by kernel_rfl) (by kernel_rfl) (weirref05_name.ok a0 0 hS0 hr8) ?_
    rintro _ w10 ⟨rfl, hS11⟩
    refine ⟨.int .i64 t7, rfl, ?_⟩
    refine sx_split 3 (todo' := [.inRegion (opsOf (cd49 [1, 0])) [14, 15], .code (cd49 [1, 1])]) (us := [(14, .string a0), (15, .int .i64 (a0.size : Int))]) (d := 16) (t := (t7 == (a0.size : Int))) (by kernel_rfl) (fun h12 => ?_) (fun h13 => ?_)
    ·skip
     have hp14 := ite_t hp9 h12
     refine sx_run 3 (todo' := [.code (cd49 [1, 1])]) (us := [(17, .bool true), (2, .bool true)]) (by kernel_rfl) ?_
     refine runs_ret (fn := Tryz.f49) (v := .bool true) Tryz.func49 (by kernel_rfl) ?_
     have hr15 := (Option.some.inj hp14)
     cases hr15
     exact hR _ _ ⟨rfl, hS11⟩
    ·skip
     have hp16 := ite_f hp9 h13
     refine sx_run 3 (todo' := [.code (cd49 [1, 1])]) (us := [(17, .bool false), (2, .bool false)]) (by kernel_rfl) ?_
     refine runs_ret (fn := Tryz.f49) (v := .bool false) Tryz.func49 (by kernel_rfl) ?_
     have hr17 := (Option.some.inj hp16)
     cases hr17
     exact hR _ _ ⟨rfl, hS11⟩
   ·skip
    have hp18 := ite_f hp3 h5
    refine sx_run 10 (todo' := [.code (cd49 [1, 1])]) (us := [(10, .bool false), (11, .bool false), (12, undef), (13, undef), (14, undef), (15, undef), (16, undef), (17, .bool false), (2, .bool false)]) (by kernel_rfl) ?_
    refine runs_ret (fn := Tryz.f49) (v := .bool false) Tryz.func49 (by kernel_rfl) ?_
    have hr19 := (Option.some.inj hp18)
    cases hr19
    exact hR _ _ ⟨rfl, hS0⟩
  ·skip
   have hp20 := ite_f hp0 h2
   refine sx_run 14 (todo' := [.code (cd49 [1, 1])]) (us := [(6, .bool false), (7, undef), (8, undef), (9, undef), (10, .bool false), (11, .bool false), (12, undef), (13, undef), (14, undef), (15, undef), (16, undef), (17, .bool false), (2, .bool false)]) (by kernel_rfl) ?_
   refine runs_ret (fn := Tryz.f49) (v := .bool false) Tryz.func49 (by kernel_rfl) ?_
   have hr21 := (Option.some.inj hp20)
   cases hr21
   exact hR _ _ ⟨rfl, hS0⟩

end
end Go.Proofs.YtdcdpigneonedaaGreatDoor.K
