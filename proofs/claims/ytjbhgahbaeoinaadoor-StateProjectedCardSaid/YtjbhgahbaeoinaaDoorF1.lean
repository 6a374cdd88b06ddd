/- The walk, part 1: each Go function as a plain Lean function, and that its call answers as that function says. No condition. -/
import Derived.Test.YtjbhgahbaeoinaaDoorE
import Derived.Test.YtjbhgahbaeoinaaDoorNS
import Derived.Test.YtjbhgahbaeoinaaDoorLS
import Derived.Test.YtjbhgahbaeoinaaDoorNG
import Derived.Test.YtjbhgahbaeoinaaDoorNV
import Derived.Test.YtjbhgahbaeoinaaDoorNB
set_option linter.unusedVariables false
set_option linter.unusedSimpArgs false
set_option maxRecDepth 100000
namespace Go.Proofs.YtjbhgahbaeoinaaDoor.K
open Go Go.RowKit
noncomputable section
noncomputable def cd22 (p : List Nat) : Code := sub (bodyOf Tryd.f22) p
def weirlaw10_of.f (a0 : Int) (a1 : Int) : Option api_Final :=
  (if 0 ≤ (0 : Int) ∧ (0 : Int) < 48 then (if 0 ≤ (1 : Int) ∧ (1 : Int) < 48 then some ((⟨2, (vset (vset (Vector.replicate 48 0) (0 : Int) a0) (1 : Int) a1)⟩ : api_Final)) else none) else none)
set_option maxHeartbeats 16000000 in
theorem weirlaw10_of.ok (a0 : Int) (a1 : Int) {w0 : World} {Z : Zm} {fs : List XObj} {w : World} (hS0 : St w0 Z (fs) w) {q0 : api_Final} (hp0 : weirlaw10_of.f a0 a1 = some q0) :
    Calls Tryd.prog 22 #[.int .i64 a0, .int .i64 a1] w (fun e w' => e = .returned (.agg (enc_api_Final q0).toArray) ∧ St w0 Z (fs) w') := by
  refine calls_abs ?_; intro R hR
  unfold weirlaw10_of.f at hp0
  refine calls_of_runs (fn := Tryd.f22) (c := cd22 []) Tryd.func22 (by kernel_rfl) (al := [.int .i64 a0, .int .i64 a1]) rfl (n := 12) rfl ?_
  refine sx_run 2 (todo' := [.inRegion (opsOf (cd22 [0])) [0], .code (cd22 [1])]) (us := []) (by kernel_rfl) ?_
  refine r_alloc (c := (cd22 [0])) (i := 0) (d := (some 4)) (ty := 0) (z := .agg (enc_api_Final (⟨0, (Vector.replicate 48 0)⟩ : api_Final)).toArray) (t := 24) (cs := enc_api_Final (⟨0, (Vector.replicate 48 0)⟩ : api_Final)) hS0 (by kernel_rfl) (by kernel_rfl) (by kernel_rfl) (by kernel_rfl) ?_
  intro b1 w2 hS3
  refine sx_run 4 (todo' := [.inRegion (opsOf (cd22 [1, 0])) [1, 2], .code (cd22 [1, 1])]) (us := [(6, .agg (enc_api_Final (⟨2, (Vector.replicate 48 0)⟩ : api_Final)).toArray)]) (by kernel_rfl) ?_
  refine r_alloc (c := (cd22 [1, 0])) (i := 1) (d := (some 5)) (ty := 0) (z := .agg (enc_api_Final (⟨0, (Vector.replicate 48 0)⟩ : api_Final)).toArray) (t := 24) (cs := enc_api_Final (⟨0, (Vector.replicate 48 0)⟩ : api_Final)) hS3 (by kernel_rfl) (by kernel_rfl) (by kernel_rfl) (by kernel_rfl) ?_
  intro b5 w6 hS7
  refine r_store (c := (cd22 [1, 0])) (i := 2) (d := none) (ty := 0) (t := 24) (x := (.tmp 5)) (y := (.tmp 6)) (b := b5) (o := 0) (e := 24) (cs := enc_api_Final (⟨0, (Vector.replicate 48 0)⟩ : api_Final)) (v := .agg (enc_api_Final (⟨2, (Vector.replicate 48 0)⟩ : api_Final)).toArray) (vs := enc_api_Final (⟨2, (Vector.replicate 48 0)⟩ : api_Final)) (cs' := enc_api_Final (⟨2, (Vector.replicate 48 0)⟩ : api_Final)) hS7 (by kernel_rfl) (by kernel_rfl) (by kernel_rfl) (by kernel_rfl) (by kernel_rfl) (lenK (len_api_Final _) (by kernel_rfl)) (one_api_Final _) (by simp only [len_api_Final, List.length_cons, List.length_nil, List.length_append]; omega) (over_all ((len_api_Final _).trans (len_api_Final _).symm)) ?_
  intro w9 hS10
  refine sx_run 5 (todo' := [.inRegion (opsOf (cd22 [1, 1, 0])) [2, 3], .code (cd22 [1, 1, 1])]) (us := [(7, .int .i64 a0), (8, .pointer (some ⟨b5, 1, none⟩))]) (by kernel_rfl) ?_
  obtain ⟨g11, hp12⟩ := ite_some hp0
  refine r_indexArr (c := (cd22 [1, 1, 0])) (i := 2) (d := (some 9)) (ty := 0) (t := 22) (e := 2) (sz := 1) (kk := .i64) (x := (.tmp 8)) (y := (.const (.int .i64 0))) (b := b5) (o' := 1) (n := 48) (j := (0 : Int)) (by kernel_rfl) (by kernel_rfl) (by kernel_rfl) (by kernel_rfl) (by kernel_rfl) (by kernel_rfl) g11.1 g11.2 ?_
  refine r_store (c := (cd22 [1, 1, 0])) (i := 3) (d := none) (ty := 0) (t := 2) (x := (.tmp 9)) (y := (.tmp 7)) (b := b5) (o := 1 + (0 : Int).toNat * 1) (e := 24) (cs := enc_api_Final (⟨2, (Vector.replicate 48 0)⟩ : api_Final)) (v := .int .i64 a0) (vs := [.int .i64 a0]) (cs' := enc_api_Final (⟨2, (vset (Vector.replicate 48 0) (0 : Int) a0)⟩ : api_Final)) hS10 (by kernel_rfl) (by kernel_rfl) (by kernel_rfl) (by kernel_rfl) (by kernel_rfl) (by kernel_rfl) (by kernel_rfl) (by have := g11.1; have := g11.2; simp only [len_api_Final, List.length_cons, List.length_nil, List.length_append]; omega) (over_api_Final_V _ _ _ g11.1 g11.2) ?_
  intro w13 hS14
  refine sx_run 5 (todo' := [.inRegion (opsOf (cd22 [1, 1, 1, 0])) [2, 3], .code (cd22 [1, 1, 1, 1])]) (us := [(10, .int .i64 a1), (11, .pointer (some ⟨b5, 1, none⟩))]) (by kernel_rfl) ?_
  obtain ⟨g15, hp16⟩ := ite_some hp12
  refine r_indexArr (c := (cd22 [1, 1, 1, 0])) (i := 2) (d := (some 12)) (ty := 0) (t := 22) (e := 2) (sz := 1) (kk := .i64) (x := (.tmp 11)) (y := (.const (.int .i64 1))) (b := b5) (o' := 1) (n := 48) (j := (1 : Int)) (by kernel_rfl) (by kernel_rfl) (by kernel_rfl) (by kernel_rfl) (by kernel_rfl) (by kernel_rfl) g15.1 g15.2 ?_
  refine r_store (c := (cd22 [1, 1, 1, 0])) (i := 3) (d := none) (ty := 0) (t := 2) (x := (.tmp 12)) (y := (.tmp 10)) (b := b5) (o := 1 + (1 : Int).toNat * 1) (e := 24) (cs := enc_api_Final (⟨2, (vset (Vector.replicate 48 0) (0 : Int) a0)⟩ : api_Final)) (v := .int .i64 a1) (vs := [.int .i64 a1]) (cs' := enc_api_Final (⟨2, (vset (vset (Vector.replicate 48 0) (0 : Int) a0) (1 : Int) a1)⟩ : api_Final)) hS14 (by kernel_rfl) (by kernel_rfl) (by kernel_rfl) (by kernel_rfl) (by kernel_rfl) (by kernel_rfl) (by kernel_rfl) (by have := g15.1; have := g15.2; simp only [len_api_Final, List.length_cons, List.length_nil, List.length_append]; omega) (over_api_Final_V _ _ _ g15.1 g15.2) ?_
  intro w17 hS18
  refine sx_run 3 (todo' := [.inRegion (opsOf (cd22 [1, 1, 1, 1, 0])) [0, 1], .code (cd22 [1, 1, 1, 1, 1])]) (us := []) (by kernel_rfl) ?_
  refine r_load (c := (cd22 [1, 1, 1, 1, 0])) (i := 0) (d := (some 13)) (ty := 24) (t := 24) (x := (.tmp 5)) (p := ⟨b5, 0, none⟩) (v := .agg (enc_api_Final (⟨2, (vset (vset (Vector.replicate 48 0) (0 : Int) a0) (1 : Int) a1)⟩ : api_Final)).toArray) (by kernel_rfl) (by kernel_rfl) (by kernel_rfl) (loads_agg (hS18.blk 0 rfl) (by kernel_rfl) (lenK (len_api_Final _) (by kernel_rfl))) ?_
  have hS19 := hS18.pick1
  refine r_store (c := (cd22 [1, 1, 1, 1, 0])) (i := 1) (d := none) (ty := 0) (t := 24) (x := (.tmp 4)) (y := (.tmp 13)) (b := b1) (o := 0) (e := 24) (cs := enc_api_Final (⟨0, (Vector.replicate 48 0)⟩ : api_Final)) (v := .agg (enc_api_Final (⟨2, (vset (vset (Vector.replicate 48 0) (0 : Int) a0) (1 : Int) a1)⟩ : api_Final)).toArray) (vs := enc_api_Final (⟨2, (vset (vset (Vector.replicate 48 0) (0 : Int) a0) (1 : Int) a1)⟩ : api_Final)) (cs' := enc_api_Final (⟨2, (vset (vset (Vector.replicate 48 0) (0 : Int) a0) (1 : Int) a1)⟩ : api_Final)) hS19 (by kernel_rfl) (by kernel_rfl) (by kernel_rfl) (by kernel_rfl) (by kernel_rfl) (lenK (len_api_Final _) (by kernel_rfl)) (one_api_Final _) (by simp only [len_api_Final, List.length_cons, List.length_nil, List.length_append]; omega) (over_all ((len_api_Final _).trans (len_api_Final _).symm)) ?_
  intro w20 hS21
  refine sx_run 1 (todo' := [.code (cd22 [1, 1, 1, 1, 1])]) (us := []) (by kernel_rfl) ?_
  have hS22 := hS21.drop
  have hS23 := hS22.drop
  refine runs_ret (fn := Tryd.f22) (v := .agg (enc_api_Final (⟨2, (vset (vset (Vector.replicate 48 0) (0 : Int) a0) (1 : Int) a1)⟩ : api_Final)).toArray) Tryd.func22 (resl_run (fn := Tryd.f22) (by kernel_rfl) (.cell (t := 4) (ty := 24) (by kernel_rfl) (loads_agg (hS21.blk 0 rfl) (by kernel_rfl) (lenK (len_api_Final _) (by kernel_rfl))) .nil)) ?_
  have hr24 := (Option.some.inj hp16)
  cases hr24
  exact hR _ _ ⟨rfl, hS23⟩

noncomputable def cd16 (p : List Nat) : Code := sub (bodyOf Tryd.f16) p
def state_Check.l0 (a0 : api_Final) (t39 : Int) : Option (Sum Unit Int) :=
  (if (decide (t39 < (((a0.V.toList.take 48).drop a0.N.toNat).length : Int))) = true then (if 0 ≤ t39 ∧ t39 < (((a0.V.toList.take 48).drop a0.N.toNat).length : Int) then (if ((gt ((a0.V.toList.take 48).drop a0.N.toNat) t39) != 0) = true then some (.inr (4)) else (state_Check.l0 a0 (IntKind.i64.wrap (t39 + 1)))) else none) else some (.inl ()))
 partial_fixpoint
def state_Check.f (a0 : api_Final) : Option Int :=
  (if (decide (a0.N < 0)) = true then some (4) else (if (decide (a0.N > 48)) = true then some (4) else (if 0 ≤ a0.N ∧ a0.N ≤ 48 then (state_Check.l0 a0 0 >>= (fun | .inl () => some (0) | .inr e => some e)) else none)))
set_option maxHeartbeats 16000000 in
theorem state_Check.ok (a0 : api_Final) {w0 : World} {Z : Zm} {fs : List XObj} {w : World} (hS0 : St w0 Z (fs) w) {q0 : Int} (hp0 : state_Check.f a0 = some q0) :
    Calls Tryd.prog 16 #[.agg (enc_api_Final a0).toArray] w (fun e w' => e = .returned (.int .i64 q0) ∧ St w0 Z (fs) w') := by
  refine calls_abs ?_; intro R hR
  unfold state_Check.f at hp0
  refine calls_of_runs (fn := Tryd.f16) (c := cd16 []) Tryd.func16 (by kernel_rfl) (al := [.agg (enc_api_Final a0).toArray]) rfl (n := 24) rfl ?_
  refine sx_run 2 (todo' := [.inRegion (opsOf (cd16 [0])) [0, 1], .code (cd16 [1])]) (us := []) (by kernel_rfl) ?_
  refine r_box (c := (cd16 [0])) (i := 0) (d := (some 1)) (ty := 0) (x := (.tmp 0)) (v := .agg (enc_api_Final a0).toArray) (t := 24) (cs := enc_api_Final a0) hS0 (by kernel_rfl) (by kernel_rfl) (by kernel_rfl) (by kernel_rfl) ?_
  intro b1 w2 hS3
  refine sx_run 6 (todo' := [.inRegion (opsOf (cd16 [1, 0, 0])) [1, 2, 3, 4, 5, 6, 7], .code (cd16 [1, 0, 1]), .code (cd16 [1, 1])]) (us := [(2, .int .i64 0), (5, .pointer (some ⟨b1, 0, none⟩))]) (by kernel_rfl) ?_
  refine r_load (c := (cd16 [1, 0, 0])) (i := 1) (d := (some 6)) (ty := 3) (t := 3) (x := (.tmp 5)) (p := ⟨b1, 0, none⟩) (v := .int .i64 a0.N) (by kernel_rfl) (by kernel_rfl) (by kernel_rfl) (loads_at 0 (hS3.blk 0 rfl) (by kernel_rfl) (by kernel_rfl)) ?_
  refine sx_split 1 (todo' := [.inRegion (opsOf (cd16 [1, 0, 0])) [3, 4, 5, 6, 7], .code (cd16 [1, 0, 1]), .code (cd16 [1, 1])]) (us := []) (d := 7) (t := (decide (a0.N < 0))) (by kernel_rfl) (fun h5 => ?_) (fun h6 => ?_)
  ·skip
   have hp7 := ite_t hp0 h5
   refine sx_run 11 (todo' := [.code (cd16 [1, 0, 1, 0, 1]), .code (cd16 [1, 1])]) (us := [(8, .bool true), (9, undef), (10, undef), (11, undef), (12, .bool true), (2, .int .i64 4)]) (by kernel_rfl) ?_
   have hS8 := hS3.drop
   refine runs_ret (fn := Tryd.f16) (v := .int .i64 4) Tryd.func16 (by kernel_rfl) ?_
   have hr9 := (Option.some.inj hp7)
   cases hr9
   exact hR _ _ ⟨rfl, hS8⟩
  ·skip
   have hp10 := ite_f hp0 h6
   refine sx_run 2 (todo' := [.inRegion (opsOf (cd16 [1, 0, 0])) [5, 6, 7], .code (cd16 [1, 0, 1]), .code (cd16 [1, 1])]) (us := [(8, .bool false), (9, .pointer (some ⟨b1, 0, none⟩))]) (by kernel_rfl) ?_
   refine r_load (c := (cd16 [1, 0, 0])) (i := 5) (d := (some 10)) (ty := 3) (t := 3) (x := (.tmp 9)) (p := ⟨b1, 0, none⟩) (v := .int .i64 a0.N) (by kernel_rfl) (by kernel_rfl) (by kernel_rfl) (loads_at 0 (hS3.blk 0 rfl) (by kernel_rfl) (by kernel_rfl)) ?_
   refine sx_split 1 (todo' := [.inRegion (opsOf (cd16 [1, 0, 0])) [7], .code (cd16 [1, 0, 1]), .code (cd16 [1, 1])]) (us := []) (d := 11) (t := (decide (a0.N > 48))) (by kernel_rfl) (fun h11 => ?_) (fun h12 => ?_)
   ·skip
    have hp13 := ite_t hp10 h11
    refine sx_run 7 (todo' := [.code (cd16 [1, 0, 1, 0, 1]), .code (cd16 [1, 1])]) (us := [(12, .bool true), (2, .int .i64 4)]) (by kernel_rfl) ?_
    have hS14 := hS3.drop
    refine runs_ret (fn := Tryd.f16) (v := .int .i64 4) Tryd.func16 (by kernel_rfl) ?_
    have hr15 := (Option.some.inj hp13)
    cases hr15
    exact hR _ _ ⟨rfl, hS14⟩
   ·skip
    have hp16 := ite_f hp10 h12
    refine sx_run 9 (todo' := [.inRegion (opsOf (cd16 [1, 1, 0, 0])) [2, 3, 4, 5], .code (cd16 [1, 1, 0, 1]), .code (cd16 [1, 1, 1])]) (us := [(12, .bool false), (13, .pointer (some ⟨b1, 1, none⟩)), (14, .pointer (some ⟨b1, 0, none⟩))]) (by kernel_rfl) ?_
    refine r_load (c := (cd16 [1, 1, 0, 0])) (i := 2) (d := (some 15)) (ty := 3) (t := 3) (x := (.tmp 14)) (p := ⟨b1, 0, none⟩) (v := .int .i64 a0.N) (by kernel_rfl) (by kernel_rfl) (by kernel_rfl) (loads_at 0 (hS3.blk 0 rfl) (by kernel_rfl) (by kernel_rfl)) ?_
    obtain ⟨Z17, hz18, hS19, hs20, -⟩ := hS3.lendblk
    obtain ⟨g21, hp22⟩ := ite_some hp16
    obtain ⟨A23, c24, hr25, hs26⟩ := cutArrZ (zsub_api_Final_V hs20) (len_encI .i64) a0.N.toNat 48 (by omega) (by omega) (by omega)
    refine r_val (c := (cd16 [1, 1, 0, 0])) (i := 3) (d := (some 16)) (ty := 54) (op := .slice 22 (.tmp 13) (some (.tmp 15)) none none) (v := .slice A23 ((a0.V.toList.take 48).drop a0.N.toNat).length c24) (by kernel_rfl) (by kernel_rfl) (fun o ho _ => x_cutArr_sn (e := 2) (k := .i64) (by kernel_rfl) (by kernel_rfl) (by kernel_rfl) (by kernel_rfl) g21 hr25 ho) ?_
    refine sx_run 5 (todo' := [.code (cd16 [1, 1, 0, 1, 0, 0]), .inLoop (cd16 [1, 1, 0, 1, 0, 0]), .inBlock 0, .code (cd16 [1, 1, 1])]) (us := [(17, .int .i64 (((a0.V.toList.take 48).drop a0.N.toNat).length : Int)), (18, .int .i64 0)]) (by kernel_rfl) ?_
    obtain ⟨v28, hv29, hp30⟩ := bind_some' hp22
    have hq33 : ∀ x, Sum.inr x = v28 → x = q0 := by intro x hx; subst hx; simpa using hp30
    have J34 : ∀ (he36 : Sum.inl () = v28) (l35 : List Value) (w31 : World) (hS32 : St w0 Z17 (fs) w31), Runs Tryd.prog 16 [.code (cd16 [1, 1, 1])] (fill [none, none, none, none, none, none, none, none, none, none, none, none, none, none, none, none, none, none, none, none, none, none, none, none, none] l35) w31 R := by
     intro he36 l35 w31 hS32
     subst he36
     try dsimp only at hp30
     refine sx_run 4 (todo' := [.code (cd16 [1, 1, 1, 1])]) (us := [(2, .int .i64 0)]) (by kernel_rfl) ?_
     have hS37 := hS32.less hz18
     refine runs_ret (fn := Tryd.f16) (v := .int .i64 0) Tryd.func16 (by kernel_rfl) ?_
     have hr38 := (Option.some.inj hp30)
     cases hr38
     exact hR _ _ ⟨rfl, hS37⟩
    have L48 : ∀ (t39 : Int) (e43 : Sum Unit Int), state_Check.l0 a0 t39 = some e43 → e43 = v28 → ∀ (l42 : List Value) (w40 : World) (hS41 : St w0 Z17 (fs) w40), Runs Tryd.prog 16 [.code (cd16 [1, 1, 0, 1, 0, 0]), .inLoop (cd16 [1, 1, 0, 1, 0, 0]), .inBlock 0, .code (cd16 [1, 1, 1])] (fill [none, none, none, none, none, none, none, none, none, none, none, none, none, none, none, none, some (.slice A23 ((a0.V.toList.take 48).drop a0.N.toNat).length c24), some (.int .i64 (((a0.V.toList.take 48).drop a0.N.toNat).length : Int)), some (.int .i64 t39), none, none, none, none, none, none] l42) w40 R := by
     refine state_Check.l0.partial_correctness a0 (fun t39 e43 => e43 = v28 → ∀ (l42 : List Value) (w40 : World) (hS41 : St w0 Z17 (fs) w40), Runs Tryd.prog 16 [.code (cd16 [1, 1, 0, 1, 0, 0]), .inLoop (cd16 [1, 1, 0, 1, 0, 0]), .inBlock 0, .code (cd16 [1, 1, 1])] (fill [none, none, none, none, none, none, none, none, none, none, none, none, none, none, none, none, some (.slice A23 ((a0.V.toList.take 48).drop a0.N.toNat).length c24), some (.int .i64 (((a0.V.toList.take 48).drop a0.N.toNat).length : Int)), some (.int .i64 t39), none, none, none, none, none, none] l42) w40 R) ?_
     intro rec47 ih46 t39 e43 hb45 he44 l42 w40 hS41
     have hq49 : ∀ x, Sum.inr x = e43 → x = q0 := fun x hx => hq33 x (hx.trans he44)
     refine sx_split 3 (todo' := [.inRegion (opsOf (cd16 [1, 1, 0, 1, 0, 0, 0])) [], .code (cd16 [1, 1, 0, 1, 0, 0, 1]), .inLoop (cd16 [1, 1, 0, 1, 0, 0]), .inBlock 0, .code (cd16 [1, 1, 1])]) (us := []) (d := 19) (t := (decide (t39 < (((a0.V.toList.take 48).drop a0.N.toNat).length : Int)))) (by kernel_rfl) (fun h50 => ?_) (fun h51 => ?_)
     ·skip
      have hp52 := ite_t hb45 h50
      refine sx_run 8 (todo' := [.inRegion (opsOf (cd16 [1, 1, 0, 1, 0, 0, 1, 1, 0, 0, 0])) [0, 1, 2], .code (cd16 [1, 1, 0, 1, 0, 0, 1, 1, 0, 0, 1]), .inBlock 1, .code (cd16 [1, 1, 0, 1, 0, 0, 1, 1, 1]), .inLoop (cd16 [1, 1, 0, 1, 0, 0]), .inBlock 0, .code (cd16 [1, 1, 1])]) (us := []) (by kernel_rfl) ?_
      obtain ⟨g53, hp54⟩ := ite_some hp52
      obtain ⟨b55, p56, hA57, hc58⟩ := hs26.atF g53.1 g53.2
      refine r_indexAddr (c := (cd16 [1, 1, 0, 1, 0, 0, 1, 1, 0, 0, 0])) (i := 0) (d := (some 20)) (ty := 0) (t := 54) (e := 2) (n := ((a0.V.toList.take 48).drop a0.N.toNat).length) (cp := c24) (sz := 1) (kk := .i64) (x := (.tmp 16)) (y := (.tmp 18)) (b := b55) (o' := p56) (j := t39) (by kernel_rfl) (by kernel_rfl) (slv (by kernel_rfl) hA57) (by kernel_rfl) (by kernel_rfl) (by kernel_rfl) g53.1 g53.2 ?_
      refine r_load (c := (cd16 [1, 1, 0, 1, 0, 0, 1, 1, 0, 0, 0])) (i := 1) (d := (some 21)) (ty := 2) (t := 2) (x := (.tmp 20)) (p := ⟨b55, p56 + t39.toNat * 1, none⟩) (v := .int .i64 (gt ((a0.V.toList.take 48).drop a0.N.toNat) t39)) (by kernel_rfl) (by kernel_rfl) (by kernel_rfl) (loads_at 0 (hc58.cells hS41) (by kernel_rfl) (by kernel_rfl)) ?_
      refine sx_split 6 (todo' := [.inRegion (opsOf (cd16 [1, 1, 0, 1, 0, 0, 1, 1, 0, 0, 1, 0])) [], .code (cd16 [1, 1, 0, 1, 0, 0, 1, 1, 0, 0, 1, 1]), .inBlock 1, .code (cd16 [1, 1, 0, 1, 0, 0, 1, 1, 1]), .inLoop (cd16 [1, 1, 0, 1, 0, 0]), .inBlock 0, .code (cd16 [1, 1, 1])]) (us := [(4, .int .i64 (gt ((a0.V.toList.take 48).drop a0.N.toNat) t39)), (22, .int .i64 (gt ((a0.V.toList.take 48).drop a0.N.toNat) t39))]) (d := 23) (t := ((gt ((a0.V.toList.take 48).drop a0.N.toNat) t39) != 0)) (by kernel_rfl) (fun h59 => ?_) (fun h60 => ?_)
      ·skip
       have hp61 := ite_t hp54 h59
       refine sx_run 6 (todo' := [.code (cd16 [1, 1, 0, 1, 0, 0, 1, 1, 0, 0, 1, 1, 0, 1]), .inBlock 1, .code (cd16 [1, 1, 0, 1, 0, 0, 1, 1, 1]), .inLoop (cd16 [1, 1, 0, 1, 0, 0]), .inBlock 0, .code (cd16 [1, 1, 1])]) (us := [(2, .int .i64 4)]) (by kernel_rfl) ?_
       have hS62 := hS41.less hz18
       refine runs_ret (fn := Tryd.f16) (v := .int .i64 4) Tryd.func16 (by kernel_rfl) ?_
       have hr63 := (hq49 _ (Option.some.inj hp61))
       cases hr63
       exact hR _ _ ⟨rfl, hS62⟩
      ·skip
       have hp64 := ite_f hp54 h60
       refine sx_run 8 (todo' := [.inLoop (cd16 [1, 1, 0, 1, 0, 0]), .inBlock 0, .code (cd16 [1, 1, 1])]) (us := [(24, .int .i64 (IntKind.i64.wrap (t39 + 1))), (18, .int .i64 (IntKind.i64.wrap (t39 + 1)))]) (by kernel_rfl) ?_
       refine sx_run 1 (todo' := [.code (cd16 [1, 1, 0, 1, 0, 0]), .inLoop (cd16 [1, 1, 0, 1, 0, 0]), .inBlock 0, .code (cd16 [1, 1, 1])]) (us := []) (by kernel_rfl) ?_
       refine Runs.fill (m := [none, none, none, none, none, none, none, none, none, none, none, none, none, none, none, none, some (.slice A23 ((a0.V.toList.take 48).drop a0.N.toNat).length c24), some (.int .i64 (((a0.V.toList.take 48).drop a0.N.toNat).length : Int)), some (.int .i64 (IntKind.i64.wrap (t39 + 1))), none, none, none, none, none, none]) (by kernel_rfl) ?_
       exact ih46 (IntKind.i64.wrap (t39 + 1)) _ hp64 he44 _ _ hS41
     ·skip
      have hp65 := ite_f hb45 h51
      refine sx_run 4 (todo' := [.code (cd16 [1, 1, 1])]) (us := []) (by kernel_rfl) ?_
      refine Runs.fill (m := [none, none, none, none, none, none, none, none, none, none, none, none, none, none, none, none, none, none, none, none, none, none, none, none, none]) (by kernel_rfl) ?_
      exact J34 ((Option.some.inj hp65).trans he44) _ _ hS41
    refine Runs.fill (m := [none, none, none, none, none, none, none, none, none, none, none, none, none, none, none, none, some (.slice A23 ((a0.V.toList.take 48).drop a0.N.toNat).length c24), some (.int .i64 (((a0.V.toList.take 48).drop a0.N.toNat).length : Int)), some (.int .i64 0), none, none, none, none, none, none]) (by kernel_rfl) ?_
    exact L48 0 _ hv29 rfl _ _ hS19

noncomputable def cd47 (p : List Nat) : Code := sub (bodyOf Tryd.f47) p
def cmp_isNaN_int64.f (a0 : Int) : Option Bool :=
  (if (a0 != a0) = true then some (true) else some (false))
set_option maxHeartbeats 16000000 in
theorem cmp_isNaN_int64.ok (a0 : Int) {w0 : World} {Z : Zm} {fs : List XObj} {w : World} (hS0 : St w0 Z (fs) w) {q0 : Bool} (hp0 : cmp_isNaN_int64.f a0 = some q0) :
    Calls Tryd.prog 47 #[.int .i64 a0] w (fun e w' => e = .returned (.bool q0) ∧ St w0 Z (fs) w') := by
  refine calls_abs ?_; intro R hR
  unfold cmp_isNaN_int64.f at hp0
  refine calls_of_runs (fn := Tryd.f47) (c := cd47 []) Tryd.func47 (by kernel_rfl) (al := [.int .i64 a0]) rfl (n := 5) rfl ?_
  refine sx_split 9 (todo' := [.inRegion (opsOf (cd47 [1, 0])) [3], .code (cd47 [1, 1])]) (us := [(2, .bool false), (3, .int .i64 a0), (4, .int .i64 a0)]) (d := 5) (t := (a0 != a0)) (by kernel_rfl) (fun h1 => ?_) (fun h2 => ?_)
  ·skip
   have hp3 := ite_t hp0 h1
   refine sx_run 2 (todo' := [.code (cd47 [1, 1])]) (us := [(2, .bool true)]) (by kernel_rfl) ?_
   refine runs_ret (fn := Tryd.f47) (v := .bool true) Tryd.func47 (by kernel_rfl) ?_
   have hr4 := (Option.some.inj hp3)
   cases hr4
   exact hR _ _ ⟨rfl, hS0⟩
  ·skip
   have hp5 := ite_f hp0 h2
   refine sx_run 2 (todo' := [.code (cd47 [1, 1])]) (us := [(2, .bool false)]) (by kernel_rfl) ?_
   refine runs_ret (fn := Tryd.f47) (v := .bool false) Tryd.func47 (by kernel_rfl) ?_
   have hr6 := (Option.some.inj hp5)
   cases hr6
   exact hR _ _ ⟨rfl, hS0⟩

noncomputable def cd40 (p : List Nat) : Code := sub (bodyOf Tryd.f40) p
def cmp_Compare_int64.f (a0 : Int) (a1 : Int) : Option Int :=
  (cmp_isNaN_int64.f a0 >>= (fun t1 => (cmp_isNaN_int64.f a1 >>= (fun t6 => (if t1 = true then (if t6 = true then some (0) else some ((-1))) else (if t6 = true then some (1) else (if (decide (a0 < a1)) = true then some ((-1)) else (if (decide (a0 > a1)) = true then some (1) else some (0)))))))))
set_option maxHeartbeats 16000000 in
theorem cmp_Compare_int64.ok (a0 : Int) (a1 : Int) {w0 : World} {Z : Zm} {fs : List XObj} {w : World} (hS0 : St w0 Z (fs) w) {q0 : Int} (hp0 : cmp_Compare_int64.f a0 a1 = some q0) :
    Calls Tryd.prog 40 #[.int .i64 a0, .int .i64 a1] w (fun e w' => e = .returned (.int .i64 q0) ∧ St w0 Z (fs) w') := by
  refine calls_abs ?_; intro R hR
  unfold cmp_Compare_int64.f at hp0
  refine calls_of_runs (fn := Tryd.f40) (c := cd40 []) Tryd.func40 (by kernel_rfl) (al := [.int .i64 a0, .int .i64 a1]) rfl (n := 18) rfl ?_
  refine sx_run 7 (todo' := [.inRegion (opsOf (cd40 [1, 0])) [1, 2], .code (cd40 [1, 1])]) (us := [(4, .int .i64 0), (7, .int .i64 a0)]) (by kernel_rfl) ?_
  obtain ⟨t1, hr2, hp3⟩ := bind_some' hp0
  refine r_call1 (c := (cd40 [1, 0])) (i := 1) (d := (some 8)) (g := 47) (args := #[.int .i64 a0]) (by kernel_rfl) (by kernel_rfl) (by kernel_rfl) (by kernel_rfl) (cmp_isNaN_int64.ok a0 hS0 hr2) ?_
  rintro _ w4 ⟨rfl, hS5⟩
  refine ⟨.bool t1, rfl, ?_⟩
  refine sx_run 5 (todo' := [.inRegion (opsOf (cd40 [1, 1, 0])) [1, 2], .code (cd40 [1, 1, 1])]) (us := [(5, .bool t1), (9, .int .i64 a1)]) (by kernel_rfl) ?_
  obtain ⟨t6, hr7, hp8⟩ := bind_some' hp3
  refine r_call1 (c := (cd40 [1, 1, 0])) (i := 1) (d := (some 10)) (g := 47) (args := #[.int .i64 a1]) (by kernel_rfl) (by kernel_rfl) (by kernel_rfl) (by kernel_rfl) (cmp_isNaN_int64.ok a1 hS5 hr7) ?_
  rintro _ w9 ⟨rfl, hS10⟩
  refine ⟨.bool t6, rfl, ?_⟩
  refine sx_run 7 (todo' := [.code (cd40 [1, 1, 1, 0, 1]), .code (cd40 [1, 1, 1, 1])]) (us := [(6, .bool t6), (11, .bool t1)]) (by kernel_rfl) ?_
  cases t1
  ·skip
   have hp11 := ite_f hp8 rfl
   refine sx_run 7 (todo' := [.code (cd40 [1, 1, 1, 1, 0, 1]), .code (cd40 [1, 1, 1, 1, 1])]) (us := [(13, .bool t6)]) (by kernel_rfl) ?_
   cases t6
   ·skip
    have hp12 := ite_f hp11 rfl
    refine sx_split 8 (todo' := [.inRegion (opsOf (cd40 [1, 1, 1, 1, 1, 0, 0])) [], .code (cd40 [1, 1, 1, 1, 1, 0, 1]), .code (cd40 [1, 1, 1, 1, 1, 1])]) (us := [(14, .int .i64 a0), (15, .int .i64 a1)]) (d := 16) (t := (decide (a0 < a1))) (by kernel_rfl) (fun h13 => ?_) (fun h14 => ?_)
    ·skip
     have hp15 := ite_t hp12 h13
     refine sx_run 6 (todo' := [.code (cd40 [1, 1, 1, 1, 1, 0, 1, 0, 1]), .code (cd40 [1, 1, 1, 1, 1, 1])]) (us := [(4, .int .i64 (-1))]) (by kernel_rfl) ?_
     refine runs_ret (fn := Tryd.f40) (v := .int .i64 (-1)) Tryd.func40 (by kernel_rfl) ?_
     have hr16 := (Option.some.inj hp15)
     cases hr16
     exact hR _ _ ⟨rfl, hS10⟩
    ·skip
     have hp17 := ite_f hp12 h14
     refine sx_split 9 (todo' := [.inRegion (opsOf (cd40 [1, 1, 1, 1, 1, 1, 0, 0])) [], .code (cd40 [1, 1, 1, 1, 1, 1, 0, 1]), .code (cd40 [1, 1, 1, 1, 1, 1, 1])]) (us := [(17, .int .i64 a0), (18, .int .i64 a1)]) (d := 19) (t := (decide (a0 > a1))) (by kernel_rfl) (fun h18 => ?_) (fun h19 => ?_)
     ·skip
      have hp20 := ite_t hp17 h18
      refine sx_run 6 (todo' := [.code (cd40 [1, 1, 1, 1, 1, 1, 0, 1, 0, 1]), .code (cd40 [1, 1, 1, 1, 1, 1, 1])]) (us := [(4, .int .i64 1)]) (by kernel_rfl) ?_
      refine runs_ret (fn := Tryd.f40) (v := .int .i64 1) Tryd.func40 (by kernel_rfl) ?_
      have hr21 := (Option.some.inj hp20)
      cases hr21
      exact hR _ _ ⟨rfl, hS10⟩
     ·skip
      have hp22 := ite_f hp17 h19
      refine sx_run 7 (todo' := [.code (cd40 [1, 1, 1, 1, 1, 1, 1, 1])]) (us := [(4, .int .i64 0)]) (by kernel_rfl) ?_
      refine runs_ret (fn := Tryd.f40) (v := .int .i64 0) Tryd.func40 (by kernel_rfl) ?_
      have hr23 := (Option.some.inj hp22)
      cases hr23
      exact hR _ _ ⟨rfl, hS10⟩
   ·skip
    have hp24 := ite_t hp11 rfl
    refine sx_run 5 (todo' := [.code (cd40 [1, 1, 1, 1, 0, 1, 0, 1]), .code (cd40 [1, 1, 1, 1, 1])]) (us := [(4, .int .i64 1)]) (by kernel_rfl) ?_
    refine runs_ret (fn := Tryd.f40) (v := .int .i64 1) Tryd.func40 (by kernel_rfl) ?_
    have hr25 := (Option.some.inj hp24)
    cases hr25
    exact hR _ _ ⟨rfl, hS10⟩
  ·skip
   have hp26 := ite_t hp8 rfl
   refine sx_run 6 (todo' := [.code (cd40 [1, 1, 1, 0, 1, 0, 0, 1]), .code (cd40 [1, 1, 1, 0, 1, 0, 1]), .code (cd40 [1, 1, 1, 1])]) (us := [(12, .bool t6)]) (by kernel_rfl) ?_
   cases t6
   ·skip
    have hp27 := ite_f hp26 rfl
    refine sx_run 6 (todo' := [.code (cd40 [1, 1, 1, 0, 1, 0, 1, 1]), .code (cd40 [1, 1, 1, 1])]) (us := [(4, .int .i64 (-1))]) (by kernel_rfl) ?_
    refine runs_ret (fn := Tryd.f40) (v := .int .i64 (-1)) Tryd.func40 (by kernel_rfl) ?_
    have hr28 := (Option.some.inj hp27)
    cases hr28
    exact hR _ _ ⟨rfl, hS10⟩
   ·skip
    have hp29 := ite_t hp26 rfl
    refine sx_run 5 (todo' := [.code (cd40 [1, 1, 1, 0, 1, 0, 0, 1, 0, 1]), .code (cd40 [1, 1, 1, 0, 1, 0, 1]), .code (cd40 [1, 1, 1, 1])]) (us := [(4, .int .i64 0)]) (by kernel_rfl) ?_
    refine runs_ret (fn := Tryd.f40) (v := .int .i64 0) Tryd.func40 (by kernel_rfl) ?_
    have hr30 := (Option.some.inj hp29)
    cases hr30
    exact hR _ _ ⟨rfl, hS10⟩

noncomputable def cd24 (p : List Nat) : Code := sub (bodyOf Tryd.f24) p
def slices_Compare___int64_int64.l0 (a0 : List Int) (a1 : List Int) (t16 : Int) : Option (Sum Unit Int) :=
  (if (decide (t16 < (a0.length : Int))) = true then (if 0 ≤ t16 ∧ t16 < (a0.length : Int) then (if (decide (t16 ≥ (a1.length : Int))) = true then some (.inr (1)) else (if 0 ≤ t16 ∧ t16 < (a1.length : Int) then (cmp_Compare_int64.f (gt a0 t16) (gt a1 t16) >>= (fun t47 => (if (t47 != 0) = true then some (.inr (t47)) else (slices_Compare___int64_int64.l0 a0 a1 (IntKind.i64.wrap (t16 + 1)))))) else none)) else none) else some (.inl ()))
 partial_fixpoint
def slices_Compare___int64_int64.f (a0 : List Int) (a1 : List Int) : Option Int :=
  (slices_Compare___int64_int64.l0 a0 a1 0 >>= (fun | .inl () => (if (decide ((a0.length : Int) < (a1.length : Int))) = true then some ((-1)) else some (0)) | .inr e => some e))
set_option maxHeartbeats 16000000 in
theorem slices_Compare___int64_int64.ok (a0 : List Int) (a1 : List Int) (Aa0 : Option Addr) (ca0 : Nat) (Aa1 : Option Addr) (ca1 : Nat) {w0 : World} {Z : Zm} {fs : List XObj} {w : World} (hS0 : St w0 Z (fs) w) (ha0 : SlZ (flat (encI .i64)) 1 Z Aa0 ca0 a0) (ha1 : SlZ (flat (encI .i64)) 1 Z Aa1 ca1 a1) {q0 : Int} (hp0 : slices_Compare___int64_int64.f a0 a1 = some q0) :
    Calls Tryd.prog 24 #[.slice Aa0 a0.length ca0, .slice Aa1 a1.length ca1] w (fun e w' => e = .returned (.int .i64 q0) ∧ St w0 Z (fs) w') := by
  refine calls_abs ?_; intro R hR
  unfold slices_Compare___int64_int64.f at hp0
  refine calls_of_runs (fn := Tryd.f24) (c := cd24 []) Tryd.func24 (by kernel_rfl) (al := [.slice Aa0 a0.length ca0, .slice Aa1 a1.length ca1]) rfl (n := 34) rfl ?_
  refine sx_run 13 (todo' := [.code (cd24 [1, 0, 1, 0, 0]), .inLoop (cd24 [1, 0, 1, 0, 0]), .inBlock 0, .code (cd24 [1, 1])]) (us := [(4, .int .i64 0), (9, .slice Aa0 a0.length ca0), (10, .int .i64 (a0.length : Int)), (11, .int .i64 0)]) (by kernel_rfl) ?_
  obtain ⟨v1, hv2, hp3⟩ := bind_some' hp0
  have hq6 : ∀ x, Sum.inr x = v1 → x = q0 := by intro x hx; subst hx; simpa using hp3
  have J7 : ∀ (he9 : Sum.inl () = v1) (l8 : List Value) (w4 : World) (hS5 : St w0 Z (fs) w4), Runs Tryd.prog 24 [.code (cd24 [1, 1])] (fill [some (.slice Aa0 a0.length ca0), some (.slice Aa1 a1.length ca1), none, none, none, none, none, none, none, none, none, none, none, none, none, none, none, none, none, none, none, none, none, none, none, none, none, none, none, none, none, none, none, none, none, none] l8) w4 R := by
   intro he9 l8 w4 hS5
   subst he9
   try dsimp only at hp3
   refine sx_split 8 (todo' := [.inRegion (opsOf (cd24 [1, 1, 0, 0])) [], .code (cd24 [1, 1, 0, 1]), .code (cd24 [1, 1, 1])]) (us := [(31, .slice Aa0 a0.length ca0), (32, .int .i64 (a0.length : Int)), (33, .slice Aa1 a1.length ca1), (34, .int .i64 (a1.length : Int))]) (d := 35) (t := (decide ((a0.length : Int) < (a1.length : Int)))) (by kernel_rfl) (fun h10 => ?_) (fun h11 => ?_)
   ·skip
    have hp12 := ite_t hp3 h10
    refine sx_run 6 (todo' := [.code (cd24 [1, 1, 0, 1, 0, 1]), .code (cd24 [1, 1, 1])]) (us := [(4, .int .i64 (-1))]) (by kernel_rfl) ?_
    refine runs_ret (fn := Tryd.f24) (v := .int .i64 (-1)) Tryd.func24 (by kernel_rfl) ?_
    have hr13 := (Option.some.inj hp12)
    cases hr13
    exact hR _ _ ⟨rfl, hS5⟩
   ·skip
    have hp14 := ite_f hp3 h11
    refine sx_run 7 (todo' := [.code (cd24 [1, 1, 1, 1])]) (us := [(4, .int .i64 0)]) (by kernel_rfl) ?_
    refine runs_ret (fn := Tryd.f24) (v := .int .i64 0) Tryd.func24 (by kernel_rfl) ?_
    have hr15 := (Option.some.inj hp14)
    cases hr15
    exact hR _ _ ⟨rfl, hS5⟩
  have L25 : ∀ (t16 : Int) (e20 : Sum Unit Int), slices_Compare___int64_int64.l0 a0 a1 t16 = some e20 → e20 = v1 → ∀ (l19 : List Value) (w17 : World) (hS18 : St w0 Z (fs) w17), Runs Tryd.prog 24 [.code (cd24 [1, 0, 1, 0, 0]), .inLoop (cd24 [1, 0, 1, 0, 0]), .inBlock 0, .code (cd24 [1, 1])] (fill [some (.slice Aa0 a0.length ca0), some (.slice Aa1 a1.length ca1), none, none, none, none, none, none, none, some (.slice Aa0 a0.length ca0), some (.int .i64 (a0.length : Int)), some (.int .i64 t16), none, none, none, none, none, none, none, none, none, none, none, none, none, none, none, none, none, none, none, none, none, none, none, none] l19) w17 R := by
   refine slices_Compare___int64_int64.l0.partial_correctness a0 a1 (fun t16 e20 => e20 = v1 → ∀ (l19 : List Value) (w17 : World) (hS18 : St w0 Z (fs) w17), Runs Tryd.prog 24 [.code (cd24 [1, 0, 1, 0, 0]), .inLoop (cd24 [1, 0, 1, 0, 0]), .inBlock 0, .code (cd24 [1, 1])] (fill [some (.slice Aa0 a0.length ca0), some (.slice Aa1 a1.length ca1), none, none, none, none, none, none, none, some (.slice Aa0 a0.length ca0), some (.int .i64 (a0.length : Int)), some (.int .i64 t16), none, none, none, none, none, none, none, none, none, none, none, none, none, none, none, none, none, none, none, none, none, none, none, none] l19) w17 R) ?_
   intro rec24 ih23 t16 e20 hb22 he21 l19 w17 hS18
   have hq26 : ∀ x, Sum.inr x = e20 → x = q0 := fun x hx => hq6 x (hx.trans he21)
   refine sx_split 3 (todo' := [.inRegion (opsOf (cd24 [1, 0, 1, 0, 0, 0])) [], .code (cd24 [1, 0, 1, 0, 0, 1]), .inLoop (cd24 [1, 0, 1, 0, 0]), .inBlock 0, .code (cd24 [1, 1])]) (us := []) (d := 12) (t := (decide (t16 < (a0.length : Int)))) (by kernel_rfl) (fun h27 => ?_) (fun h28 => ?_)
   ·skip
    have hp29 := ite_t hb22 h27
    refine sx_run 9 (todo' := [.inRegion (opsOf (cd24 [1, 0, 1, 0, 0, 1, 1, 0, 0, 0])) [1, 2, 3, 4], .code (cd24 [1, 0, 1, 0, 0, 1, 1, 0, 0, 1]), .inBlock 1, .code (cd24 [1, 0, 1, 0, 0, 1, 1, 1]), .inLoop (cd24 [1, 0, 1, 0, 0]), .inBlock 0, .code (cd24 [1, 1])]) (us := [(13, .int .i64 t16)]) (by kernel_rfl) ?_
    obtain ⟨g30, hp31⟩ := ite_some hp29
    obtain ⟨b32, p33, hA34, hc35⟩ := ha0.atF g30.1 g30.2
    refine r_indexAddr (c := (cd24 [1, 0, 1, 0, 0, 1, 1, 0, 0, 0])) (i := 1) (d := (some 14)) (ty := 0) (t := 54) (e := 2) (n := a0.length) (cp := ca0) (sz := 1) (kk := .i64) (x := (.tmp 9)) (y := (.tmp 11)) (b := b32) (o' := p33) (j := t16) (by kernel_rfl) (by kernel_rfl) (slv (by kernel_rfl) hA34) (by kernel_rfl) (by kernel_rfl) (by kernel_rfl) g30.1 g30.2 ?_
    refine r_load (c := (cd24 [1, 0, 1, 0, 0, 1, 1, 0, 0, 0])) (i := 2) (d := (some 15)) (ty := 2) (t := 2) (x := (.tmp 14)) (p := ⟨b32, p33 + t16.toNat * 1, none⟩) (v := .int .i64 (gt a0 t16)) (by kernel_rfl) (by kernel_rfl) (by kernel_rfl) (loads_at 0 (hc35.cells hS18) (by kernel_rfl) (by kernel_rfl)) ?_
    refine sx_split 10 (todo' := [.inRegion (opsOf (cd24 [1, 0, 1, 0, 0, 1, 1, 0, 0, 1, 0, 0])) [], .code (cd24 [1, 0, 1, 0, 0, 1, 1, 0, 0, 1, 0, 1]), .code (cd24 [1, 0, 1, 0, 0, 1, 1, 0, 0, 1, 1]), .inBlock 1, .code (cd24 [1, 0, 1, 0, 0, 1, 1, 1]), .inLoop (cd24 [1, 0, 1, 0, 0]), .inBlock 0, .code (cd24 [1, 1])]) (us := [(5, .int .i64 t16), (6, .int .i64 (gt a0 t16)), (16, .int .i64 t16), (17, .slice Aa1 a1.length ca1), (18, .int .i64 (a1.length : Int))]) (d := 19) (t := (decide (t16 ≥ (a1.length : Int)))) (by kernel_rfl) (fun h36 => ?_) (fun h37 => ?_)
    ·skip
     have hp38 := ite_t hp31 h36
     refine sx_run 6 (todo' := [.code (cd24 [1, 0, 1, 0, 0, 1, 1, 0, 0, 1, 0, 1, 0, 1]), .code (cd24 [1, 0, 1, 0, 0, 1, 1, 0, 0, 1, 1]), .inBlock 1, .code (cd24 [1, 0, 1, 0, 0, 1, 1, 1]), .inLoop (cd24 [1, 0, 1, 0, 0]), .inBlock 0, .code (cd24 [1, 1])]) (us := [(4, .int .i64 1)]) (by kernel_rfl) ?_
     refine runs_ret (fn := Tryd.f24) (v := .int .i64 1) Tryd.func24 (by kernel_rfl) ?_
     have hr39 := (hq26 _ (Option.some.inj hp38))
     cases hr39
     exact hR _ _ ⟨rfl, hS18⟩
    ·skip
     have hp40 := ite_f hp31 h37
     refine sx_run 7 (todo' := [.inRegion (opsOf (cd24 [1, 0, 1, 0, 0, 1, 1, 0, 0, 1, 1, 0])) [2, 3, 4], .code (cd24 [1, 0, 1, 0, 0, 1, 1, 0, 0, 1, 1, 1]), .inBlock 1, .code (cd24 [1, 0, 1, 0, 0, 1, 1, 1]), .inLoop (cd24 [1, 0, 1, 0, 0]), .inBlock 0, .code (cd24 [1, 1])]) (us := [(20, .slice Aa1 a1.length ca1), (21, .int .i64 t16)]) (by kernel_rfl) ?_
     obtain ⟨g41, hp42⟩ := ite_some hp40
     obtain ⟨b43, p44, hA45, hc46⟩ := ha1.atF g41.1 g41.2
     refine r_indexAddr (c := (cd24 [1, 0, 1, 0, 0, 1, 1, 0, 0, 1, 1, 0])) (i := 2) (d := (some 22)) (ty := 0) (t := 54) (e := 2) (n := a1.length) (cp := ca1) (sz := 1) (kk := .i64) (x := (.tmp 20)) (y := (.tmp 21)) (b := b43) (o' := p44) (j := t16) (by kernel_rfl) (by kernel_rfl) (slv (by kernel_rfl) hA45) (by kernel_rfl) (by kernel_rfl) (by kernel_rfl) g41.1 g41.2 ?_
     refine r_load (c := (cd24 [1, 0, 1, 0, 0, 1, 1, 0, 0, 1, 1, 0])) (i := 3) (d := (some 23)) (ty := 2) (t := 2) (x := (.tmp 22)) (p := ⟨b43, p44 + t16.toNat * 1, none⟩) (v := .int .i64 (gt a1 t16)) (by kernel_rfl) (by kernel_rfl) (by kernel_rfl) (loads_at 0 (hc46.cells hS18) (by kernel_rfl) (by kernel_rfl)) ?_
     refine sx_run 6 (todo' := [.inRegion (opsOf (cd24 [1, 0, 1, 0, 0, 1, 1, 0, 0, 1, 1, 1, 0])) [2, 3], .code (cd24 [1, 0, 1, 0, 0, 1, 1, 0, 0, 1, 1, 1, 1]), .inBlock 1, .code (cd24 [1, 0, 1, 0, 0, 1, 1, 1]), .inLoop (cd24 [1, 0, 1, 0, 0]), .inBlock 0, .code (cd24 [1, 1])]) (us := [(7, .int .i64 (gt a1 t16)), (24, .int .i64 (gt a0 t16)), (25, .int .i64 (gt a1 t16))]) (by kernel_rfl) ?_
     obtain ⟨t47, hr48, hp49⟩ := bind_some' hp42
     refine r_call1 (c := (cd24 [1, 0, 1, 0, 0, 1, 1, 0, 0, 1, 1, 1, 0])) (i := 2) (d := (some 26)) (g := 40) (args := #[.int .i64 (gt a0 t16), .int .i64 (gt a1 t16)]) (by kernel_rfl) (by kernel_rfl) (by kernel_rfl) (by kernel_rfl) (cmp_Compare_int64.ok (gt a0 t16) (gt a1 t16) hS18 hr48) ?_
     rintro _ w50 ⟨rfl, hS51⟩
     refine ⟨.int .i64 t47, rfl, ?_⟩
     refine sx_split 6 (todo' := [.inRegion (opsOf (cd24 [1, 0, 1, 0, 0, 1, 1, 0, 0, 1, 1, 1, 1, 0])) [], .code (cd24 [1, 0, 1, 0, 0, 1, 1, 0, 0, 1, 1, 1, 1, 1]), .inBlock 1, .code (cd24 [1, 0, 1, 0, 0, 1, 1, 1]), .inLoop (cd24 [1, 0, 1, 0, 0]), .inBlock 0, .code (cd24 [1, 1])]) (us := [(8, .int .i64 t47), (27, .int .i64 t47)]) (d := 28) (t := (t47 != 0)) (by kernel_rfl) (fun h52 => ?_) (fun h53 => ?_)
     ·skip
      have hp54 := ite_t hp49 h52
      refine sx_run 7 (todo' := [.code (cd24 [1, 0, 1, 0, 0, 1, 1, 0, 0, 1, 1, 1, 1, 1, 0, 1]), .inBlock 1, .code (cd24 [1, 0, 1, 0, 0, 1, 1, 1]), .inLoop (cd24 [1, 0, 1, 0, 0]), .inBlock 0, .code (cd24 [1, 1])]) (us := [(29, .int .i64 t47), (4, .int .i64 t47)]) (by kernel_rfl) ?_
      refine runs_ret (fn := Tryd.f24) (v := .int .i64 t47) Tryd.func24 (by kernel_rfl) ?_
      have hr55 := (hq26 _ (Option.some.inj hp54))
      cases hr55
      exact hR _ _ ⟨rfl, hS51⟩
     ·skip
      have hp56 := ite_f hp49 h53
      refine sx_run 8 (todo' := [.inLoop (cd24 [1, 0, 1, 0, 0]), .inBlock 0, .code (cd24 [1, 1])]) (us := [(30, .int .i64 (IntKind.i64.wrap (t16 + 1))), (11, .int .i64 (IntKind.i64.wrap (t16 + 1)))]) (by kernel_rfl) ?_
      refine sx_run 1 (todo' := [.code (cd24 [1, 0, 1, 0, 0]), .inLoop (cd24 [1, 0, 1, 0, 0]), .inBlock 0, .code (cd24 [1, 1])]) (us := []) (by kernel_rfl) ?_
      refine Runs.fill (m := [some (.slice Aa0 a0.length ca0), some (.slice Aa1 a1.length ca1), none, none, none, none, none, none, none, some (.slice Aa0 a0.length ca0), some (.int .i64 (a0.length : Int)), some (.int .i64 (IntKind.i64.wrap (t16 + 1))), none, none, none, none, none, none, none, none, none, none, none, none, none, none, none, none, none, none, none, none, none, none, none, none]) (by kernel_rfl) ?_
      exact ih23 (IntKind.i64.wrap (t16 + 1)) _ hp56 he21 _ _ hS51
   ·skip
    have hp57 := ite_f hb22 h28
    refine sx_run 4 (todo' := [.code (cd24 [1, 1])]) (us := []) (by kernel_rfl) ?_
    refine Runs.fill (m := [some (.slice Aa0 a0.length ca0), some (.slice Aa1 a1.length ca1), none, none, none, none, none, none, none, none, none, none, none, none, none, none, none, none, none, none, none, none, none, none, none, none, none, none, none, none, none, none, none, none, none, none]) (by kernel_rfl) ?_
    exact J7 ((Option.some.inj hp57).trans he21) _ _ hS18
  refine Runs.fill (m := [some (.slice Aa0 a0.length ca0), some (.slice Aa1 a1.length ca1), none, none, none, none, none, none, none, some (.slice Aa0 a0.length ca0), some (.int .i64 (a0.length : Int)), some (.int .i64 0), none, none, none, none, none, none, none, none, none, none, none, none, none, none, none, none, none, none, none, none, none, none, none, none]) (by kernel_rfl) ?_
  exact L25 0 _ hv2 rfl _ _ hS0

noncomputable def cd8 (p : List Nat) : Code := sub (bodyOf Tryd.f8) p
def state_Compare.f (a0 : api_Final) (a1 : api_Final) : Option Int :=
  (if (decide (a0.N < a1.N)) = true then some ((-1)) else (if (decide (a0.N > a1.N)) = true then some (1) else (slices_Compare___int64_int64.f ((a0.V.toList.take 48).drop 0) ((a1.V.toList.take 48).drop 0) >>= (fun t42 => some (t42)))))
set_option maxHeartbeats 16000000 in
theorem state_Compare.ok (a0 : api_Final) (a1 : api_Final) {w0 : World} {Z : Zm} {fs : List XObj} {w : World} (hS0 : St w0 Z (fs) w) {q0 : Int} (hp0 : state_Compare.f a0 a1 = some q0) :
    Calls Tryd.prog 8 #[.agg (enc_api_Final a0).toArray, .agg (enc_api_Final a1).toArray] w (fun e w' => e = .returned (.int .i64 q0) ∧ St w0 Z (fs) w') := by
  refine calls_abs ?_; intro R hR
  unfold state_Compare.f at hp0
  refine calls_of_runs (fn := Tryd.f8) (c := cd8 []) Tryd.func8 (by kernel_rfl) (al := [.agg (enc_api_Final a0).toArray, .agg (enc_api_Final a1).toArray]) rfl (n := 20) rfl ?_
  refine sx_run 2 (todo' := [.inRegion (opsOf (cd8 [0])) [0, 1, 2], .code (cd8 [1])]) (us := []) (by kernel_rfl) ?_
  refine r_box (c := (cd8 [0])) (i := 0) (d := (some 2)) (ty := 0) (x := (.tmp 0)) (v := .agg (enc_api_Final a0).toArray) (t := 24) (cs := enc_api_Final a0) hS0 (by kernel_rfl) (by kernel_rfl) (by kernel_rfl) (by kernel_rfl) ?_
  intro b1 w2 hS3
  refine r_box (c := (cd8 [0])) (i := 1) (d := (some 3)) (ty := 0) (x := (.tmp 1)) (v := .agg (enc_api_Final a1).toArray) (t := 24) (cs := enc_api_Final a1) hS3 (by kernel_rfl) (by kernel_rfl) (by kernel_rfl) (by kernel_rfl) ?_
  intro b5 w6 hS7
  refine sx_run 7 (todo' := [.inRegion (opsOf (cd8 [1, 0, 0, 0])) [1, 2, 3, 4, 5], .code (cd8 [1, 0, 0, 1]), .inBlock 0, .code (cd8 [1, 1])]) (us := [(4, .int .i64 0), (6, .pointer (some ⟨b1, 0, none⟩))]) (by kernel_rfl) ?_
  refine r_load (c := (cd8 [1, 0, 0, 0])) (i := 1) (d := (some 7)) (ty := 3) (t := 3) (x := (.tmp 6)) (p := ⟨b1, 0, none⟩) (v := .int .i64 a0.N) (by kernel_rfl) (by kernel_rfl) (by kernel_rfl) (loads_at 0 (hS7.blk 1 rfl) (by kernel_rfl) (by kernel_rfl)) ?_
  refine sx_run 1 (todo' := [.inRegion (opsOf (cd8 [1, 0, 0, 0])) [3, 4, 5], .code (cd8 [1, 0, 0, 1]), .inBlock 0, .code (cd8 [1, 1])]) (us := [(8, .pointer (some ⟨b5, 0, none⟩))]) (by kernel_rfl) ?_
  refine r_load (c := (cd8 [1, 0, 0, 0])) (i := 3) (d := (some 9)) (ty := 3) (t := 3) (x := (.tmp 8)) (p := ⟨b5, 0, none⟩) (v := .int .i64 a1.N) (by kernel_rfl) (by kernel_rfl) (by kernel_rfl) (loads_at 0 (hS7.blk 0 rfl) (by kernel_rfl) (by kernel_rfl)) ?_
  refine sx_split 1 (todo' := [.inRegion (opsOf (cd8 [1, 0, 0, 0])) [5], .code (cd8 [1, 0, 0, 1]), .inBlock 0, .code (cd8 [1, 1])]) (us := []) (d := 10) (t := (decide (a0.N < a1.N))) (by kernel_rfl) (fun h9 => ?_) (fun h10 => ?_)
  ·skip
   have hp11 := ite_t hp0 h9
   refine sx_run 7 (todo' := [.code (cd8 [1, 0, 0, 1, 0, 1]), .inBlock 0, .code (cd8 [1, 1])]) (us := [(5, .bool true), (4, .int .i64 (-1))]) (by kernel_rfl) ?_
   have hS12 := hS7.drop
   have hS13 := hS12.drop
   refine runs_ret (fn := Tryd.f8) (v := .int .i64 (-1)) Tryd.func8 (by kernel_rfl) ?_
   have hr14 := (Option.some.inj hp11)
   cases hr14
   exact hR _ _ ⟨rfl, hS13⟩
  ·skip
   have hp15 := ite_f hp0 h10
   refine sx_run 6 (todo' := [.inRegion (opsOf (cd8 [1, 0, 0, 1, 1, 0])) [1, 2, 3, 4, 5], .code (cd8 [1, 0, 0, 1, 1, 1]), .inBlock 0, .code (cd8 [1, 1])]) (us := [(5, .bool false), (12, .pointer (some ⟨b1, 0, none⟩))]) (by kernel_rfl) ?_
   refine r_load (c := (cd8 [1, 0, 0, 1, 1, 0])) (i := 1) (d := (some 13)) (ty := 3) (t := 3) (x := (.tmp 12)) (p := ⟨b1, 0, none⟩) (v := .int .i64 a0.N) (by kernel_rfl) (by kernel_rfl) (by kernel_rfl) (loads_at 0 (hS7.blk 1 rfl) (by kernel_rfl) (by kernel_rfl)) ?_
   refine sx_run 1 (todo' := [.inRegion (opsOf (cd8 [1, 0, 0, 1, 1, 0])) [3, 4, 5], .code (cd8 [1, 0, 0, 1, 1, 1]), .inBlock 0, .code (cd8 [1, 1])]) (us := [(14, .pointer (some ⟨b5, 0, none⟩))]) (by kernel_rfl) ?_
   refine r_load (c := (cd8 [1, 0, 0, 1, 1, 0])) (i := 3) (d := (some 15)) (ty := 3) (t := 3) (x := (.tmp 14)) (p := ⟨b5, 0, none⟩) (v := .int .i64 a1.N) (by kernel_rfl) (by kernel_rfl) (by kernel_rfl) (loads_at 0 (hS7.blk 0 rfl) (by kernel_rfl) (by kernel_rfl)) ?_
   refine sx_split 1 (todo' := [.inRegion (opsOf (cd8 [1, 0, 0, 1, 1, 0])) [5], .code (cd8 [1, 0, 0, 1, 1, 1]), .inBlock 0, .code (cd8 [1, 1])]) (us := []) (d := 16) (t := (decide (a0.N > a1.N))) (by kernel_rfl) (fun h16 => ?_) (fun h17 => ?_)
   ·skip
    have hp18 := ite_t hp15 h16
    refine sx_run 7 (todo' := [.code (cd8 [1, 0, 0, 1, 1, 1, 0, 1]), .inBlock 0, .code (cd8 [1, 1])]) (us := [(11, .bool true), (4, .int .i64 1)]) (by kernel_rfl) ?_
    have hS19 := hS7.drop
    have hS20 := hS19.drop
    refine runs_ret (fn := Tryd.f8) (v := .int .i64 1) Tryd.func8 (by kernel_rfl) ?_
    have hr21 := (Option.some.inj hp18)
    cases hr21
    exact hR _ _ ⟨rfl, hS20⟩
   ·skip
    have hp22 := ite_f hp15 h17
    refine sx_run 6 (todo' := [.code (cd8 [1, 1, 0]), .code (cd8 [1, 1, 1])]) (us := [(11, .bool false)]) (by kernel_rfl) ?_
    have hS23 := hS7.pick1
    obtain ⟨Z24, hz25, hS26, hs27, -⟩ := hS23.lendblk
    obtain ⟨Z28, hz29, hS30, hs31, -⟩ := hS26.lendblk
    refine r_quiet hS30 (c := (cd8 [1, 1, 0])) (id := 5) (by kernel_rfl) (by kernel_rfl) (by kernel_rfl) (is := [0, 1, 2, 3, 4, 5]) (by kernel_rfl) ?_
    refine q_run 1 (is' := [1, 2, 3, 4, 5]) (us := [(17, .pointer (some ⟨b1, 1, none⟩))]) (by kernel_rfl) ?_
    obtain ⟨A32, c33, hr34, hs35⟩ := cutArrZ (zsub_api_Final_V (hs27.mono hz29)) (len_encI .i64) 0 48 (by omega) (by omega) (by omega)
    refine q_val (c := (cd8 [1, 1, 0])) (i := 1) (d := (some 18)) (ty := 54) (op := .slice 22 (.tmp 17) none none none) (v := .slice A32 ((a0.V.toList.take 48).drop 0).length c33) (by kernel_rfl) (by kernel_rfl) (fun w hC o ho _ => x_cutArr_nn (e := 2) (by kernel_rfl)  (by kernel_rfl) (by kernel_rfl) hr34 ho) ?_
    refine q_run 1 (is' := [3, 4, 5]) (us := [(19, .pointer (some ⟨b5, 1, none⟩))]) (by kernel_rfl) ?_
    obtain ⟨A37, c38, hr39, hs40⟩ := cutArrZ (zsub_api_Final_V hs31) (len_encI .i64) 0 48 (by omega) (by omega) (by omega)
    refine q_val (c := (cd8 [1, 1, 0])) (i := 3) (d := (some 20)) (ty := 54) (op := .slice 22 (.tmp 19) none none none) (v := .slice A37 ((a1.V.toList.take 48).drop 0).length c38) (by kernel_rfl) (by kernel_rfl) (fun w hC o ho _ => x_cutArr_nn (e := 2) (by kernel_rfl)  (by kernel_rfl) (by kernel_rfl) hr39 ho) ?_
    obtain ⟨t42, hr43, hp44⟩ := bind_some' hp22
    refine q_call1 (c := (cd8 [1, 1, 0])) (i := 4) (d := (some 21)) (v := .int .i64 t42) (g := 24) (args := #[.slice A32 ((a0.V.toList.take 48).drop 0).length c33, .slice A37 ((a1.V.toList.take 48).drop 0).length c38]) (by kernel_rfl) (by kernel_rfl) (by kernel_rfl) (by kernel_rfl) (fun w hC => by
     refine (slices_Compare___int64_int64.ok ((a0.V.toList.take 48).drop 0) ((a1.V.toList.take 48).drop 0) A32 c33 A37 c38 hC hs35 hs40 hr43).mono ?_
     rintro e w2 ⟨rfl, h2⟩
     exact ⟨rfl, h2⟩) ?_
    refine q_run 1 (is' := []) (us := [(4, .int .i64 t42)]) (by kernel_rfl) ?_
    refine Qs.nil ?_
    intro w45 hS46
    have hS47 := hS46.less (Zm.Le.trans hz25 hz29)
    refine runs_ret (fn := Tryd.f8) (v := .int .i64 t42) Tryd.func8 (by kernel_rfl) ?_
    have hr48 := (Option.some.inj hp44)
    cases hr48
    exact hR _ _ ⟨rfl, hS47⟩

noncomputable def cd26 (p : List Nat) : Code := sub (bodyOf Tryd.f26) p
def slices_Compact___api_Final_api_Final.l1 (a0 : List api_Final) (t16 : Int) (t74 : Int) (t75 : Int) (t76 : List api_Final) : Option (Int × (List api_Final)) :=
  (if (decide (t75 < (((a0.length - t16.toNat) : Nat) : Int))) = true then (if 0 ≤ t75 ∧ t75 < (((a0.length - t16.toNat) : Nat) : Int) ∧ ((t16.toNat : Nat) : Int) + t75 < (t76.length : Int) then (if 0 ≤ (IntKind.i64.wrap (t75 - 1)) ∧ (IntKind.i64.wrap (t75 - 1)) < (((a0.length - t16.toNat) : Nat) : Int) ∧ ((t16.toNat : Nat) : Int) + (IntKind.i64.wrap (t75 - 1)) < (t76.length : Int) then (if (!(decide ((gt t76 (((t16.toNat : Nat) : Int) + t75)) = (gt t76 (((t16.toNat : Nat) : Int) + (IntKind.i64.wrap (t75 - 1))))))) = true then (if 0 ≤ t75 ∧ t75 < (((a0.length - t16.toNat) : Nat) : Int) ∧ ((t16.toNat : Nat) : Int) + t75 < (t76.length : Int) then (if 0 ≤ t74 ∧ t74 < (t76.length : Int) then (slices_Compact___api_Final_api_Final.l1 a0 t16 (IntKind.i64.wrap (t74 + 1)) (IntKind.i64.wrap (t75 + 1)) (setl t76 t74 (gt t76 (((t16.toNat : Nat) : Int) + t75)))) else none) else none) else (slices_Compact___api_Final_api_Final.l1 a0 t16 t74 (IntKind.i64.wrap (t75 + 1)) t76)) else none) else none) else some ((t74, t76)))
 partial_fixpoint
def slices_Compact___api_Final_api_Final.l0 (a0 : List api_Final) (t16 : Int) : Option (Sum Unit (List api_Final)) :=
  (if (decide (t16 < (a0.length : Int))) = true then (if 0 ≤ t16 ∧ t16 < (a0.length : Int) then (if 0 ≤ (IntKind.i64.wrap (t16 - 1)) ∧ (IntKind.i64.wrap (t16 - 1)) < (a0.length : Int) then (if (decide ((gt a0 t16) = (gt a0 (IntKind.i64.wrap (t16 - 1))))) = true then (if 0 ≤ t16 ∧ t16 ≤ ((a0.length : Nat) : Int) then (slices_Compact___api_Final_api_Final.l1 a0 t16 t16 1 a0 >>= (fun (t52, t53) => (if 0 ≤ t52 ∧ t52 ≤ ((t53.length : Nat) : Int) then (if t52.toNat + (t53.length - t52.toNat) ≤ t53.length then (if 0 ≤ t52 ∧ t52 ≤ ((copyv t53 t52.toNat (t53.length - t52.toNat) (List.replicate (t53.length - t52.toNat) (⟨0, (Vector.replicate 48 0)⟩ : api_Final))).length : Int) then (if t52.toNat ≤ (copyv t53 t52.toNat (t53.length - t52.toNat) (List.replicate (t53.length - t52.toNat) (⟨0, (Vector.replicate 48 0)⟩ : api_Final))).length then some (.inr (((copyv t53 t52.toNat (t53.length - t52.toNat) (List.replicate (t53.length - t52.toNat) (⟨0, (Vector.replicate 48 0)⟩ : api_Final))).take t52.toNat))) else none) else none) else none) else none))) else none) else (slices_Compact___api_Final_api_Final.l0 a0 (IntKind.i64.wrap (t16 + 1)))) else none) else none) else some (.inl ()))
 partial_fixpoint
def slices_Compact___api_Final_api_Final.f (a0 : List api_Final) : Option (List api_Final) :=
  (if (decide ((a0.length : Int) < 2)) = true then some (a0) else (slices_Compact___api_Final_api_Final.l0 a0 1 >>= (fun | .inl () => some (a0) | .inr e => some e)))
set_option maxHeartbeats 16000000 in
theorem slices_Compact___api_Final_api_Final.ok (a0 : List api_Final) (Aa0 : Option Addr) (ca0 : Nat) {w0 : World} {Z : Zm} {fs : List XObj} {w : World} (hS0 : St w0 Z (xrow Aa0 ca0 24 49 (a0.flatMap enc_api_Final) :: fs) w) {q0 : List api_Final} (hp0 : slices_Compact___api_Final_api_Final.f a0 = some q0) :
    Calls Tryd.prog 26 #[.slice Aa0 a0.length ca0] w (fun e w' => ∃ (QA0 : Option Addr) (Qc0 : Nat), e = .returned (.slice QA0 q0.length Qc0) ∧ St w0 Z (xrow QA0 Qc0 24 49 (q0.flatMap enc_api_Final) :: fs) w') := by
  refine calls_abs ?_; intro R hR
  unfold slices_Compact___api_Final_api_Final.f at hp0
  refine calls_of_runs (fn := Tryd.f26) (c := cd26 []) Tryd.func26 (by kernel_rfl) (al := [.slice Aa0 a0.length ca0]) rfl (n := 60) rfl ?_
  refine sx_split 10 (todo' := [.inRegion (opsOf (cd26 [1, 0, 0])) [], .code (cd26 [1, 0, 1]), .code (cd26 [1, 1])]) (us := [(2, .slice none 0 0), (6, .slice Aa0 a0.length ca0), (7, .int .i64 (a0.length : Int))]) (d := 8) (t := (decide ((a0.length : Int) < 2))) (by kernel_rfl) (fun h1 => ?_) (fun h2 => ?_)
  ·skip
   have hp3 := ite_t hp0 h1
   refine sx_run 7 (todo' := [.code (cd26 [1, 0, 1, 0, 1]), .code (cd26 [1, 1])]) (us := [(9, .slice Aa0 a0.length ca0), (2, .slice Aa0 a0.length ca0)]) (by kernel_rfl) ?_
   refine runs_ret (fn := Tryd.f26) (v := .slice Aa0 a0.length ca0) Tryd.func26 (by kernel_rfl) ?_
   have hr4 := (Option.some.inj hp3)
   cases hr4
   exact hR _ _ ⟨Aa0, ca0, rfl, hS0⟩
  ·skip
   have hp5 := ite_f hp0 h2
   refine sx_run 10 (todo' := [.code (cd26 [1, 1, 0, 1, 0, 0]), .inLoop (cd26 [1, 1, 0, 1, 0, 0]), .inBlock 0, .code (cd26 [1, 1, 1])]) (us := [(3, .int .i64 1)]) (by kernel_rfl) ?_
   obtain ⟨v6, hv7, hp8⟩ := bind_some' hp5
   have hq11 : ∀ x, Sum.inr x = v6 → x = q0 := by intro x hx; subst hx; simpa using hp8
   have J12 : ∀ (he14 : Sum.inl () = v6) (l13 : List Value) (w9 : World) (hS10 : St w0 Z (xrow Aa0 ca0 24 49 (a0.flatMap enc_api_Final) :: fs) w9), Runs Tryd.prog 26 [.code (cd26 [1, 1, 1])] (fill [some (.slice Aa0 a0.length ca0), none, none, none, none, none, none, none, none, none, none, none, none, none, none, none, none, none, none, none, none, none, none, none, none, none, none, none, none, none, none, none, none, none, none, none, none, none, none, none, none, none, none, none, none, none, none, none, none, none, none, none, none, none, none, none, none, none, none, none, none] l13) w9 R := by
    intro he14 l13 w9 hS10
    subst he14
    try dsimp only at hp8
    refine sx_run 5 (todo' := [.code (cd26 [1, 1, 1, 1])]) (us := [(60, .slice Aa0 a0.length ca0), (2, .slice Aa0 a0.length ca0)]) (by kernel_rfl) ?_
    refine runs_ret (fn := Tryd.f26) (v := .slice Aa0 a0.length ca0) Tryd.func26 (by kernel_rfl) ?_
    have hr15 := (Option.some.inj hp8)
    cases hr15
    exact hR _ _ ⟨Aa0, ca0, rfl, hS10⟩
   have L25 : ∀ (t16 : Int) (e20 : Sum Unit (List api_Final)), slices_Compact___api_Final_api_Final.l0 a0 t16 = some e20 → e20 = v6 → ∀ (l19 : List Value) (w17 : World) (hS18 : St w0 Z (xrow Aa0 ca0 24 49 (a0.flatMap enc_api_Final) :: fs) w17), Runs Tryd.prog 26 [.code (cd26 [1, 1, 0, 1, 0, 0]), .inLoop (cd26 [1, 1, 0, 1, 0, 0]), .inBlock 0, .code (cd26 [1, 1, 1])] (fill [some (.slice Aa0 a0.length ca0), none, none, some (.int .i64 t16), none, none, none, none, none, none, none, none, none, none, none, none, none, none, none, none, none, none, none, none, none, none, none, none, none, none, none, none, none, none, none, none, none, none, none, none, none, none, none, none, none, none, none, none, none, none, none, none, none, none, none, none, none, none, none, none, none] l19) w17 R := by
    refine slices_Compact___api_Final_api_Final.l0.partial_correctness a0 (fun t16 e20 => e20 = v6 → ∀ (l19 : List Value) (w17 : World) (hS18 : St w0 Z (xrow Aa0 ca0 24 49 (a0.flatMap enc_api_Final) :: fs) w17), Runs Tryd.prog 26 [.code (cd26 [1, 1, 0, 1, 0, 0]), .inLoop (cd26 [1, 1, 0, 1, 0, 0]), .inBlock 0, .code (cd26 [1, 1, 1])] (fill [some (.slice Aa0 a0.length ca0), none, none, some (.int .i64 t16), none, none, none, none, none, none, none, none, none, none, none, none, none, none, none, none, none, none, none, none, none, none, none, none, none, none, none, none, none, none, none, none, none, none, none, none, none, none, none, none, none, none, none, none, none, none, none, none, none, none, none, none, none, none, none, none, none] l19) w17 R) ?_
    intro rec24 ih23 t16 e20 hb22 he21 l19 w17 hS18
    have hq26 : ∀ x, Sum.inr x = e20 → x = q0 := fun x hx => hq11 x (hx.trans he21)
    refine sx_split 7 (todo' := [.inRegion (opsOf (cd26 [1, 1, 0, 1, 0, 0, 0, 0])) [], .code (cd26 [1, 1, 0, 1, 0, 0, 0, 1]), .code (cd26 [1, 1, 0, 1, 0, 0, 1]), .inLoop (cd26 [1, 1, 0, 1, 0, 0]), .inBlock 0, .code (cd26 [1, 1, 1])]) (us := [(10, .int .i64 t16), (11, .slice Aa0 a0.length ca0), (12, .int .i64 (a0.length : Int))]) (d := 13) (t := (decide (t16 < (a0.length : Int)))) (by kernel_rfl) (fun h27 => ?_) (fun h28 => ?_)
    ·skip
     have hp29 := ite_t hb22 h27
     refine sx_run 6 (todo' := [.code (cd26 [1, 1, 0, 1, 0, 0, 1, 0, 0, 0]), .code (cd26 [1, 1, 0, 1, 0, 0, 1, 0, 0, 1]), .inBlock 1, .code (cd26 [1, 1, 0, 1, 0, 0, 1, 1]), .inLoop (cd26 [1, 1, 0, 1, 0, 0]), .inBlock 0, .code (cd26 [1, 1, 1])]) (us := []) (by kernel_rfl) ?_
     refine r_quiet hS18 (c := (cd26 [1, 1, 0, 1, 0, 0, 1, 0, 0, 0])) (id := 6) (by kernel_rfl) (by kernel_rfl) (by kernel_rfl) (is := [0, 1, 2, 3, 4, 5, 6, 7, 8, 9]) (by kernel_rfl) ?_
     refine q_run 2 (is' := [2, 3, 4, 5, 6, 7, 8, 9]) (us := [(16, .slice Aa0 a0.length ca0), (17, .int .i64 t16)]) (by kernel_rfl) ?_
     obtain ⟨g30, hp31⟩ := ite_some hp29
     obtain ⟨b32, p33, hA34, -⟩ := (hS18.row 0 rfl).at_ len_api_Final (by omega) g30.1 g30.2
     refine q_indexAddr (c := (cd26 [1, 1, 0, 1, 0, 0, 1, 0, 0, 0])) (i := 2) (d := (some 18)) (ty := 0) (t := 28) (e := 24) (n := a0.length) (cp := ca0) (sz := 49) (kk := .i64) (x := (.tmp 16)) (y := (.tmp 17)) (b := b32) (o' := p33) (j := t16) (by kernel_rfl) (by kernel_rfl) (slv (by kernel_rfl) hA34) (by kernel_rfl) (by kernel_rfl) (by kernel_rfl) g30.1 g30.2 ?_
     refine q_load (c := (cd26 [1, 1, 0, 1, 0, 0, 1, 0, 0, 0])) (i := 3) (d := (some 19)) (ty := 24) (t := 24) (x := (.tmp 18)) (p := ⟨b32, p33 + t16.toNat * 49, none⟩) (v := .agg (enc_api_Final (gt a0 t16)).toArray) (by kernel_rfl) (by kernel_rfl) (by kernel_rfl) (fun w hC => (loads_agg ((hC.row 0 rfl).at2 hA34 len_api_Final (by omega) g30.1 g30.2) (by kernel_rfl) (lenK (len_api_Final _) (by kernel_rfl)))) ?_
     refine q_run 3 (is' := [7, 8, 9]) (us := [(20, .slice Aa0 a0.length ca0), (21, .int .i64 t16), (22, .int .i64 (IntKind.i64.wrap (t16 - 1)))]) (by kernel_rfl) ?_
     obtain ⟨g36, hp37⟩ := ite_some hp31
     obtain ⟨b38, p39, hA40, -⟩ := (hS18.row 0 rfl).at_ len_api_Final (by omega) g36.1 g36.2
     refine q_indexAddr (c := (cd26 [1, 1, 0, 1, 0, 0, 1, 0, 0, 0])) (i := 7) (d := (some 23)) (ty := 0) (t := 28) (e := 24) (n := a0.length) (cp := ca0) (sz := 49) (kk := .i64) (x := (.tmp 20)) (y := (.tmp 22)) (b := b38) (o' := p39) (j := (IntKind.i64.wrap (t16 - 1))) (by kernel_rfl) (by kernel_rfl) (slv (by kernel_rfl) hA40) (by kernel_rfl) (by kernel_rfl) (by kernel_rfl) g36.1 g36.2 ?_
     refine q_load (c := (cd26 [1, 1, 0, 1, 0, 0, 1, 0, 0, 0])) (i := 8) (d := (some 24)) (ty := 24) (t := 24) (x := (.tmp 23)) (p := ⟨b38, p39 + (IntKind.i64.wrap (t16 - 1)).toNat * 49, none⟩) (v := .agg (enc_api_Final (gt a0 (IntKind.i64.wrap (t16 - 1)))).toArray) (by kernel_rfl) (by kernel_rfl) (by kernel_rfl) (fun w hC => (loads_agg ((hC.row 0 rfl).at2 hA40 len_api_Final (by omega) g36.1 g36.2) (by kernel_rfl) (lenK (len_api_Final _) (by kernel_rfl)))) ?_
     refine q_val (c := (cd26 [1, 1, 0, 1, 0, 0, 1, 0, 0, 0])) (i := 9) (d := (some 25)) (ty := 4) (op := .binOp .eql 24 (.tmp 19) (.tmp 24) 24) (v := .bool (decide ((gt a0 t16) = (gt a0 (IntKind.i64.wrap (t16 - 1)))))) (by kernel_rfl) (by kernel_rfl) (fun w hC o ho _ => x_eql_api_Final (by kernel_rfl) (by kernel_rfl) ho) ?_
     refine q_split (decide ((gt a0 t16) = (gt a0 (IntKind.i64.wrap (t16 - 1))))) (fun h42 => ?_) (fun h43 => ?_)
     ·skip
      have hp44 := ite_t hp37 h42
      refine Qs.nil ?_
      intro w45 hS46
      refine sx_run 5 (todo' := [.inRegion (opsOf (cd26 [1, 1, 0, 1, 0, 0, 1, 0, 0, 1, 0, 0])) [2, 3], .code (cd26 [1, 1, 0, 1, 0, 0, 1, 0, 0, 1, 0, 1]), .inBlock 1, .code (cd26 [1, 1, 0, 1, 0, 0, 1, 1]), .inLoop (cd26 [1, 1, 0, 1, 0, 0]), .inBlock 0, .code (cd26 [1, 1, 1])]) (us := [(26, .slice Aa0 a0.length ca0), (27, .int .i64 t16)]) (by kernel_rfl) ?_
      obtain ⟨g47, hp48⟩ := ite_some hp44
      refine r_val (c := (cd26 [1, 1, 0, 1, 0, 0, 1, 0, 0, 1, 0, 0])) (i := 2) (d := (some 28)) (ty := 28) (op := .slice 28 (.tmp 26) (some (.tmp 27)) none none) (v := .slice (vA Aa0 ca0 t16.toNat 49) (a0.length - t16.toNat) (ca0 - t16.toNat)) (by kernel_rfl) (by kernel_rfl) (fun o ho _ => x_cutSl_sn (e := 24) (sz := 49) (A := Aa0) (n := a0.length) (c := ca0) (k := .i64) (by kernel_rfl) (by kernel_rfl) (by kernel_rfl) (by kernel_rfl) g47 rfl ho) ?_
      refine sx_run 9 (todo' := [.code (cd26 [1, 1, 0, 1, 0, 0, 1, 0, 0, 1, 0, 1, 0, 1, 0, 0]), .inLoop (cd26 [1, 1, 0, 1, 0, 0, 1, 0, 0, 1, 0, 1, 0, 1, 0, 0]), .inBlock 2, .code (cd26 [1, 1, 0, 1, 0, 0, 1, 0, 0, 1, 0, 1, 1]), .inBlock 1, .code (cd26 [1, 1, 0, 1, 0, 0, 1, 1]), .inLoop (cd26 [1, 1, 0, 1, 0, 0]), .inBlock 0, .code (cd26 [1, 1, 1])]) (us := [(4, .slice (vA Aa0 ca0 t16.toNat 49) (a0.length - t16.toNat) (ca0 - t16.toNat)), (5, .int .i64 1)]) (by kernel_rfl) ?_
      obtain ⟨v49, hv50, hp51⟩ := bind_some' hp48
      have J56 : ∀ (t52 : Int) (t53 : List api_Final) (he58 : (t52, t53) = v49) (l57 : List Value) (w54 : World) (hS55 : St w0 Z (xrow Aa0 ca0 24 49 (t53.flatMap enc_api_Final) :: fs) w54), Runs Tryd.prog 26 [.code (cd26 [1, 1, 0, 1, 0, 0, 1, 0, 0, 1, 0, 1, 1]), .inBlock 1, .code (cd26 [1, 1, 0, 1, 0, 0, 1, 1]), .inLoop (cd26 [1, 1, 0, 1, 0, 0]), .inBlock 0, .code (cd26 [1, 1, 1])] (fill [some (.slice Aa0 t53.length ca0), none, none, some (.int .i64 t52), none, none, none, none, none, none, none, none, none, none, none, none, none, none, none, none, none, none, none, none, none, none, none, none, none, none, none, none, none, none, none, none, none, none, none, none, none, none, none, none, none, none, none, none, none, none, none, none, none, none, none, none, none, none, none, none, none] l57) w54 R := by
       intro t52 t53 he58 l57 w54 hS55
       subst he58
       try dsimp only at hp51
       refine sx_run 4 (todo' := [.inRegion (opsOf (cd26 [1, 1, 0, 1, 0, 0, 1, 0, 0, 1, 0, 1, 1, 0])) [2, 3], .code (cd26 [1, 1, 0, 1, 0, 0, 1, 0, 0, 1, 0, 1, 1, 1]), .inBlock 1, .code (cd26 [1, 1, 0, 1, 0, 0, 1, 1]), .inLoop (cd26 [1, 1, 0, 1, 0, 0]), .inBlock 0, .code (cd26 [1, 1, 1])]) (us := [(54, .slice Aa0 t53.length ca0), (55, .int .i64 t52)]) (by kernel_rfl) ?_
       obtain ⟨g59, hp60⟩ := ite_some hp51
       refine r_val (c := (cd26 [1, 1, 0, 1, 0, 0, 1, 0, 0, 1, 0, 1, 1, 0])) (i := 2) (d := (some 56)) (ty := 28) (op := .slice 28 (.tmp 54) (some (.tmp 55)) none none) (v := .slice (vA Aa0 ca0 t52.toNat 49) (t53.length - t52.toNat) (ca0 - t52.toNat)) (by kernel_rfl) (by kernel_rfl) (fun o ho _ => x_cutSl_sn (e := 24) (sz := 49) (A := Aa0) (n := t53.length) (c := ca0) (k := .i64) (by kernel_rfl) (by kernel_rfl) (by kernel_rfl) (by kernel_rfl) g59 rfl ho) ?_
       obtain ⟨g61, hp62⟩ := ite_some hp60
       refine r_clearV (c := (cd26 [1, 1, 0, 1, 0, 0, 1, 0, 0, 1, 0, 1, 1, 0])) (i := 3) (d := none) (ty := 0) (enc := enc_api_Final) (e := 24) (t := 28) (sz := 49) (cp := ca0) (L := t52.toNat) (n := (t53.length - t52.toNat)) (A := Aa0) (xs := t53) (s := (.tmp 56)) (z := .agg (enc_api_Final (⟨0, (Vector.replicate 48 0)⟩ : api_Final)).toArray) (z0 := (⟨0, (Vector.replicate 48 0)⟩ : api_Final)) hS55 (by kernel_rfl) (by kernel_rfl) (by kernel_rfl) (by kernel_rfl) (by kernel_rfl) rfl (by omega) len_api_Final one_api_Final g61 ?_
       intro w63 hS64
       refine Runs.fill (m := [some (.slice Aa0 t53.length ca0), none, none, none, none, none, none, none, none, none, none, none, none, none, none, none, none, none, none, none, none, none, none, none, none, none, none, none, none, none, none, none, none, none, none, none, none, none, none, none, none, none, none, none, none, none, none, none, none, none, none, none, none, none, some (.slice Aa0 t53.length ca0), none, none, none, none, none, none]) (by kernel_rfl) ?_
       refine Runs.refill (m' := [some (.slice Aa0 (copyv t53 t52.toNat (t53.length - t52.toNat) (List.replicate (t53.length - t52.toNat) (⟨0, (Vector.replicate 48 0)⟩ : api_Final))).length ca0), none, none, none, none, none, none, none, none, none, none, none, none, none, none, none, none, none, none, none, none, none, none, none, none, none, none, none, none, none, none, none, none, none, none, none, none, none, none, none, none, none, none, none, none, none, none, none, none, none, none, none, none, none, some (.slice Aa0 (copyv t53 t52.toNat (t53.length - t52.toNat) (List.replicate (t53.length - t52.toNat) (⟨0, (Vector.replicate 48 0)⟩ : api_Final))).length ca0), none, none, none, none, none, none]) (by simp only [copyv_len g61]) ?_
       refine sx_run 5 (todo' := [.inRegion (opsOf (cd26 [1, 1, 0, 1, 0, 0, 1, 0, 0, 1, 0, 1, 1, 1, 0])) [2, 3], .code (cd26 [1, 1, 0, 1, 0, 0, 1, 0, 0, 1, 0, 1, 1, 1, 1]), .inBlock 1, .code (cd26 [1, 1, 0, 1, 0, 0, 1, 1]), .inLoop (cd26 [1, 1, 0, 1, 0, 0]), .inBlock 0, .code (cd26 [1, 1, 1])]) (us := [(57, .slice Aa0 (copyv t53 t52.toNat (t53.length - t52.toNat) (List.replicate (t53.length - t52.toNat) (⟨0, (Vector.replicate 48 0)⟩ : api_Final))).length ca0), (58, .int .i64 t52)]) (by kernel_rfl) ?_
       obtain ⟨g65, hp66⟩ := ite_some hp62
       have hc67 := (hS64.row 0 rfl).cap len_api_Final (by omega)
       have g68 : 0 ≤ t52 ∧ t52 ≤ (ca0 : Int) := by omega
       refine r_val (c := (cd26 [1, 1, 0, 1, 0, 0, 1, 0, 0, 1, 0, 1, 1, 1, 0])) (i := 2) (d := (some 59)) (ty := 28) (op := .slice 28 (.tmp 57) none (some (.tmp 58)) none) (v := .slice Aa0 t52.toNat ca0) (by kernel_rfl) (by kernel_rfl) (fun o ho _ => x_cutSl_nsC (e := 24) (sz := 49) (A := Aa0) (n := (copyv t53 t52.toNat (t53.length - t52.toNat) (List.replicate (t53.length - t52.toNat) (⟨0, (Vector.replicate 48 0)⟩ : api_Final))).length) (c := ca0) (k := .i64) (by kernel_rfl) (by kernel_rfl) (by kernel_rfl) (by kernel_rfl) g68 cut0 ho) ?_
       refine sx_run 2 (todo' := [.code (cd26 [1, 1, 0, 1, 0, 0, 1, 0, 0, 1, 0, 1, 1, 1, 1]), .inBlock 1, .code (cd26 [1, 1, 0, 1, 0, 0, 1, 1]), .inLoop (cd26 [1, 1, 0, 1, 0, 0]), .inBlock 0, .code (cd26 [1, 1, 1])]) (us := [(2, .slice Aa0 t52.toNat ca0)]) (by kernel_rfl) ?_
       obtain ⟨g69, hp70⟩ := ite_some hp66
       have hS71 := hS64.cutrow0 t52.toNat g69 len_api_Final
       refine runs_ret (fn := Tryd.f26) (v := .slice Aa0 t52.toNat ca0) Tryd.func26 (by kernel_rfl) ?_
       have hr73 := (hq26 _ (Option.some.inj hp70))
       cases hr73
       exact hR _ _ ⟨Aa0, ca0, (by rw [lenTake g69]), hS71⟩
      have L85 : ∀ (t74 : Int) (t75 : Int) (t76 : List api_Final) (e80 : (Int × (List api_Final))), slices_Compact___api_Final_api_Final.l1 a0 t16 t74 t75 t76 = some e80 → e80 = v49 → ∀ (l79 : List Value) (w77 : World) (hS78 : St w0 Z (xrow Aa0 ca0 24 49 (t76.flatMap enc_api_Final) :: fs) w77), Runs Tryd.prog 26 [.code (cd26 [1, 1, 0, 1, 0, 0, 1, 0, 0, 1, 0, 1, 0, 1, 0, 0]), .inLoop (cd26 [1, 1, 0, 1, 0, 0, 1, 0, 0, 1, 0, 1, 0, 1, 0, 0]), .inBlock 2, .code (cd26 [1, 1, 0, 1, 0, 0, 1, 0, 0, 1, 0, 1, 1]), .inBlock 1, .code (cd26 [1, 1, 0, 1, 0, 0, 1, 1]), .inLoop (cd26 [1, 1, 0, 1, 0, 0]), .inBlock 0, .code (cd26 [1, 1, 1])] (fill [some (.slice Aa0 t76.length ca0), none, none, some (.int .i64 t74), some (.slice (vA Aa0 ca0 t16.toNat 49) (a0.length - t16.toNat) (ca0 - t16.toNat)), some (.int .i64 t75), none, none, none, none, none, none, none, none, none, none, none, none, none, none, none, none, none, none, none, none, none, none, none, none, none, none, none, none, none, none, none, none, none, none, none, none, none, none, none, none, none, none, none, none, none, none, none, none, none, none, none, none, none, none, none] l79) w77 R := by
       refine slices_Compact___api_Final_api_Final.l1.partial_correctness a0 t16 (fun t74 t75 t76 e80 => e80 = v49 → ∀ (l79 : List Value) (w77 : World) (hS78 : St w0 Z (xrow Aa0 ca0 24 49 (t76.flatMap enc_api_Final) :: fs) w77), Runs Tryd.prog 26 [.code (cd26 [1, 1, 0, 1, 0, 0, 1, 0, 0, 1, 0, 1, 0, 1, 0, 0]), .inLoop (cd26 [1, 1, 0, 1, 0, 0, 1, 0, 0, 1, 0, 1, 0, 1, 0, 0]), .inBlock 2, .code (cd26 [1, 1, 0, 1, 0, 0, 1, 0, 0, 1, 0, 1, 1]), .inBlock 1, .code (cd26 [1, 1, 0, 1, 0, 0, 1, 1]), .inLoop (cd26 [1, 1, 0, 1, 0, 0]), .inBlock 0, .code (cd26 [1, 1, 1])] (fill [some (.slice Aa0 t76.length ca0), none, none, some (.int .i64 t74), some (.slice (vA Aa0 ca0 t16.toNat 49) (a0.length - t16.toNat) (ca0 - t16.toNat)), some (.int .i64 t75), none, none, none, none, none, none, none, none, none, none, none, none, none, none, none, none, none, none, none, none, none, none, none, none, none, none, none, none, none, none, none, none, none, none, none, none, none, none, none, none, none, none, none, none, none, none, none, none, none, none, none, none, none, none, none] l79) w77 R) ?_
       intro rec84 ih83 t74 t75 t76 e80 hb82 he81 l79 w77 hS78
       refine sx_split 7 (todo' := [.inRegion (opsOf (cd26 [1, 1, 0, 1, 0, 0, 1, 0, 0, 1, 0, 1, 0, 1, 0, 0, 0, 0])) [], .code (cd26 [1, 1, 0, 1, 0, 0, 1, 0, 0, 1, 0, 1, 0, 1, 0, 0, 0, 1]), .code (cd26 [1, 1, 0, 1, 0, 0, 1, 0, 0, 1, 0, 1, 0, 1, 0, 0, 1]), .inLoop (cd26 [1, 1, 0, 1, 0, 0, 1, 0, 0, 1, 0, 1, 0, 1, 0, 0]), .inBlock 2, .code (cd26 [1, 1, 0, 1, 0, 0, 1, 0, 0, 1, 0, 1, 1]), .inBlock 1, .code (cd26 [1, 1, 0, 1, 0, 0, 1, 1]), .inLoop (cd26 [1, 1, 0, 1, 0, 0]), .inBlock 0, .code (cd26 [1, 1, 1])]) (us := [(29, .int .i64 t75), (30, .slice (vA Aa0 ca0 t16.toNat 49) (a0.length - t16.toNat) (ca0 - t16.toNat)), (31, .int .i64 (((a0.length - t16.toNat) : Nat) : Int))]) (d := 32) (t := (decide (t75 < (((a0.length - t16.toNat) : Nat) : Int)))) (by kernel_rfl) (fun h86 => ?_) (fun h87 => ?_)
       ·skip
        have hp88 := ite_t hb82 h86
        refine sx_run 6 (todo' := [.code (cd26 [1, 1, 0, 1, 0, 0, 1, 0, 0, 1, 0, 1, 0, 1, 0, 0, 1, 0, 0, 0]), .code (cd26 [1, 1, 0, 1, 0, 0, 1, 0, 0, 1, 0, 1, 0, 1, 0, 0, 1, 0, 0, 1]), .inBlock 3, .code (cd26 [1, 1, 0, 1, 0, 0, 1, 0, 0, 1, 0, 1, 0, 1, 0, 0, 1, 1]), .inLoop (cd26 [1, 1, 0, 1, 0, 0, 1, 0, 0, 1, 0, 1, 0, 1, 0, 0]), .inBlock 2, .code (cd26 [1, 1, 0, 1, 0, 0, 1, 0, 0, 1, 0, 1, 1]), .inBlock 1, .code (cd26 [1, 1, 0, 1, 0, 0, 1, 1]), .inLoop (cd26 [1, 1, 0, 1, 0, 0]), .inBlock 0, .code (cd26 [1, 1, 1])]) (us := []) (by kernel_rfl) ?_
        refine r_quiet hS78 (c := (cd26 [1, 1, 0, 1, 0, 0, 1, 0, 0, 1, 0, 1, 0, 1, 0, 0, 1, 0, 0, 0])) (id := 11) (by kernel_rfl) (by kernel_rfl) (by kernel_rfl) (is := [0, 1, 2, 3, 4, 5, 6, 7, 8, 9]) (by kernel_rfl) ?_
        refine q_run 2 (is' := [2, 3, 4, 5, 6, 7, 8, 9]) (us := [(35, .slice (vA Aa0 ca0 t16.toNat 49) (a0.length - t16.toNat) (ca0 - t16.toNat)), (36, .int .i64 t75)]) (by kernel_rfl) ?_
        obtain ⟨g89, hp90⟩ := ite_some hp88
        obtain ⟨b91, p92, hA93, -⟩ := (hS78.row 0 rfl).at_ len_api_Final (by omega) (i := ((t16.toNat : Nat) : Int) + t75) (by omega) g89.2.2
        have g94 : 0 ≤ t75 ∧ ((t16.toNat : Nat) : Int) + t75 < (t76.length : Int) := ⟨g89.1, g89.2.2⟩
        have hc96 := (hS78.row 0 rfl).cap len_api_Final (by omega)
        have hA95 := vA_at (c := ca0) (sz := 49) (L := t16.toNat) hA93 (by omega)
        refine q_indexAddr (c := (cd26 [1, 1, 0, 1, 0, 0, 1, 0, 0, 1, 0, 1, 0, 1, 0, 0, 1, 0, 0, 0])) (i := 2) (d := (some 37)) (ty := 0) (t := 28) (e := 24) (n := (a0.length - t16.toNat)) (cp := (ca0 - t16.toNat)) (sz := 49) (kk := .i64) (x := (.tmp 35)) (y := (.tmp 36)) (b := b91) (o' := p92 + t16.toNat * 49) (j := t75) (by kernel_rfl) (by kernel_rfl) (slv (by kernel_rfl) hA95) (by kernel_rfl) (by kernel_rfl) (by kernel_rfl) g89.1 g89.2.1 ?_
        refine q_load (c := (cd26 [1, 1, 0, 1, 0, 0, 1, 0, 0, 1, 0, 1, 0, 1, 0, 0, 1, 0, 0, 0])) (i := 3) (d := (some 38)) (ty := 24) (t := 24) (x := (.tmp 37)) (p := ⟨b91, p92 + t16.toNat * 49 + t75.toNat * 49, none⟩) (v := .agg (enc_api_Final (gt t76 (((t16.toNat : Nat) : Int) + t75))).toArray) (by kernel_rfl) (by kernel_rfl) (by kernel_rfl) (fun w hC => (loads_agg ((hC.row 0 rfl).at2v hA93 len_api_Final (by omega) g94.1 g94.2) (by kernel_rfl) (lenK (len_api_Final _) (by kernel_rfl)))) ?_
        refine q_run 3 (is' := [7, 8, 9]) (us := [(39, .slice (vA Aa0 ca0 t16.toNat 49) (a0.length - t16.toNat) (ca0 - t16.toNat)), (40, .int .i64 t75), (41, .int .i64 (IntKind.i64.wrap (t75 - 1)))]) (by kernel_rfl) ?_
        obtain ⟨g97, hp98⟩ := ite_some hp90
        obtain ⟨b99, p100, hA101, -⟩ := (hS78.row 0 rfl).at_ len_api_Final (by omega) (i := ((t16.toNat : Nat) : Int) + (IntKind.i64.wrap (t75 - 1))) (by omega) g97.2.2
        have g102 : 0 ≤ (IntKind.i64.wrap (t75 - 1)) ∧ ((t16.toNat : Nat) : Int) + (IntKind.i64.wrap (t75 - 1)) < (t76.length : Int) := ⟨g97.1, g97.2.2⟩
        have hc104 := (hS78.row 0 rfl).cap len_api_Final (by omega)
        have hA103 := vA_at (c := ca0) (sz := 49) (L := t16.toNat) hA101 (by omega)
        refine q_indexAddr (c := (cd26 [1, 1, 0, 1, 0, 0, 1, 0, 0, 1, 0, 1, 0, 1, 0, 0, 1, 0, 0, 0])) (i := 7) (d := (some 42)) (ty := 0) (t := 28) (e := 24) (n := (a0.length - t16.toNat)) (cp := (ca0 - t16.toNat)) (sz := 49) (kk := .i64) (x := (.tmp 39)) (y := (.tmp 41)) (b := b99) (o' := p100 + t16.toNat * 49) (j := (IntKind.i64.wrap (t75 - 1))) (by kernel_rfl) (by kernel_rfl) (slv (by kernel_rfl) hA103) (by kernel_rfl) (by kernel_rfl) (by kernel_rfl) g97.1 g97.2.1 ?_
        refine q_load (c := (cd26 [1, 1, 0, 1, 0, 0, 1, 0, 0, 1, 0, 1, 0, 1, 0, 0, 1, 0, 0, 0])) (i := 8) (d := (some 43)) (ty := 24) (t := 24) (x := (.tmp 42)) (p := ⟨b99, p100 + t16.toNat * 49 + (IntKind.i64.wrap (t75 - 1)).toNat * 49, none⟩) (v := .agg (enc_api_Final (gt t76 (((t16.toNat : Nat) : Int) + (IntKind.i64.wrap (t75 - 1))))).toArray) (by kernel_rfl) (by kernel_rfl) (by kernel_rfl) (fun w hC => (loads_agg ((hC.row 0 rfl).at2v hA101 len_api_Final (by omega) g102.1 g102.2) (by kernel_rfl) (lenK (len_api_Final _) (by kernel_rfl)))) ?_
        refine q_val (c := (cd26 [1, 1, 0, 1, 0, 0, 1, 0, 0, 1, 0, 1, 0, 1, 0, 0, 1, 0, 0, 0])) (i := 9) (d := (some 44)) (ty := 4) (op := .binOp .neq 24 (.tmp 38) (.tmp 43) 24) (v := .bool (!(decide ((gt t76 (((t16.toNat : Nat) : Int) + t75)) = (gt t76 (((t16.toNat : Nat) : Int) + (IntKind.i64.wrap (t75 - 1)))))))) (by kernel_rfl) (by kernel_rfl) (fun w hC o ho _ => x_neq_api_Final (by kernel_rfl) (by kernel_rfl) ho) ?_
        refine q_split (!(decide ((gt t76 (((t16.toNat : Nat) : Int) + t75)) = (gt t76 (((t16.toNat : Nat) : Int) + (IntKind.i64.wrap (t75 - 1))))))) (fun h105 => ?_) (fun h106 => ?_)
        ·skip
         have hp107 := ite_t hp98 h105
         refine Qs.nil ?_
         intro w108 hS109
         refine sx_run 7 (todo' := [.inRegion (opsOf (cd26 [1, 1, 0, 1, 0, 0, 1, 0, 0, 1, 0, 1, 0, 1, 0, 0, 1, 0, 0, 1, 0, 0])) [4, 5, 6, 7], .code (cd26 [1, 1, 0, 1, 0, 0, 1, 0, 0, 1, 0, 1, 0, 1, 0, 0, 1, 0, 0, 1, 0, 1]), .inBlock 3, .code (cd26 [1, 1, 0, 1, 0, 0, 1, 0, 0, 1, 0, 1, 0, 1, 0, 0, 1, 1]), .inLoop (cd26 [1, 1, 0, 1, 0, 0, 1, 0, 0, 1, 0, 1, 0, 1, 0, 0]), .inBlock 2, .code (cd26 [1, 1, 0, 1, 0, 0, 1, 0, 0, 1, 0, 1, 1]), .inBlock 1, .code (cd26 [1, 1, 0, 1, 0, 0, 1, 1]), .inLoop (cd26 [1, 1, 0, 1, 0, 0]), .inBlock 0, .code (cd26 [1, 1, 1])]) (us := [(45, .slice Aa0 t76.length ca0), (46, .int .i64 t74), (47, .slice (vA Aa0 ca0 t16.toNat 49) (a0.length - t16.toNat) (ca0 - t16.toNat)), (48, .int .i64 t75)]) (by kernel_rfl) ?_
         obtain ⟨g110, hp111⟩ := ite_some hp107
         obtain ⟨b112, p113, hA114, -⟩ := (hS109.row 0 rfl).at_ len_api_Final (by omega) (i := ((t16.toNat : Nat) : Int) + t75) (by omega) g110.2.2
         have g115 : 0 ≤ t75 ∧ ((t16.toNat : Nat) : Int) + t75 < (t76.length : Int) := ⟨g110.1, g110.2.2⟩
         have hc117 := (hS109.row 0 rfl).cap len_api_Final (by omega)
         have hA116 := vA_at (c := ca0) (sz := 49) (L := t16.toNat) hA114 (by omega)
         refine r_indexAddr (c := (cd26 [1, 1, 0, 1, 0, 0, 1, 0, 0, 1, 0, 1, 0, 1, 0, 0, 1, 0, 0, 1, 0, 0])) (i := 4) (d := (some 49)) (ty := 0) (t := 28) (e := 24) (n := (a0.length - t16.toNat)) (cp := (ca0 - t16.toNat)) (sz := 49) (kk := .i64) (x := (.tmp 47)) (y := (.tmp 48)) (b := b112) (o' := p113 + t16.toNat * 49) (j := t75) (by kernel_rfl) (by kernel_rfl) (slv (by kernel_rfl) hA116) (by kernel_rfl) (by kernel_rfl) (by kernel_rfl) g110.1 g110.2.1 ?_
         refine r_load (c := (cd26 [1, 1, 0, 1, 0, 0, 1, 0, 0, 1, 0, 1, 0, 1, 0, 0, 1, 0, 0, 1, 0, 0])) (i := 5) (d := (some 50)) (ty := 24) (t := 24) (x := (.tmp 49)) (p := ⟨b112, p113 + t16.toNat * 49 + t75.toNat * 49, none⟩) (v := .agg (enc_api_Final (gt t76 (((t16.toNat : Nat) : Int) + t75))).toArray) (by kernel_rfl) (by kernel_rfl) (by kernel_rfl) (loads_agg ((hS109.row 0 rfl).at2v hA114 len_api_Final (by omega) g115.1 g115.2) (by kernel_rfl) (lenK (len_api_Final _) (by kernel_rfl))) ?_
         obtain ⟨g118, hp119⟩ := ite_some hp111
         obtain ⟨b120, p121, hA122, -⟩ := (hS109.row 0 rfl).at_ len_api_Final (by omega) g118.1 g118.2
         refine r_indexAddr (c := (cd26 [1, 1, 0, 1, 0, 0, 1, 0, 0, 1, 0, 1, 0, 1, 0, 0, 1, 0, 0, 1, 0, 0])) (i := 6) (d := (some 51)) (ty := 0) (t := 28) (e := 24) (n := t76.length) (cp := ca0) (sz := 49) (kk := .i64) (x := (.tmp 45)) (y := (.tmp 46)) (b := b120) (o' := p121) (j := t74) (by kernel_rfl) (by kernel_rfl) (slv (by kernel_rfl) hA122) (by kernel_rfl) (by kernel_rfl) (by kernel_rfl) g118.1 g118.2 ?_
         refine r_storeEl (c := (cd26 [1, 1, 0, 1, 0, 0, 1, 0, 0, 1, 0, 1, 0, 1, 0, 0, 1, 0, 0, 1, 0, 0])) (i := 7) (d := none) (ty := 0) (enc := enc_api_Final) (e := 24) (t := 24) (sz := 49) (cp := ca0) (A := Aa0) (xs := t76) (x := (.tmp 51)) (y := (.tmp 50)) (el := gt t76 t74) (el' := (gt t76 (((t16.toNat : Nat) : Int) + t75))) (j := t74) (off := 0) (b := b120) (p := p121) (v := .agg (enc_api_Final (gt t76 (((t16.toNat : Nat) : Int) + t75))).toArray) (vs := enc_api_Final (gt t76 (((t16.toNat : Nat) : Int) + t75))) (ad := ⟨b120, p121 + t74.toNat * 49, none⟩) hS109 (by kernel_rfl) (by kernel_rfl) (by kernel_rfl) (by simp) (by kernel_rfl) hA122 g118 rfl len_api_Final (by kernel_rfl) (lenK (len_api_Final _) (by kernel_rfl)) (one_api_Final _) (by rw [len_api_Final]; omega) (by rw [len_api_Final]; omega) (over_all ((len_api_Final _).trans (len_api_Final _).symm)) ?_
         intro w124 hS125
         refine Runs.fill (m := [some (.slice Aa0 t76.length ca0), none, none, none, none, none, none, none, none, none, none, none, none, none, none, none, none, none, none, none, none, none, none, none, none, none, none, none, none, none, none, none, none, none, none, none, none, none, none, none, none, none, none, none, none, some (.slice Aa0 t76.length ca0), none, none, none, none, none, none, none, none, none, none, none, none, none, none, none]) (by kernel_rfl) ?_
         refine Runs.refill (m' := [some (.slice Aa0 (setl t76 t74 (gt t76 (((t16.toNat : Nat) : Int) + t75))).length ca0), none, none, none, none, none, none, none, none, none, none, none, none, none, none, none, none, none, none, none, none, none, none, none, none, none, none, none, none, none, none, none, none, none, none, none, none, none, none, none, none, none, none, none, none, some (.slice Aa0 (setl t76 t74 (gt t76 (((t16.toNat : Nat) : Int) + t75))).length ca0), none, none, none, none, none, none, none, none, none, none, none, none, none, none, none]) (by simp only [setl_len]) ?_
         refine sx_run 12 (todo' := [.inLoop (cd26 [1, 1, 0, 1, 0, 0, 1, 0, 0, 1, 0, 1, 0, 1, 0, 0]), .inBlock 2, .code (cd26 [1, 1, 0, 1, 0, 0, 1, 0, 0, 1, 0, 1, 1]), .inBlock 1, .code (cd26 [1, 1, 0, 1, 0, 0, 1, 1]), .inLoop (cd26 [1, 1, 0, 1, 0, 0]), .inBlock 0, .code (cd26 [1, 1, 1])]) (us := [(52, .int .i64 t74), (53, .int .i64 (IntKind.i64.wrap (t74 + 1))), (3, .int .i64 (IntKind.i64.wrap (t74 + 1))), (33, .int .i64 t75), (34, .int .i64 (IntKind.i64.wrap (t75 + 1))), (5, .int .i64 (IntKind.i64.wrap (t75 + 1)))]) (by kernel_rfl) ?_
         refine sx_run 1 (todo' := [.code (cd26 [1, 1, 0, 1, 0, 0, 1, 0, 0, 1, 0, 1, 0, 1, 0, 0]), .inLoop (cd26 [1, 1, 0, 1, 0, 0, 1, 0, 0, 1, 0, 1, 0, 1, 0, 0]), .inBlock 2, .code (cd26 [1, 1, 0, 1, 0, 0, 1, 0, 0, 1, 0, 1, 1]), .inBlock 1, .code (cd26 [1, 1, 0, 1, 0, 0, 1, 1]), .inLoop (cd26 [1, 1, 0, 1, 0, 0]), .inBlock 0, .code (cd26 [1, 1, 1])]) (us := []) (by kernel_rfl) ?_
         refine Runs.fill (m := [some (.slice Aa0 (setl t76 t74 (gt t76 (((t16.toNat : Nat) : Int) + t75))).length ca0), none, none, some (.int .i64 (IntKind.i64.wrap (t74 + 1))), some (.slice (vA Aa0 ca0 t16.toNat 49) (a0.length - t16.toNat) (ca0 - t16.toNat)), some (.int .i64 (IntKind.i64.wrap (t75 + 1))), none, none, none, none, none, none, none, none, none, none, none, none, none, none, none, none, none, none, none, none, none, none, none, none, none, none, none, none, none, none, none, none, none, none, none, none, none, none, none, none, none, none, none, none, none, none, none, none, none, none, none, none, none, none, none]) (by kernel_rfl) ?_
         exact ih83 (IntKind.i64.wrap (t74 + 1)) (IntKind.i64.wrap (t75 + 1)) (setl t76 t74 (gt t76 (((t16.toNat : Nat) : Int) + t75))) _ hp119 he81 _ _ hS125
        ·skip
         have hp126 := ite_f hp98 h106
         refine Qs.nil ?_
         intro w127 hS128
         refine sx_run 8 (todo' := [.inLoop (cd26 [1, 1, 0, 1, 0, 0, 1, 0, 0, 1, 0, 1, 0, 1, 0, 0]), .inBlock 2, .code (cd26 [1, 1, 0, 1, 0, 0, 1, 0, 0, 1, 0, 1, 1]), .inBlock 1, .code (cd26 [1, 1, 0, 1, 0, 0, 1, 1]), .inLoop (cd26 [1, 1, 0, 1, 0, 0]), .inBlock 0, .code (cd26 [1, 1, 1])]) (us := [(33, .int .i64 t75), (34, .int .i64 (IntKind.i64.wrap (t75 + 1))), (5, .int .i64 (IntKind.i64.wrap (t75 + 1)))]) (by kernel_rfl) ?_
         refine sx_run 1 (todo' := [.code (cd26 [1, 1, 0, 1, 0, 0, 1, 0, 0, 1, 0, 1, 0, 1, 0, 0]), .inLoop (cd26 [1, 1, 0, 1, 0, 0, 1, 0, 0, 1, 0, 1, 0, 1, 0, 0]), .inBlock 2, .code (cd26 [1, 1, 0, 1, 0, 0, 1, 0, 0, 1, 0, 1, 1]), .inBlock 1, .code (cd26 [1, 1, 0, 1, 0, 0, 1, 1]), .inLoop (cd26 [1, 1, 0, 1, 0, 0]), .inBlock 0, .code (cd26 [1, 1, 1])]) (us := []) (by kernel_rfl) ?_
         refine Runs.fill (m := [some (.slice Aa0 t76.length ca0), none, none, some (.int .i64 t74), some (.slice (vA Aa0 ca0 t16.toNat 49) (a0.length - t16.toNat) (ca0 - t16.toNat)), some (.int .i64 (IntKind.i64.wrap (t75 + 1))), none, none, none, none, none, none, none, none, none, none, none, none, none, none, none, none, none, none, none, none, none, none, none, none, none, none, none, none, none, none, none, none, none, none, none, none, none, none, none, none, none, none, none, none, none, none, none, none, none, none, none, none, none, none, none]) (by kernel_rfl) ?_
         exact ih83 t74 (IntKind.i64.wrap (t75 + 1)) t76 _ hp126 he81 _ _ hS128
       ·skip
        have hp129 := ite_f hb82 h87
        refine sx_run 3 (todo' := [.code (cd26 [1, 1, 0, 1, 0, 0, 1, 0, 0, 1, 0, 1, 1]), .inBlock 1, .code (cd26 [1, 1, 0, 1, 0, 0, 1, 1]), .inLoop (cd26 [1, 1, 0, 1, 0, 0]), .inBlock 0, .code (cd26 [1, 1, 1])]) (us := []) (by kernel_rfl) ?_
        refine Runs.fill (m := [some (.slice Aa0 t76.length ca0), none, none, some (.int .i64 t74), none, none, none, none, none, none, none, none, none, none, none, none, none, none, none, none, none, none, none, none, none, none, none, none, none, none, none, none, none, none, none, none, none, none, none, none, none, none, none, none, none, none, none, none, none, none, none, none, none, none, none, none, none, none, none, none, none]) (by kernel_rfl) ?_
        exact J56 t74 t76 ((Option.some.inj hp129).trans he81) _ _ hS78
      refine Runs.fill (m := [some (.slice Aa0 a0.length ca0), none, none, some (.int .i64 t16), some (.slice (vA Aa0 ca0 t16.toNat 49) (a0.length - t16.toNat) (ca0 - t16.toNat)), some (.int .i64 1), none, none, none, none, none, none, none, none, none, none, none, none, none, none, none, none, none, none, none, none, none, none, none, none, none, none, none, none, none, none, none, none, none, none, none, none, none, none, none, none, none, none, none, none, none, none, none, none, none, none, none, none, none, none, none]) (by kernel_rfl) ?_
      exact L85 t16 1 a0 _ hv50 rfl _ _ hS46
     ·skip
      have hp130 := ite_f hp37 h43
      refine Qs.nil ?_
      intro w131 hS132
      refine sx_run 8 (todo' := [.inLoop (cd26 [1, 1, 0, 1, 0, 0]), .inBlock 0, .code (cd26 [1, 1, 1])]) (us := [(14, .int .i64 t16), (15, .int .i64 (IntKind.i64.wrap (t16 + 1))), (3, .int .i64 (IntKind.i64.wrap (t16 + 1)))]) (by kernel_rfl) ?_
      refine sx_run 1 (todo' := [.code (cd26 [1, 1, 0, 1, 0, 0]), .inLoop (cd26 [1, 1, 0, 1, 0, 0]), .inBlock 0, .code (cd26 [1, 1, 1])]) (us := []) (by kernel_rfl) ?_
      refine Runs.fill (m := [some (.slice Aa0 a0.length ca0), none, none, some (.int .i64 (IntKind.i64.wrap (t16 + 1))), none, none, none, none, none, none, none, none, none, none, none, none, none, none, none, none, none, none, none, none, none, none, none, none, none, none, none, none, none, none, none, none, none, none, none, none, none, none, none, none, none, none, none, none, none, none, none, none, none, none, none, none, none, none, none, none, none]) (by kernel_rfl) ?_
      exact ih23 (IntKind.i64.wrap (t16 + 1)) _ hp130 he21 _ _ hS132
    ·skip
     have hp133 := ite_f hb22 h28
     refine sx_run 3 (todo' := [.code (cd26 [1, 1, 1])]) (us := []) (by kernel_rfl) ?_
     refine Runs.fill (m := [some (.slice Aa0 a0.length ca0), none, none, none, none, none, none, none, none, none, none, none, none, none, none, none, none, none, none, none, none, none, none, none, none, none, none, none, none, none, none, none, none, none, none, none, none, none, none, none, none, none, none, none, none, none, none, none, none, none, none, none, none, none, none, none, none, none, none, none, none]) (by kernel_rfl) ?_
     exact J12 ((Option.some.inj hp133).trans he21) _ _ hS18
   refine Runs.fill (m := [some (.slice Aa0 a0.length ca0), none, none, some (.int .i64 1), none, none, none, none, none, none, none, none, none, none, none, none, none, none, none, none, none, none, none, none, none, none, none, none, none, none, none, none, none, none, none, none, none, none, none, none, none, none, none, none, none, none, none, none, none, none, none, none, none, none, none, none, none, none, none, none, none]) (by kernel_rfl) ?_
   exact L25 1 _ hv7 rfl _ _ hS0

noncomputable def cd9 (p : List Nat) : Code := sub (bodyOf Tryd.f9) p
def state_Sort.l0 (a0 : List api_Final) (t29 : List api_Final) (t33 : Int) : Option (List api_Final) :=
  (if (decide (t33 < (a0.length : Int))) = true then (if 0 ≤ t33 ∧ t33 < (a0.length : Int) then (state_Check.f (gt a0 t33) >>= (fun t58 => (if (t58 == 0) = true then (if (t29.length + ([(gt a0 t33)] : List api_Final).length) * 392 ≤ 140737488355328 then (state_Sort.l0 a0 (t29 ++ ([(gt a0 t33)] : List api_Final)) (IntKind.i64.wrap (t33 + 1))) else none) else (state_Sort.l0 a0 t29 (IntKind.i64.wrap (t33 + 1)))))) else none) else some (t29))
 partial_fixpoint
def state_Sort.f (a0 : List api_Final) : Option (List api_Final) :=
  (state_Sort.l0 a0 [] 0 >>= (fun t4 => (if t4.length < 4611686018427387904 then (sortO state_Compare.f t4 >>= fun t15 => (slices_Compact___api_Final_api_Final.f t15 >>= (fun t20 => some (t20)))) else none)))
set_option maxHeartbeats 16000000 in
theorem state_Sort.ok (a0 : List api_Final) (Aa0 : Option Addr) (ca0 : Nat) {w0 : World} {Z : Zm} {fs : List XObj} {w : World} (hS0 : St w0 Z (fs) w) (ha0 : SlZ (flat enc_api_Final) 49 Z Aa0 ca0 a0) {q0 : List api_Final} (hp0 : state_Sort.f a0 = some q0) :
    Calls Tryd.prog 9 #[.slice Aa0 a0.length ca0] w (fun e w' => ∃ (QA0 : Option Addr) (Qc0 : Nat), e = .returned (.slice QA0 q0.length Qc0) ∧ St w0 Z (xrow QA0 Qc0 24 49 (q0.flatMap enc_api_Final) :: fs) w') := by
  refine calls_abs ?_; intro R hR
  unfold state_Sort.f at hp0
  refine calls_of_runs (fn := Tryd.f9) (c := cd9 []) Tryd.func9 (by kernel_rfl) (al := [.slice Aa0 a0.length ca0]) rfl (n := 23) rfl ?_
  refine sx_run 17 (todo' := [.code (cd9 [1, 1, 0, 1, 0, 0]), .inLoop (cd9 [1, 1, 0, 1, 0, 0]), .inBlock 0, .code (cd9 [1, 1, 1])]) (us := [(2, .slice none 0 0), (3, .slice none 0 0), (6, .slice Aa0 a0.length ca0), (7, .int .i64 (a0.length : Int)), (8, .int .i64 0)]) (by kernel_rfl) ?_
  obtain ⟨v1, hv2, hp3⟩ := bind_some' hp0
  have J10 : ∀ (t4 : List api_Final) (he12 : t4 = v1) (l11 : List Value) (A5 : Option Addr) (c6 : Nat) (w8 : World) (hS9 : St w0 Z (xrow A5 c6 24 49 (t4.flatMap enc_api_Final) :: fs) w8), Runs Tryd.prog 9 [.code (cd9 [1, 1, 1])] (fill [none, none, none, some (.slice A5 t4.length c6), none, none, none, none, none, none, none, none, none, none, none, none, none, none, none, none, none, none, none, none] l11) w8 R := by
   intro t4 he12 l11 A5 c6 w8 hS9
   subst he12
   try dsimp only at hp3
   refine sx_run 3 (todo' := [.inRegion (opsOf (cd9 [1, 1, 1, 0])) [1], .code (cd9 [1, 1, 1, 1])]) (us := [(20, .slice A5 t4.length c6)]) (by kernel_rfl) ?_
   obtain ⟨g13, hp14⟩ := ite_some hp3
   obtain ⟨t15, hr16, hp17⟩ := bind_some' hp14
   refine r_call1 (c := (cd9 [1, 1, 1, 0])) (i := 1) (d := (some 21)) (g := 25) (args := #[.slice A5 t4.length c6, .func (.func 8) #[] #[]]) (by kernel_rfl) (by kernel_rfl) (by kernel_rfl) (by kernel_rfl) (sort_calls0 (enc := enc_api_Final) (e := 24) (k := 49) (g := 8) (xs := t4) (ys := t15) (A := A5) (cp := c6) (cmp := state_Compare.f) sort25 (by kernel_rfl) (by kernel_rfl) len_api_Final one_api_Final (by omega) (enters_of Tryd.func8 (by kernel_rfl) rfl) hS9 (fun x y r W h => (state_Compare.ok x y (St.start0 W) h).mono fun e w' h => ⟨h.1, h.2.fr.with (h.2.dr trivial)⟩) g13 hr16) ?_
   rintro _ w18 ⟨rfl, hS19⟩
   refine ⟨.tuple #[], rfl, ?_⟩
   refine Runs.fill (m := [none, none, none, some (.slice A5 t4.length c6), none, none, none, none, none, none, none, none, none, none, none, none, none, none, none, none, some (.slice A5 t4.length c6), none, none, none]) (by kernel_rfl) ?_
   refine Runs.refill (m' := [none, none, none, some (.slice A5 t15.length c6), none, none, none, none, none, none, none, none, none, none, none, none, none, none, none, none, some (.slice A5 t15.length c6), none, none, none]) (by simp only [sortO_len hr16]) ?_
   refine sx_run 4 (todo' := [.inRegion (opsOf (cd9 [1, 1, 1, 1, 0])) [1, 2], .code (cd9 [1, 1, 1, 1, 1])]) (us := [(22, .slice A5 t15.length c6)]) (by kernel_rfl) ?_
   obtain ⟨t20, hr23, hp24⟩ := bind_some' hp17
   refine r_call1 (c := (cd9 [1, 1, 1, 1, 0])) (i := 1) (d := (some 23)) (g := 26) (args := #[.slice A5 t15.length c6]) (by kernel_rfl) (by kernel_rfl) (by kernel_rfl) (by kernel_rfl) (slices_Compact___api_Final_api_Final.ok t15 A5 c6 hS19 hr23) ?_
   rintro _ w26 ⟨Q21, Q22, rfl, hS27⟩
   refine ⟨.slice Q21 t20.length Q22, rfl, ?_⟩
   refine sx_run 2 (todo' := [.code (cd9 [1, 1, 1, 1, 1])]) (us := [(2, .slice Q21 t20.length Q22)]) (by kernel_rfl) ?_
   refine runs_ret (fn := Tryd.f9) (v := .slice Q21 t20.length Q22) Tryd.func9 (by kernel_rfl) ?_
   have hr28 := (Option.some.inj hp24)
   cases hr28
   exact hR _ _ ⟨Q21, Q22, rfl, hS27⟩
  have L42 : ∀ (t29 : List api_Final) (t33 : Int) (e37 : (List api_Final)), state_Sort.l0 a0 t29 t33 = some e37 → e37 = v1 → ∀ (l36 : List Value) (A30 : Option Addr) (c31 : Nat) (w34 : World) (hS35 : St w0 Z (xrow A30 c31 24 49 (t29.flatMap enc_api_Final) :: fs) w34), Runs Tryd.prog 9 [.code (cd9 [1, 1, 0, 1, 0, 0]), .inLoop (cd9 [1, 1, 0, 1, 0, 0]), .inBlock 0, .code (cd9 [1, 1, 1])] (fill [none, none, none, some (.slice A30 t29.length c31), none, none, some (.slice Aa0 a0.length ca0), some (.int .i64 (a0.length : Int)), some (.int .i64 t33), none, none, none, none, none, none, none, none, none, none, none, none, none, none, none] l36) w34 R := by
   refine state_Sort.l0.partial_correctness a0 (fun t29 t33 e37 => e37 = v1 → ∀ (l36 : List Value) (A30 : Option Addr) (c31 : Nat) (w34 : World) (hS35 : St w0 Z (xrow A30 c31 24 49 (t29.flatMap enc_api_Final) :: fs) w34), Runs Tryd.prog 9 [.code (cd9 [1, 1, 0, 1, 0, 0]), .inLoop (cd9 [1, 1, 0, 1, 0, 0]), .inBlock 0, .code (cd9 [1, 1, 1])] (fill [none, none, none, some (.slice A30 t29.length c31), none, none, some (.slice Aa0 a0.length ca0), some (.int .i64 (a0.length : Int)), some (.int .i64 t33), none, none, none, none, none, none, none, none, none, none, none, none, none, none, none] l36) w34 R) ?_
   intro rec41 ih40 t29 t33 e37 hb39 he38 l36 A30 c31 w34 hS35
   refine sx_split 3 (todo' := [.inRegion (opsOf (cd9 [1, 1, 0, 1, 0, 0, 0])) [], .code (cd9 [1, 1, 0, 1, 0, 0, 1]), .inLoop (cd9 [1, 1, 0, 1, 0, 0]), .inBlock 0, .code (cd9 [1, 1, 1])]) (us := []) (d := 9) (t := (decide (t33 < (a0.length : Int)))) (by kernel_rfl) (fun h43 => ?_) (fun h44 => ?_)
   ·skip
    have hp45 := ite_t hb39 h43
    refine sx_run 8 (todo' := [.inRegion (opsOf (cd9 [1, 1, 0, 1, 0, 0, 1, 1, 0, 0, 0])) [0, 1, 2, 3], .code (cd9 [1, 1, 0, 1, 0, 0, 1, 1, 0, 0, 1]), .inBlock 1, .code (cd9 [1, 1, 0, 1, 0, 0, 1, 1, 1]), .inLoop (cd9 [1, 1, 0, 1, 0, 0]), .inBlock 0, .code (cd9 [1, 1, 1])]) (us := []) (by kernel_rfl) ?_
    obtain ⟨g46, hp47⟩ := ite_some hp45
    obtain ⟨b48, p49, hA50, hc51⟩ := ha0.atF g46.1 g46.2
    refine r_indexAddr (c := (cd9 [1, 1, 0, 1, 0, 0, 1, 1, 0, 0, 0])) (i := 0) (d := (some 10)) (ty := 0) (t := 28) (e := 24) (n := a0.length) (cp := ca0) (sz := 49) (kk := .i64) (x := (.tmp 6)) (y := (.tmp 8)) (b := b48) (o' := p49) (j := t33) (by kernel_rfl) (by kernel_rfl) (slv (by kernel_rfl) hA50) (by kernel_rfl) (by kernel_rfl) (by kernel_rfl) g46.1 g46.2 ?_
    refine r_load (c := (cd9 [1, 1, 0, 1, 0, 0, 1, 1, 0, 0, 0])) (i := 1) (d := (some 11)) (ty := 24) (t := 24) (x := (.tmp 10)) (p := ⟨b48, p49 + t33.toNat * 49, none⟩) (v := .agg (enc_api_Final (gt a0 t33)).toArray) (by kernel_rfl) (by kernel_rfl) (by kernel_rfl) (loads_agg (hc51.cells hS35) (by kernel_rfl) (lenK (len_api_Final _) (by kernel_rfl))) ?_
    refine r_alloc (c := (cd9 [1, 1, 0, 1, 0, 0, 1, 1, 0, 0, 0])) (i := 2) (d := (some 5)) (ty := 0) (z := .agg (enc_api_Final (⟨0, (Vector.replicate 48 0)⟩ : api_Final)).toArray) (t := 24) (cs := enc_api_Final (⟨0, (Vector.replicate 48 0)⟩ : api_Final)) hS35 (by kernel_rfl) (by kernel_rfl) (by kernel_rfl) (by kernel_rfl) ?_
    intro b52 w53 hS54
    refine r_store (c := (cd9 [1, 1, 0, 1, 0, 0, 1, 1, 0, 0, 0])) (i := 3) (d := none) (ty := 0) (t := 24) (x := (.tmp 5)) (y := (.tmp 11)) (b := b52) (o := 0) (e := 24) (cs := enc_api_Final (⟨0, (Vector.replicate 48 0)⟩ : api_Final)) (v := .agg (enc_api_Final (gt a0 t33)).toArray) (vs := enc_api_Final (gt a0 t33)) (cs' := enc_api_Final (gt a0 t33)) hS54 (by kernel_rfl) (by kernel_rfl) (by kernel_rfl) (by kernel_rfl) (by kernel_rfl) (lenK (len_api_Final _) (by kernel_rfl)) (one_api_Final _) (by simp only [len_api_Final, List.length_cons, List.length_nil, List.length_append]; omega) (over_all ((len_api_Final _).trans (len_api_Final _).symm)) ?_
    intro w56 hS57
    refine sx_run 3 (todo' := [.inRegion (opsOf (cd9 [1, 1, 0, 1, 0, 0, 1, 1, 0, 0, 1, 0])) [0, 1, 2], .code (cd9 [1, 1, 0, 1, 0, 0, 1, 1, 0, 0, 1, 1]), .inBlock 1, .code (cd9 [1, 1, 0, 1, 0, 0, 1, 1, 1]), .inLoop (cd9 [1, 1, 0, 1, 0, 0]), .inBlock 0, .code (cd9 [1, 1, 1])]) (us := []) (by kernel_rfl) ?_
    refine r_load (c := (cd9 [1, 1, 0, 1, 0, 0, 1, 1, 0, 0, 1, 0])) (i := 0) (d := (some 12)) (ty := 24) (t := 24) (x := (.tmp 5)) (p := ⟨b52, 0, none⟩) (v := .agg (enc_api_Final (gt a0 t33)).toArray) (by kernel_rfl) (by kernel_rfl) (by kernel_rfl) (loads_agg (hS57.blk 0 rfl) (by kernel_rfl) (lenK (len_api_Final _) (by kernel_rfl))) ?_
    obtain ⟨t58, hr59, hp60⟩ := bind_some' hp47
    refine r_call1 (c := (cd9 [1, 1, 0, 1, 0, 0, 1, 1, 0, 0, 1, 0])) (i := 1) (d := (some 13)) (g := 16) (args := #[.agg (enc_api_Final (gt a0 t33)).toArray]) (by kernel_rfl) (by kernel_rfl) (by kernel_rfl) (by kernel_rfl) (state_Check.ok (gt a0 t33) hS57 hr59) ?_
    rintro _ w61 ⟨rfl, hS62⟩
    refine ⟨.int .i64 t58, rfl, ?_⟩
    refine sx_split 1 (todo' := [.inRegion (opsOf (cd9 [1, 1, 0, 1, 0, 0, 1, 1, 0, 0, 1, 0])) [], .code (cd9 [1, 1, 0, 1, 0, 0, 1, 1, 0, 0, 1, 1]), .inBlock 1, .code (cd9 [1, 1, 0, 1, 0, 0, 1, 1, 1]), .inLoop (cd9 [1, 1, 0, 1, 0, 0]), .inBlock 0, .code (cd9 [1, 1, 1])]) (us := []) (d := 14) (t := (t58 == 0)) (by kernel_rfl) (fun h63 => ?_) (fun h64 => ?_)
    ·skip
     have hp65 := ite_t hp60 h63
     refine sx_run 4 (todo' := [.inRegion (opsOf (cd9 [1, 1, 0, 1, 0, 0, 1, 1, 0, 0, 1, 1, 0])) [1, 2, 3, 4], .inBlock 1, .code (cd9 [1, 1, 0, 1, 0, 0, 1, 1, 1]), .inLoop (cd9 [1, 1, 0, 1, 0, 0]), .inBlock 0, .code (cd9 [1, 1, 1])]) (us := [(15, .slice A30 t29.length c31)]) (by kernel_rfl) ?_
     refine r_load (c := (cd9 [1, 1, 0, 1, 0, 0, 1, 1, 0, 0, 1, 1, 0])) (i := 1) (d := (some 16)) (ty := 24) (t := 24) (x := (.tmp 5)) (p := ⟨b52, 0, none⟩) (v := .agg (enc_api_Final (gt a0 t33)).toArray) (by kernel_rfl) (by kernel_rfl) (by kernel_rfl) (loads_agg (hS62.blk 0 rfl) (by kernel_rfl) (lenK (len_api_Final _) (by kernel_rfl))) ?_
     refine r_lit (c := (cd9 [1, 1, 0, 1, 0, 0, 1, 1, 0, 0, 1, 1, 0])) (i := 2) (d := (some 17)) (ty := 28) (t := 28) (e := 24) (sz := 49) (n := 1) (parts := #[(0, (.tmp 16))]) (vs := [(0, .agg (enc_api_Final (gt a0 t33)).toArray)]) (z := zeroOf Tryd.prog 24) (cs' := ([(gt a0 t33)] : List api_Final).flatMap enc_api_Final) hS62 (by kernel_rfl) (by kernel_rfl) (by kernel_rfl) (by kernel_rfl) (by kernel_rfl) (by decide) (by decide) (by kernel_rfl) rfl (Parts.cons (c := enc_api_Final (gt a0 t33)) (by kernel_rfl) (len_api_Final _) Parts.nil) rfl ?_
     intro b67 w68 hS69
     have hS70 := hS69.pick2
     obtain ⟨g71, hp72⟩ := ite_some hp65
     refine r_append (c := (cd9 [1, 1, 0, 1, 0, 0, 1, 1, 0, 0, 1, 1, 0])) (i := 3) (d := (some 18)) (ty := 28) (enc := enc_api_Final) (e := 24) (u := 24) (t := 28) (t2 := 28) (sz := 49) (cp := c31) (A := A30) (bytes := 392) (xs := t29) (ys := ([(gt a0 t33)] : List api_Final)) (s := (.tmp 15)) (x := (.tmp 17)) (xv := .slice (some ⟨b67, 0, none⟩) ([(gt a0 t33)] : List api_Final).length 1) (info := infoOf Tryd.prog 24) (z := zeroOf Tryd.prog 24) (ycs := ([(gt a0 t33)] : List api_Final).flatMap enc_api_Final) hS70 (by kernel_rfl) (by kernel_rfl) (by kernel_rfl) (by kernel_rfl) (by kernel_rfl) (.inl (by kernel_rfl)) (by kernel_rfl) (by kernel_rfl) (by kernel_rfl) (by kernel_rfl) (by kernel_rfl) (by omega) len_api_Final one_api_Final (src_row (hS70.row 1 rfl) (by omega) len_api_Final) rfl g71 (by omega) ?_
     intro A73 c74 w75 hS76
     refine sx_run 7 (todo' := [.inLoop (cd9 [1, 1, 0, 1, 0, 0]), .inBlock 0, .code (cd9 [1, 1, 1])]) (us := [(3, .slice A73 (t29 ++ ([(gt a0 t33)] : List api_Final)).length c74), (19, .int .i64 (IntKind.i64.wrap (t33 + 1))), (8, .int .i64 (IntKind.i64.wrap (t33 + 1)))]) (by kernel_rfl) ?_
     have hS78 := hS76.pick1
     have hS79 := hS78.drop
     have hS80 := hS79.pick1
     have hS81 := hS80.drop
     refine sx_run 1 (todo' := [.code (cd9 [1, 1, 0, 1, 0, 0]), .inLoop (cd9 [1, 1, 0, 1, 0, 0]), .inBlock 0, .code (cd9 [1, 1, 1])]) (us := []) (by kernel_rfl) ?_
     refine Runs.fill (m := [none, none, none, some (.slice A73 (t29 ++ ([(gt a0 t33)] : List api_Final)).length c74), none, none, some (.slice Aa0 a0.length ca0), some (.int .i64 (a0.length : Int)), some (.int .i64 (IntKind.i64.wrap (t33 + 1))), none, none, none, none, none, none, none, none, none, none, none, none, none, none, none]) (by kernel_rfl) ?_
     exact ih40 (t29 ++ ([(gt a0 t33)] : List api_Final)) (IntKind.i64.wrap (t33 + 1)) _ hp72 he38 _ A73 c74 _ hS81
    ·skip
     have hp82 := ite_f hp60 h64
     refine sx_run 8 (todo' := [.inLoop (cd9 [1, 1, 0, 1, 0, 0]), .inBlock 0, .code (cd9 [1, 1, 1])]) (us := [(19, .int .i64 (IntKind.i64.wrap (t33 + 1))), (8, .int .i64 (IntKind.i64.wrap (t33 + 1)))]) (by kernel_rfl) ?_
     have hS83 := hS62.drop
     refine sx_run 1 (todo' := [.code (cd9 [1, 1, 0, 1, 0, 0]), .inLoop (cd9 [1, 1, 0, 1, 0, 0]), .inBlock 0, .code (cd9 [1, 1, 1])]) (us := []) (by kernel_rfl) ?_
     refine Runs.fill (m := [none, none, none, some (.slice A30 t29.length c31), none, none, some (.slice Aa0 a0.length ca0), some (.int .i64 (a0.length : Int)), some (.int .i64 (IntKind.i64.wrap (t33 + 1))), none, none, none, none, none, none, none, none, none, none, none, none, none, none, none]) (by kernel_rfl) ?_
     exact ih40 t29 (IntKind.i64.wrap (t33 + 1)) _ hp82 he38 _ A30 c31 _ hS83
   ·skip
    have hp84 := ite_f hb39 h44
    refine sx_run 4 (todo' := [.code (cd9 [1, 1, 1])]) (us := []) (by kernel_rfl) ?_
    refine Runs.fill (m := [none, none, none, some (.slice A30 t29.length c31), none, none, none, none, none, none, none, none, none, none, none, none, none, none, none, none, none, none, none, none]) (by kernel_rfl) ?_
    exact J10 t29 ((Option.some.inj hp84).trans he38) _ A30 c31 _ hS35
  have hS86 := hS0.nilrow none 24 49
  refine Runs.fill (m := [none, none, none, some (.slice none 0 0), none, none, some (.slice Aa0 a0.length ca0), some (.int .i64 (a0.length : Int)), some (.int .i64 0), none, none, none, none, none, none, none, none, none, none, none, none, none, none, none]) (by kernel_rfl) ?_
  exact L42 [] 0 _ hv2 rfl _ none 0 _ hS86

noncomputable def cd37 (p : List Nat) : Code := sub (bodyOf Tryd.f37) p
def word_Text.f (a0 : Int) : Option ByteArray :=
  (strconv_FormatInt.f a0 10 >>= (fun t1 => some (t1)))
set_option maxHeartbeats 16000000 in
theorem word_Text.ok (a0 : Int) {w0 : World} {Z : Zm} {fs : List XObj} {w : World} (hS0 : St w0 Z (fs) w) (hE : Env Z) {q0 : ByteArray} (hp0 : word_Text.f a0 = some q0) :
    Calls Tryd.prog 37 #[.int .i64 a0] w (fun e w' => e = .returned (.string q0) ∧ St w0 Z (fs) w') := by
  refine calls_abs ?_; intro R hR
  unfold word_Text.f at hp0
  refine calls_of_runs (fn := Tryd.f37) (c := cd37 []) Tryd.func37 (by kernel_rfl) (al := [.int .i64 a0]) rfl (n := 4) rfl ?_
  refine sx_run 7 (todo' := [.inRegion (opsOf (cd37 [1, 0])) [1, 2], .code (cd37 [1, 1])]) (us := [(2, .string (⟨#[]⟩ : ByteArray)), (3, .int .i64 a0)]) (by kernel_rfl) ?_
  obtain ⟨t1, hr2, hp3⟩ := bind_some' hp0
  refine r_call1 (c := (cd37 [1, 0])) (i := 1) (d := (some 4)) (g := 44) (args := #[.int .i64 a0, .int .i64 10]) (by kernel_rfl) (by kernel_rfl) (by kernel_rfl) (by kernel_rfl) (strconv_FormatInt.ok a0 10 hS0 hE hr2) ?_
  rintro _ w4 ⟨rfl, hS5⟩
  refine ⟨.string t1, rfl, ?_⟩
  refine sx_run 2 (todo' := [.code (cd37 [1, 1])]) (us := [(2, .string t1)]) (by kernel_rfl) ?_
  refine runs_ret (fn := Tryd.f37) (v := .string t1) Tryd.func37 (by kernel_rfl) ?_
  have hr6 := (Option.some.inj hp3)
  cases hr6
  exact hR _ _ ⟨rfl, hS5⟩

noncomputable def cd23 (p : List Nat) : Code := sub (bodyOf Tryd.f23) p
def state_Text.l0 (a0 : api_Final) (a1 : List api_Ref) (t47 : List ByteArray) (t51 : Int) : Option (List ByteArray) :=
  (if (decide (t51 < (a1.length : Int))) = true then (if 0 ≤ t51 ∧ t51 < (a1.length : Int) then (if ((gt a1 t51).Name).size + (⟨#[61]⟩ : ByteArray).size ≤ 9223372036854775807 then (if 0 ≤ t51 ∧ t51 < 48 then (word_Text.f (vget a0.V t51) >>= (fun t80 => (if (((gt a1 t51).Name) ++ (⟨#[61]⟩ : ByteArray)).size + t80.size ≤ 9223372036854775807 then (if ((((gt a1 t51).Name) ++ (⟨#[61]⟩ : ByteArray)) ++ t80).size + (⟨#[59]⟩ : ByteArray).size ≤ 9223372036854775807 then (((if (((gt a1 t51).Thread) != (-1)) = true then (strconv_Itoa.f ((gt a1 t51).Thread) >>= (fun t119 => (if t119.size + (⟨#[58]⟩ : ByteArray).size ≤ 9223372036854775807 then (if (t119 ++ (⟨#[58]⟩ : ByteArray)).size + (((((gt a1 t51).Name) ++ (⟨#[61]⟩ : ByteArray)) ++ t80) ++ (⟨#[59]⟩ : ByteArray)).size ≤ 9223372036854775807 then some (((t119 ++ (⟨#[58]⟩ : ByteArray)) ++ (((((gt a1 t51).Name) ++ (⟨#[61]⟩ : ByteArray)) ++ t80) ++ (⟨#[59]⟩ : ByteArray)))) else none) else none))) else some ((((((gt a1 t51).Name) ++ (⟨#[61]⟩ : ByteArray)) ++ t80) ++ (⟨#[59]⟩ : ByteArray)))) : Option ByteArray) >>= (fun t95 => (if (t47.length + ([t95] : List ByteArray).length) * 16 ≤ 140737488355328 then (state_Text.l0 a0 a1 (t47 ++ ([t95] : List ByteArray)) (IntKind.i64.wrap (t51 + 1))) else none))) else none) else none))) else none) else none) else none) else some (t47))
 partial_fixpoint
def state_Text.f (a0 : api_Final) (a1 : List api_Ref) : Option (ByteArray × Int) :=
  (state_Check.f a0 >>= (fun t5 => (if (t5 != 0) = true then some (((⟨#[]⟩ : ByteArray), 4)) else (if ((a1.length : Int) != a0.N) = true then some (((⟨#[]⟩ : ByteArray), 4)) else (state_Text.l0 a0 a1 [] 0 >>= (fun t25 => (strings_Join.f t25 (⟨#[32]⟩ : ByteArray) >>= (fun t34 => some ((t34, 0))))))))))
set_option maxHeartbeats 16000000 in
theorem state_Text.ok (a0 : api_Final) (a1 : List api_Ref) (Aa1 : Option Addr) (ca1 : Nat) {w0 : World} {Z : Zm} {fs : List XObj} {w : World} (hS0 : St w0 Z (fs) w) (ha1 : SlZ (flat enc_api_Ref) 2 Z Aa1 ca1 a1) (hE : Env Z) {q0 : ByteArray} {q1 : Int} (hp0 : state_Text.f a0 a1 = some (q0, q1)) :
    Calls Tryd.prog 23 #[.agg (enc_api_Final a0).toArray, .slice Aa1 a1.length ca1] w (fun e w' => e = .returned (.tuple #[.string q0, .int .i64 q1]) ∧ St w0 Z (fs) w') := by
  refine calls_abs ?_; intro R hR
  unfold state_Text.f at hp0
  refine calls_of_runs (fn := Tryd.f23) (c := cd23 []) Tryd.func23 (by kernel_rfl) (al := [.agg (enc_api_Final a0).toArray, .slice Aa1 a1.length ca1]) rfl (n := 51) rfl ?_
  refine sx_run 2 (todo' := [.inRegion (opsOf (cd23 [0])) [0, 1, 2], .code (cd23 [1])]) (us := []) (by kernel_rfl) ?_
  refine r_box (c := (cd23 [0])) (i := 0) (d := (some 2)) (ty := 0) (x := (.tmp 0)) (v := .agg (enc_api_Final a0).toArray) (t := 24) (cs := enc_api_Final a0) hS0 (by kernel_rfl) (by kernel_rfl) (by kernel_rfl) (by kernel_rfl) ?_
  intro b1 w2 hS3
  refine sx_run 6 (todo' := [.inRegion (opsOf (cd23 [1, 0, 0])) [0, 1, 2, 3, 4, 5, 6, 7, 8, 9], .code (cd23 [1, 0, 1]), .code (cd23 [1, 1])]) (us := [(4, .string (⟨#[]⟩ : ByteArray)), (5, .int .i64 0)]) (by kernel_rfl) ?_
  refine r_load (c := (cd23 [1, 0, 0])) (i := 0) (d := (some 10)) (ty := 24) (t := 24) (x := (.tmp 2)) (p := ⟨b1, 0, none⟩) (v := .agg (enc_api_Final a0).toArray) (by kernel_rfl) (by kernel_rfl) (by kernel_rfl) (loads_agg (hS3.blk 0 rfl) (by kernel_rfl) (lenK (len_api_Final _) (by kernel_rfl))) ?_
  obtain ⟨t5, hr6, hp7⟩ := bind_some' hp0
  refine r_call1 (c := (cd23 [1, 0, 0])) (i := 1) (d := (some 11)) (g := 16) (args := #[.agg (enc_api_Final a0).toArray]) (by kernel_rfl) (by kernel_rfl) (by kernel_rfl) (by kernel_rfl) (state_Check.ok a0 hS3 hr6) ?_
  rintro _ w8 ⟨rfl, hS9⟩
  refine ⟨.int .i64 t5, rfl, ?_⟩
  refine sx_split 1 (todo' := [.inRegion (opsOf (cd23 [1, 0, 0])) [3, 4, 5, 6, 7, 8, 9], .code (cd23 [1, 0, 1]), .code (cd23 [1, 1])]) (us := []) (d := 12) (t := (t5 != 0)) (by kernel_rfl) (fun h10 => ?_) (fun h11 => ?_)
  ·skip
   have hp12 := ite_t hp7 h10
   refine sx_run 14 (todo' := [.code (cd23 [1, 0, 1, 0, 1]), .code (cd23 [1, 1])]) (us := [(13, .bool true), (14, undef), (15, undef), (16, undef), (17, undef), (18, undef), (19, .bool true), (4, .string (⟨#[]⟩ : ByteArray)), (5, .int .i64 4)]) (by kernel_rfl) ?_
   have hS13 := hS9.drop
   refine runs_ret (fn := Tryd.f23) (v := .tuple #[.string (⟨#[]⟩ : ByteArray), .int .i64 4]) Tryd.func23 (by kernel_rfl) ?_
   have hr14 := (Option.some.inj hp12)
   cases hr14
   exact hR _ _ ⟨rfl, hS13⟩
  ·skip
   have hp15 := ite_f hp7 h11
   refine sx_run 4 (todo' := [.inRegion (opsOf (cd23 [1, 0, 0])) [7, 8, 9], .code (cd23 [1, 0, 1]), .code (cd23 [1, 1])]) (us := [(13, .bool false), (14, .slice Aa1 a1.length ca1), (15, .int .i64 (a1.length : Int)), (16, .pointer (some ⟨b1, 0, none⟩))]) (by kernel_rfl) ?_
   refine r_load (c := (cd23 [1, 0, 0])) (i := 7) (d := (some 17)) (ty := 3) (t := 3) (x := (.tmp 16)) (p := ⟨b1, 0, none⟩) (v := .int .i64 a0.N) (by kernel_rfl) (by kernel_rfl) (by kernel_rfl) (loads_at 0 (hS9.blk 0 rfl) (by kernel_rfl) (by kernel_rfl)) ?_
   refine sx_split 1 (todo' := [.inRegion (opsOf (cd23 [1, 0, 0])) [9], .code (cd23 [1, 0, 1]), .code (cd23 [1, 1])]) (us := []) (d := 18) (t := ((a1.length : Int) != a0.N)) (by kernel_rfl) (fun h16 => ?_) (fun h17 => ?_)
   ·skip
    have hp18 := ite_t hp15 h16
    refine sx_run 8 (todo' := [.code (cd23 [1, 0, 1, 0, 1]), .code (cd23 [1, 1])]) (us := [(19, .bool true), (4, .string (⟨#[]⟩ : ByteArray)), (5, .int .i64 4)]) (by kernel_rfl) ?_
    have hS19 := hS9.drop
    refine runs_ret (fn := Tryd.f23) (v := .tuple #[.string (⟨#[]⟩ : ByteArray), .int .i64 4]) Tryd.func23 (by kernel_rfl) ?_
    have hr20 := (Option.some.inj hp18)
    cases hr20
    exact hR _ _ ⟨rfl, hS19⟩
   ·skip
    have hp21 := ite_f hp15 h17
    refine sx_run 17 (todo' := [.code (cd23 [1, 1, 1, 0, 1, 0, 0]), .inLoop (cd23 [1, 1, 1, 0, 1, 0, 0]), .inBlock 0, .code (cd23 [1, 1, 1, 1])]) (us := [(19, .bool false), (6, .slice none 0 0), (20, .slice Aa1 a1.length ca1), (21, .int .i64 (a1.length : Int)), (22, .int .i64 0)]) (by kernel_rfl) ?_
    obtain ⟨v22, hv23, hp24⟩ := bind_some' hp21
    have J31 : ∀ (t25 : List ByteArray) (he33 : t25 = v22) (l32 : List Value) (A26 : Option Addr) (c27 : Nat) (w29 : World) (hS30 : St w0 Z (xrow A26 c27 9 1 (t25.flatMap encS) :: fs) w29), Runs Tryd.prog 23 [.code (cd23 [1, 1, 1, 1])] (fill [none, none, none, none, none, none, some (.slice A26 t25.length c27), none, none, none, none, none, none, none, none, none, none, none, none, none, none, none, none, none, none, none, none, none, none, none, none, none, none, none, none, none, none, none, none, none, none, none, none, none, none, none, none, none, none, none, none, none, none] l32) w29 R := by
     intro t25 he33 l32 A26 c27 w29 hS30
     subst he33
     try dsimp only at hp24
     refine sx_run 3 (todo' := [.inRegion (opsOf (cd23 [1, 1, 1, 1, 0])) [1, 2, 3], .code (cd23 [1, 1, 1, 1, 1])]) (us := [(51, .slice A26 t25.length c27)]) (by kernel_rfl) ?_
     obtain ⟨t34, hr35, hp36⟩ := bind_some' hp24
     obtain ⟨Z37, hz38, hS39, hs40, hb41⟩ := hS30.lendrow len_encS (by omega)
     refine r_call1 (c := (cd23 [1, 1, 1, 1, 0])) (i := 1) (d := (some 52)) (g := 39) (args := #[.slice A26 t25.length c27, .string (⟨#[32]⟩ : ByteArray)]) (by kernel_rfl) (by kernel_rfl) (by kernel_rfl) (by kernel_rfl) (strings_Join.ok t25 (⟨#[32]⟩ : ByteArray) A26 c27 hS39 hs40 (hE.up hz38) hr35) ?_
     rintro _ w42 ⟨rfl, hS43⟩
     refine ⟨.string t34, rfl, ?_⟩
     have hS44 := hb41 _ _ hS43
     refine sx_run 3 (todo' := [.code (cd23 [1, 1, 1, 1, 1])]) (us := [(4, .string t34), (5, .int .i64 0)]) (by kernel_rfl) ?_
     have hS45 := hS44.drop
     refine runs_ret (fn := Tryd.f23) (v := .tuple #[.string t34, .int .i64 0]) Tryd.func23 (by kernel_rfl) ?_
     have hr46 := (Option.some.inj hp36)
     cases hr46
     exact hR _ _ ⟨rfl, hS45⟩
    have L60 : ∀ (t47 : List ByteArray) (t51 : Int) (e55 : (List ByteArray)), state_Text.l0 a0 a1 t47 t51 = some e55 → e55 = v22 → ∀ (l54 : List Value) (A48 : Option Addr) (c49 : Nat) (w52 : World) (hS53 : St w0 Z (xblk b1 24 (enc_api_Final a0) :: xrow A48 c49 9 1 (t47.flatMap encS) :: fs) w52), Runs Tryd.prog 23 [.code (cd23 [1, 1, 1, 0, 1, 0, 0]), .inLoop (cd23 [1, 1, 1, 0, 1, 0, 0]), .inBlock 0, .code (cd23 [1, 1, 1, 1])] (fill [none, none, some (.pointer (some ⟨b1, 0, none⟩)), none, none, none, some (.slice A48 t47.length c49), none, none, none, none, none, none, none, none, none, none, none, none, none, some (.slice Aa1 a1.length ca1), some (.int .i64 (a1.length : Int)), some (.int .i64 t51), none, none, none, none, none, none, none, none, none, none, none, none, none, none, none, none, none, none, none, none, none, none, none, none, none, none, none, none, none, none] l54) w52 R := by
     refine state_Text.l0.partial_correctness a0 a1 (fun t47 t51 e55 => e55 = v22 → ∀ (l54 : List Value) (A48 : Option Addr) (c49 : Nat) (w52 : World) (hS53 : St w0 Z (xblk b1 24 (enc_api_Final a0) :: xrow A48 c49 9 1 (t47.flatMap encS) :: fs) w52), Runs Tryd.prog 23 [.code (cd23 [1, 1, 1, 0, 1, 0, 0]), .inLoop (cd23 [1, 1, 1, 0, 1, 0, 0]), .inBlock 0, .code (cd23 [1, 1, 1, 1])] (fill [none, none, some (.pointer (some ⟨b1, 0, none⟩)), none, none, none, some (.slice A48 t47.length c49), none, none, none, none, none, none, none, none, none, none, none, none, none, some (.slice Aa1 a1.length ca1), some (.int .i64 (a1.length : Int)), some (.int .i64 t51), none, none, none, none, none, none, none, none, none, none, none, none, none, none, none, none, none, none, none, none, none, none, none, none, none, none, none, none, none, none] l54) w52 R) ?_
     intro rec59 ih58 t47 t51 e55 hb57 he56 l54 A48 c49 w52 hS53
     refine sx_split 3 (todo' := [.inRegion (opsOf (cd23 [1, 1, 1, 0, 1, 0, 0, 0])) [], .code (cd23 [1, 1, 1, 0, 1, 0, 0, 1]), .inLoop (cd23 [1, 1, 1, 0, 1, 0, 0]), .inBlock 0, .code (cd23 [1, 1, 1, 1])]) (us := []) (d := 23) (t := (decide (t51 < (a1.length : Int)))) (by kernel_rfl) (fun h61 => ?_) (fun h62 => ?_)
     ·skip
      have hp63 := ite_t hb57 h61
      refine sx_run 9 (todo' := [.inRegion (opsOf (cd23 [1, 1, 1, 0, 1, 0, 0, 1, 1, 0, 0, 0])) [1, 2, 3, 4, 5], .code (cd23 [1, 1, 1, 0, 1, 0, 0, 1, 1, 0, 0, 1]), .inBlock 1, .code (cd23 [1, 1, 1, 0, 1, 0, 0, 1, 1, 1]), .inLoop (cd23 [1, 1, 1, 0, 1, 0, 0]), .inBlock 0, .code (cd23 [1, 1, 1, 1])]) (us := [(24, .int .i64 t51)]) (by kernel_rfl) ?_
      obtain ⟨g64, hp65⟩ := ite_some hp63
      obtain ⟨b66, p67, hA68, hc69⟩ := ha1.atF g64.1 g64.2
      refine r_indexAddr (c := (cd23 [1, 1, 1, 0, 1, 0, 0, 1, 1, 0, 0, 0])) (i := 1) (d := (some 25)) (ty := 0) (t := 52) (e := 51) (n := a1.length) (cp := ca1) (sz := 2) (kk := .i64) (x := (.tmp 20)) (y := (.tmp 22)) (b := b66) (o' := p67) (j := t51) (by kernel_rfl) (by kernel_rfl) (slv (by kernel_rfl) hA68) (by kernel_rfl) (by kernel_rfl) (by kernel_rfl) g64.1 g64.2 ?_
      refine r_load (c := (cd23 [1, 1, 1, 0, 1, 0, 0, 1, 1, 0, 0, 0])) (i := 2) (d := (some 26)) (ty := 51) (t := 51) (x := (.tmp 25)) (p := ⟨b66, p67 + t51.toNat * 2, none⟩) (v := .agg (enc_api_Ref (gt a1 t51)).toArray) (by kernel_rfl) (by kernel_rfl) (by kernel_rfl) (loads_agg (hc69.cells hS53) (by kernel_rfl) (by kernel_rfl)) ?_
      refine r_alloc (c := (cd23 [1, 1, 1, 0, 1, 0, 0, 1, 1, 0, 0, 0])) (i := 3) (d := (some 8)) (ty := 0) (z := .agg (enc_api_Ref (⟨0, (⟨#[]⟩ : ByteArray)⟩ : api_Ref)).toArray) (t := 51) (cs := enc_api_Ref (⟨0, (⟨#[]⟩ : ByteArray)⟩ : api_Ref)) hS53 (by kernel_rfl) (by kernel_rfl) (by kernel_rfl) (by kernel_rfl) ?_
      intro b70 w71 hS72
      refine sx_run 1 (todo' := [.inRegion (opsOf (cd23 [1, 1, 1, 0, 1, 0, 0, 1, 1, 0, 0, 0])) [5], .code (cd23 [1, 1, 1, 0, 1, 0, 0, 1, 1, 0, 0, 1]), .inBlock 1, .code (cd23 [1, 1, 1, 0, 1, 0, 0, 1, 1, 1]), .inLoop (cd23 [1, 1, 1, 0, 1, 0, 0]), .inBlock 0, .code (cd23 [1, 1, 1, 1])]) (us := [(7, .int .i64 t51)]) (by kernel_rfl) ?_
      refine r_store (c := (cd23 [1, 1, 1, 0, 1, 0, 0, 1, 1, 0, 0, 0])) (i := 5) (d := none) (ty := 0) (t := 51) (x := (.tmp 8)) (y := (.tmp 26)) (b := b70) (o := 0) (e := 51) (cs := enc_api_Ref (⟨0, (⟨#[]⟩ : ByteArray)⟩ : api_Ref)) (v := .agg (enc_api_Ref (gt a1 t51)).toArray) (vs := enc_api_Ref (gt a1 t51)) (cs' := enc_api_Ref (gt a1 t51)) hS72 (by kernel_rfl) (by kernel_rfl) (by kernel_rfl) (by kernel_rfl) (by kernel_rfl) (by kernel_rfl) (one_api_Ref _) (Nat.le_of_ble_eq_true (by kernel_rfl)) (by kernel_rfl) ?_
      intro w74 hS75
      refine sx_run 2 (todo' := [.code (cd23 [1, 1, 1, 0, 1, 0, 0, 1, 1, 0, 0, 1, 0]), .code (cd23 [1, 1, 1, 0, 1, 0, 0, 1, 1, 0, 0, 1, 1]), .inBlock 1, .code (cd23 [1, 1, 1, 0, 1, 0, 0, 1, 1, 1]), .inLoop (cd23 [1, 1, 1, 0, 1, 0, 0]), .inBlock 0, .code (cd23 [1, 1, 1, 1])]) (us := []) (by kernel_rfl) ?_
      refine r_quiet hS75 (c := (cd23 [1, 1, 1, 0, 1, 0, 0, 1, 1, 0, 0, 1, 0])) (id := 7) (by kernel_rfl) (by kernel_rfl) (by kernel_rfl) (is := [0, 1, 2, 3, 4, 5, 6, 7, 8, 9, 10]) (by kernel_rfl) ?_
      refine q_run 1 (is' := [1, 2, 3, 4, 5, 6, 7, 8, 9, 10]) (us := [(27, .pointer (some ⟨b70, 1, none⟩))]) (by kernel_rfl) ?_
      refine q_load (c := (cd23 [1, 1, 1, 0, 1, 0, 0, 1, 1, 0, 0, 1, 0])) (i := 1) (d := (some 28)) (ty := 9) (t := 9) (x := (.tmp 27)) (p := ⟨b70, 1, none⟩) (v := .string ((gt a1 t51).Name)) (by kernel_rfl) (by kernel_rfl) (by kernel_rfl) (fun w hC => (loads_at 1 (hC.blk 0 rfl) (by kernel_rfl) (by kernel_rfl))) ?_
      obtain ⟨g76, hp77⟩ := ite_some hp65
      refine q_val (c := (cd23 [1, 1, 1, 0, 1, 0, 0, 1, 1, 0, 0, 1, 0])) (i := 2) (d := (some 29)) (ty := 9) (op := .binOp .add 9 (.tmp 28) (.const (.string (⟨#[61]⟩ : ByteArray))) 9) (v := .string (((gt a1 t51).Name) ++ (⟨#[61]⟩ : ByteArray))) (by kernel_rfl) (by kernel_rfl) (fun w hC o ho _ => x_concat (by kernel_rfl) (by kernel_rfl) g76 ho) ?_
      refine q_run 2 (is' := [5, 6, 7, 8, 9, 10]) (us := [(30, .int .i64 t51), (31, .pointer (some ⟨b1, 1, none⟩))]) (by kernel_rfl) ?_
      obtain ⟨g78, hp79⟩ := ite_some hp77
      refine q_indexArr (c := (cd23 [1, 1, 1, 0, 1, 0, 0, 1, 1, 0, 0, 1, 0])) (i := 5) (d := (some 32)) (ty := 0) (t := 22) (e := 2) (sz := 1) (kk := .i64) (x := (.tmp 31)) (y := (.tmp 30)) (b := b1) (o' := 1) (n := 48) (j := t51) (by kernel_rfl) (by kernel_rfl) (by kernel_rfl) (by kernel_rfl) (by kernel_rfl) (by kernel_rfl) g78.1 g78.2 ?_
      refine q_load (c := (cd23 [1, 1, 1, 0, 1, 0, 0, 1, 1, 0, 0, 1, 0])) (i := 6) (d := (some 33)) (ty := 2) (t := 2) (x := (.tmp 32)) (p := ⟨b1, 1 + t51.toNat * 1, none⟩) (v := .int .i64 (vget a0.V t51)) (by kernel_rfl) (by kernel_rfl) (by kernel_rfl) (fun w hC => (loads_at 0 (cells_vget (sub_api_Final_V (hC.blk 1 rfl)) (len_encI .i64) g78.1 g78.2) (by kernel_rfl) (by kernel_rfl))) ?_
      obtain ⟨t80, hr81, hp82⟩ := bind_some' hp79
      refine q_call1 (c := (cd23 [1, 1, 1, 0, 1, 0, 0, 1, 1, 0, 0, 1, 0])) (i := 7) (d := (some 34)) (v := .string t80) (g := 37) (args := #[.int .i64 (vget a0.V t51)]) (by kernel_rfl) (by kernel_rfl) (by kernel_rfl) (by kernel_rfl) (fun w hC => by
       refine (word_Text.ok (vget a0.V t51) hC hE hr81).mono ?_
       rintro e w2 ⟨rfl, h2⟩
       have hS83 := h2.pick2
       have hS84 := hS83.pick2
       have hS85 := hS84.pick2
       exact ⟨rfl, hS85⟩) ?_
      obtain ⟨g86, hp87⟩ := ite_some hp82
      refine q_val (c := (cd23 [1, 1, 1, 0, 1, 0, 0, 1, 1, 0, 0, 1, 0])) (i := 8) (d := (some 35)) (ty := 9) (op := .binOp .add 9 (.tmp 29) (.tmp 34) 9) (v := .string ((((gt a1 t51).Name) ++ (⟨#[61]⟩ : ByteArray)) ++ t80)) (by kernel_rfl) (by kernel_rfl) (fun w hC o ho _ => x_concat (by kernel_rfl) (by kernel_rfl) g86 ho) ?_
      obtain ⟨g88, hp89⟩ := ite_some hp87
      refine q_val (c := (cd23 [1, 1, 1, 0, 1, 0, 0, 1, 1, 0, 0, 1, 0])) (i := 9) (d := (some 36)) (ty := 9) (op := .binOp .add 9 (.tmp 35) (.const (.string (⟨#[59]⟩ : ByteArray))) 9) (v := .string (((((gt a1 t51).Name) ++ (⟨#[61]⟩ : ByteArray)) ++ t80) ++ (⟨#[59]⟩ : ByteArray))) (by kernel_rfl) (by kernel_rfl) (fun w hC o ho _ => x_concat (by kernel_rfl) (by kernel_rfl) g88 ho) ?_
      refine q_run 1 (is' := []) (us := [(9, .string (((((gt a1 t51).Name) ++ (⟨#[61]⟩ : ByteArray)) ++ t80) ++ (⟨#[59]⟩ : ByteArray)))]) (by kernel_rfl) ?_
      refine Qs.nil ?_
      intro w90 hS91
      refine sx_run 4 (todo' := [.inRegion (opsOf (cd23 [1, 1, 1, 0, 1, 0, 0, 1, 1, 0, 0, 1, 1, 0, 0])) [1, 2], .code (cd23 [1, 1, 1, 0, 1, 0, 0, 1, 1, 0, 0, 1, 1, 0, 1]), .code (cd23 [1, 1, 1, 0, 1, 0, 0, 1, 1, 0, 0, 1, 1, 1]), .inBlock 1, .code (cd23 [1, 1, 1, 0, 1, 0, 0, 1, 1, 1]), .inLoop (cd23 [1, 1, 1, 0, 1, 0, 0]), .inBlock 0, .code (cd23 [1, 1, 1, 1])]) (us := [(37, .pointer (some ⟨b70, 0, none⟩))]) (by kernel_rfl) ?_
      refine r_load (c := (cd23 [1, 1, 1, 0, 1, 0, 0, 1, 1, 0, 0, 1, 1, 0, 0])) (i := 1) (d := (some 38)) (ty := 3) (t := 3) (x := (.tmp 37)) (p := ⟨b70, 0, none⟩) (v := .int .i64 ((gt a1 t51).Thread)) (by kernel_rfl) (by kernel_rfl) (by kernel_rfl) (loads_at 0 (hS91.blk 0 rfl) (by kernel_rfl) (by kernel_rfl)) ?_
      obtain ⟨v92, hv93, hp94⟩ := bind_some' hp89
      have J98 : ∀ (t95 : ByteArray) (he100 : t95 = v92) (l99 : List Value) (w96 : World) (hS97 : St w0 Z (xblk b1 24 (enc_api_Final a0) :: xrow A48 c49 9 1 (t47.flatMap encS) :: fs) w96), Runs Tryd.prog 23 [.code (cd23 [1, 1, 1, 0, 1, 0, 0, 1, 1, 0, 0, 1, 1, 1]), .inBlock 1, .code (cd23 [1, 1, 1, 0, 1, 0, 0, 1, 1, 1]), .inLoop (cd23 [1, 1, 1, 0, 1, 0, 0]), .inBlock 0, .code (cd23 [1, 1, 1, 1])] (fill [none, none, some (.pointer (some ⟨b1, 0, none⟩)), none, none, none, some (.slice A48 t47.length c49), none, none, some (.string t95), none, none, none, none, none, none, none, none, none, none, some (.slice Aa1 a1.length ca1), some (.int .i64 (a1.length : Int)), some (.int .i64 t51), none, none, none, none, none, none, none, none, none, none, none, none, none, none, none, none, none, none, none, none, none, none, none, none, none, none, none, none, none, none] l99) w96 R := by
       intro t95 he100 l99 w96 hS97
       subst he100
       try dsimp only at hp94
       refine sx_run 3 (todo' := [.inRegion (opsOf (cd23 [1, 1, 1, 0, 1, 0, 0, 1, 1, 0, 0, 1, 1, 1])) [2, 3, 4], .inBlock 1, .code (cd23 [1, 1, 1, 0, 1, 0, 0, 1, 1, 1]), .inLoop (cd23 [1, 1, 1, 0, 1, 0, 0]), .inBlock 0, .code (cd23 [1, 1, 1, 1])]) (us := [(46, .slice A48 t47.length c49), (47, .string t95)]) (by kernel_rfl) ?_
       refine r_lit (c := (cd23 [1, 1, 1, 0, 1, 0, 0, 1, 1, 0, 0, 1, 1, 1])) (i := 2) (d := (some 48)) (ty := 72) (t := 72) (e := 9) (sz := 1) (n := 1) (parts := #[(0, (.tmp 47))]) (vs := [(0, .string t95)]) (z := zeroOf Tryd.prog 9) (cs' := ([t95] : List ByteArray).flatMap encS) hS97 (by kernel_rfl) (by kernel_rfl) (by kernel_rfl) (by kernel_rfl) (by kernel_rfl) (by decide) (by decide) (by kernel_rfl) rfl (Parts.cons (c := [.string t95]) (by kernel_rfl) rfl Parts.nil) rfl ?_
       intro b102 w103 hS104
       have hS105 := hS104.pick2
       obtain ⟨g106, hp107⟩ := ite_some hp94
       refine r_append (c := (cd23 [1, 1, 1, 0, 1, 0, 0, 1, 1, 0, 0, 1, 1, 1])) (i := 3) (d := (some 49)) (ty := 72) (enc := encS) (e := 9) (u := 9) (t := 72) (t2 := 72) (sz := 1) (cp := c49) (A := A48) (bytes := 16) (xs := t47) (ys := ([t95] : List ByteArray)) (s := (.tmp 46)) (x := (.tmp 48)) (xv := .slice (some ⟨b102, 0, none⟩) ([t95] : List ByteArray).length 1) (info := infoOf Tryd.prog 9) (z := zeroOf Tryd.prog 9) (ycs := ([t95] : List ByteArray).flatMap encS) hS105 (by kernel_rfl) (by kernel_rfl) (by kernel_rfl) (by kernel_rfl) (by kernel_rfl) (.inl (by kernel_rfl)) (by kernel_rfl) (by kernel_rfl) (by kernel_rfl) (by kernel_rfl) (by kernel_rfl) (by omega) len_encS one_encS (src_row (hS105.row 1 rfl) (by omega) len_encS) rfl g106 (by omega) ?_
       intro A108 c109 w110 hS111
       refine sx_run 7 (todo' := [.inLoop (cd23 [1, 1, 1, 0, 1, 0, 0]), .inBlock 0, .code (cd23 [1, 1, 1, 1])]) (us := [(6, .slice A108 (t47 ++ ([t95] : List ByteArray)).length c109), (50, .int .i64 (IntKind.i64.wrap (t51 + 1))), (22, .int .i64 (IntKind.i64.wrap (t51 + 1)))]) (by kernel_rfl) ?_
       have hS113 := hS111.pick1
       have hS114 := hS113.drop
       have hS115 := hS114.pick1
       refine sx_run 1 (todo' := [.code (cd23 [1, 1, 1, 0, 1, 0, 0]), .inLoop (cd23 [1, 1, 1, 0, 1, 0, 0]), .inBlock 0, .code (cd23 [1, 1, 1, 1])]) (us := []) (by kernel_rfl) ?_
       refine Runs.fill (m := [none, none, some (.pointer (some ⟨b1, 0, none⟩)), none, none, none, some (.slice A108 (t47 ++ ([t95] : List ByteArray)).length c109), none, none, none, none, none, none, none, none, none, none, none, none, none, some (.slice Aa1 a1.length ca1), some (.int .i64 (a1.length : Int)), some (.int .i64 (IntKind.i64.wrap (t51 + 1))), none, none, none, none, none, none, none, none, none, none, none, none, none, none, none, none, none, none, none, none, none, none, none, none, none, none, none, none, none, none]) (by kernel_rfl) ?_
       exact ih58 (t47 ++ ([t95] : List ByteArray)) (IntKind.i64.wrap (t51 + 1)) _ hp107 he56 _ A108 c109 _ hS115
      refine sx_split 1 (todo' := [.inRegion (opsOf (cd23 [1, 1, 1, 0, 1, 0, 0, 1, 1, 0, 0, 1, 1, 0, 0])) [], .code (cd23 [1, 1, 1, 0, 1, 0, 0, 1, 1, 0, 0, 1, 1, 0, 1]), .code (cd23 [1, 1, 1, 0, 1, 0, 0, 1, 1, 0, 0, 1, 1, 1]), .inBlock 1, .code (cd23 [1, 1, 1, 0, 1, 0, 0, 1, 1, 1]), .inLoop (cd23 [1, 1, 1, 0, 1, 0, 0]), .inBlock 0, .code (cd23 [1, 1, 1, 1])]) (us := []) (d := 39) (t := (((gt a1 t51).Thread) != (-1))) (by kernel_rfl) (fun h116 => ?_) (fun h117 => ?_)
      ·skip
       have hp118 := ite_t hv93 h116
       refine sx_run 4 (todo' := [.inRegion (opsOf (cd23 [1, 1, 1, 0, 1, 0, 0, 1, 1, 0, 0, 1, 1, 0, 1, 0])) [1, 2, 3, 4, 5, 6], .code (cd23 [1, 1, 1, 0, 1, 0, 0, 1, 1, 0, 0, 1, 1, 1]), .inBlock 1, .code (cd23 [1, 1, 1, 0, 1, 0, 0, 1, 1, 1]), .inLoop (cd23 [1, 1, 1, 0, 1, 0, 0]), .inBlock 0, .code (cd23 [1, 1, 1, 1])]) (us := [(40, .pointer (some ⟨b70, 0, none⟩))]) (by kernel_rfl) ?_
       refine r_load (c := (cd23 [1, 1, 1, 0, 1, 0, 0, 1, 1, 0, 0, 1, 1, 0, 1, 0])) (i := 1) (d := (some 41)) (ty := 3) (t := 3) (x := (.tmp 40)) (p := ⟨b70, 0, none⟩) (v := .int .i64 ((gt a1 t51).Thread)) (by kernel_rfl) (by kernel_rfl) (by kernel_rfl) (loads_at 0 (hS91.blk 0 rfl) (by kernel_rfl) (by kernel_rfl)) ?_
       obtain ⟨t119, hr120, hp121⟩ := bind_some' hp118
       refine r_call1 (c := (cd23 [1, 1, 1, 0, 1, 0, 0, 1, 1, 0, 0, 1, 1, 0, 1, 0])) (i := 2) (d := (some 42)) (g := 38) (args := #[.int .i64 ((gt a1 t51).Thread)]) (by kernel_rfl) (by kernel_rfl) (by kernel_rfl) (by kernel_rfl) (strconv_Itoa.ok ((gt a1 t51).Thread) hS91 hE hr120) ?_
       rintro _ w122 ⟨rfl, hS123⟩
       refine ⟨.string t119, rfl, ?_⟩
       obtain ⟨g124, hp125⟩ := ite_some hp121
       refine r_val (c := (cd23 [1, 1, 1, 0, 1, 0, 0, 1, 1, 0, 0, 1, 1, 0, 1, 0])) (i := 3) (d := (some 43)) (ty := 9) (op := .binOp .add 9 (.tmp 42) (.const (.string (⟨#[58]⟩ : ByteArray))) 9) (v := .string (t119 ++ (⟨#[58]⟩ : ByteArray))) (by kernel_rfl) (by kernel_rfl) (fun o ho _ => x_concat (by kernel_rfl) (by kernel_rfl) g124 ho) ?_
       refine sx_run 1 (todo' := [.inRegion (opsOf (cd23 [1, 1, 1, 0, 1, 0, 0, 1, 1, 0, 0, 1, 1, 0, 1, 0])) [5, 6], .code (cd23 [1, 1, 1, 0, 1, 0, 0, 1, 1, 0, 0, 1, 1, 1]), .inBlock 1, .code (cd23 [1, 1, 1, 0, 1, 0, 0, 1, 1, 1]), .inLoop (cd23 [1, 1, 1, 0, 1, 0, 0]), .inBlock 0, .code (cd23 [1, 1, 1, 1])]) (us := [(44, .string (((((gt a1 t51).Name) ++ (⟨#[61]⟩ : ByteArray)) ++ t80) ++ (⟨#[59]⟩ : ByteArray)))]) (by kernel_rfl) ?_
       obtain ⟨g126, hp127⟩ := ite_some hp125
       refine r_val (c := (cd23 [1, 1, 1, 0, 1, 0, 0, 1, 1, 0, 0, 1, 1, 0, 1, 0])) (i := 5) (d := (some 45)) (ty := 9) (op := .binOp .add 9 (.tmp 43) (.tmp 44) 9) (v := .string ((t119 ++ (⟨#[58]⟩ : ByteArray)) ++ (((((gt a1 t51).Name) ++ (⟨#[61]⟩ : ByteArray)) ++ t80) ++ (⟨#[59]⟩ : ByteArray)))) (by kernel_rfl) (by kernel_rfl) (fun o ho _ => x_concat (by kernel_rfl) (by kernel_rfl) g126 ho) ?_
       refine sx_run 2 (todo' := [.code (cd23 [1, 1, 1, 0, 1, 0, 0, 1, 1, 0, 0, 1, 1, 1]), .inBlock 1, .code (cd23 [1, 1, 1, 0, 1, 0, 0, 1, 1, 1]), .inLoop (cd23 [1, 1, 1, 0, 1, 0, 0]), .inBlock 0, .code (cd23 [1, 1, 1, 1])]) (us := [(9, .string ((t119 ++ (⟨#[58]⟩ : ByteArray)) ++ (((((gt a1 t51).Name) ++ (⟨#[61]⟩ : ByteArray)) ++ t80) ++ (⟨#[59]⟩ : ByteArray))))]) (by kernel_rfl) ?_
       have hS128 := hS123.drop
       refine Runs.fill (m := [none, none, some (.pointer (some ⟨b1, 0, none⟩)), none, none, none, some (.slice A48 t47.length c49), none, none, some (.string ((t119 ++ (⟨#[58]⟩ : ByteArray)) ++ (((((gt a1 t51).Name) ++ (⟨#[61]⟩ : ByteArray)) ++ t80) ++ (⟨#[59]⟩ : ByteArray)))), none, none, none, none, none, none, none, none, none, none, some (.slice Aa1 a1.length ca1), some (.int .i64 (a1.length : Int)), some (.int .i64 t51), none, none, none, none, none, none, none, none, none, none, none, none, none, none, none, none, none, none, none, none, none, none, none, none, none, none, none, none, none, none]) (by kernel_rfl) ?_
       exact J98 ((t119 ++ (⟨#[58]⟩ : ByteArray)) ++ (((((gt a1 t51).Name) ++ (⟨#[61]⟩ : ByteArray)) ++ t80) ++ (⟨#[59]⟩ : ByteArray))) (Option.some.inj hp127) _ _ hS128
      ·skip
       have hp129 := ite_f hv93 h117
       refine sx_run 3 (todo' := [.code (cd23 [1, 1, 1, 0, 1, 0, 0, 1, 1, 0, 0, 1, 1, 1]), .inBlock 1, .code (cd23 [1, 1, 1, 0, 1, 0, 0, 1, 1, 1]), .inLoop (cd23 [1, 1, 1, 0, 1, 0, 0]), .inBlock 0, .code (cd23 [1, 1, 1, 1])]) (us := []) (by kernel_rfl) ?_
       have hS130 := hS91.drop
       refine Runs.fill (m := [none, none, some (.pointer (some ⟨b1, 0, none⟩)), none, none, none, some (.slice A48 t47.length c49), none, none, some (.string (((((gt a1 t51).Name) ++ (⟨#[61]⟩ : ByteArray)) ++ t80) ++ (⟨#[59]⟩ : ByteArray))), none, none, none, none, none, none, none, none, none, none, some (.slice Aa1 a1.length ca1), some (.int .i64 (a1.length : Int)), some (.int .i64 t51), none, none, none, none, none, none, none, none, none, none, none, none, none, none, none, none, none, none, none, none, none, none, none, none, none, none, none, none, none, none]) (by kernel_rfl) ?_
       exact J98 (((((gt a1 t51).Name) ++ (⟨#[61]⟩ : ByteArray)) ++ t80) ++ (⟨#[59]⟩ : ByteArray)) (Option.some.inj hp129) _ _ hS130
     ·skip
      have hp131 := ite_f hb57 h62
      refine sx_run 4 (todo' := [.code (cd23 [1, 1, 1, 1])]) (us := []) (by kernel_rfl) ?_
      have hS132 := hS53.drop
      refine Runs.fill (m := [none, none, none, none, none, none, some (.slice A48 t47.length c49), none, none, none, none, none, none, none, none, none, none, none, none, none, none, none, none, none, none, none, none, none, none, none, none, none, none, none, none, none, none, none, none, none, none, none, none, none, none, none, none, none, none, none, none, none, none]) (by kernel_rfl) ?_
      exact J31 t47 ((Option.some.inj hp131).trans he56) _ A48 c49 _ hS132
    have hS134 := hS9.nilrow none 9 1
    have hS135 := hS134.pick1
    refine Runs.fill (m := [none, none, some (.pointer (some ⟨b1, 0, none⟩)), none, none, none, some (.slice none 0 0), none, none, none, none, none, none, none, none, none, none, none, none, none, some (.slice Aa1 a1.length ca1), some (.int .i64 (a1.length : Int)), some (.int .i64 0), none, none, none, none, none, none, none, none, none, none, none, none, none, none, none, none, none, none, none, none, none, none, none, none, none, none, none, none, none, none]) (by kernel_rfl) ?_
    exact L60 [] 0 _ hv23 rfl _ none 0 _ hS135

noncomputable def cd28 (p : List Nat) : Code := sub (bodyOf Tryd.f28) p
def word_Put.l0 (t29 : Int) (t30 : List Int) : Option (Int × (List Int)) :=
  (if (decide (t29 ≥ 128)) = true then (if (t30.length + ([(bor .u8 (IntKind.u8.wrap t29) 128)] : List Int).length) * 1 ≤ 140737488355328 then (word_Put.l0 (shrI .u64 t29 7) (t30 ++ ([(bor .u8 (IntKind.u8.wrap t29) 128)] : List Int))) else none) else some ((t29, t30)))
 partial_fixpoint
def word_Put.f (a0 : Int) : Option ByteArray :=
  (word_Put.l0 (bxor .u64 (IntKind.u64.wrap (shlI .i64 a0 1)) (IntKind.u64.wrap (shrI .i64 a0 63))) [] >>= (fun (t4, t5) => (if (t5.length + ([(IntKind.u8.wrap t4)] : List Int).length) * 1 ≤ 140737488355328 then some ((ofBytes (t5 ++ ([(IntKind.u8.wrap t4)] : List Int)))) else none)))
set_option maxHeartbeats 16000000 in
theorem word_Put.ok (a0 : Int) {w0 : World} {Z : Zm} {fs : List XObj} {w : World} (hS0 : St w0 Z (fs) w) {q0 : ByteArray} (hp0 : word_Put.f a0 = some q0) :
    Calls Tryd.prog 28 #[.int .i64 a0] w (fun e w' => e = .returned (.string q0) ∧ St w0 Z (fs) w') := by
  refine calls_abs ?_; intro R hR
  unfold word_Put.f at hp0
  refine calls_of_runs (fn := Tryd.f28) (c := cd28 []) Tryd.func28 (by kernel_rfl) (al := [.int .i64 a0]) rfl (n := 27) rfl ?_
  refine sx_run 22 (todo' := [.code (cd28 [1, 1, 1, 0, 0, 0]), .inLoop (cd28 [1, 1, 1, 0, 0, 0]), .inBlock 0, .code (cd28 [1, 1, 1, 1])]) (us := [(2, .string (⟨#[]⟩ : ByteArray)), (5, .int .i64 a0), (6, .int .i64 (shlI .i64 a0 1)), (7, .int .u64 (IntKind.u64.wrap (shlI .i64 a0 1))), (8, .int .i64 a0), (9, .int .i64 (shrI .i64 a0 63)), (10, .int .u64 (IntKind.u64.wrap (shrI .i64 a0 63))), (11, .int .u64 (bxor .u64 (IntKind.u64.wrap (shlI .i64 a0 1)) (IntKind.u64.wrap (shrI .i64 a0 63)))), (3, .int .u64 (bxor .u64 (IntKind.u64.wrap (shlI .i64 a0 1)) (IntKind.u64.wrap (shrI .i64 a0 63)))), (4, .slice none 0 0)]) (by kernel_rfl) ?_
  obtain ⟨v1, hv2, hp3⟩ := bind_some' hp0
  have J11 : ∀ (t4 : Int) (t5 : List Int) (he13 : (t4, t5) = v1) (l12 : List Value) (A6 : Option Addr) (c7 : Nat) (w9 : World) (hS10 : St w0 Z (xrow A6 c7 5 1 (t5.flatMap (encI .u8)) :: fs) w9), Runs Tryd.prog 28 [.code (cd28 [1, 1, 1, 1])] (fill [none, none, none, some (.int .u64 t4), some (.slice A6 t5.length c7), none, none, none, none, none, none, none, none, none, none, none, none, none, none, none, none, none, none, none, none, none, none, none] l12) w9 R := by
   intro t4 t5 he13 l12 A6 c7 w9 hS10
   subst he13
   try dsimp only at hp3
   refine sx_run 5 (todo' := [.inRegion (opsOf (cd28 [1, 1, 1, 1, 0])) [3, 4, 5, 6], .code (cd28 [1, 1, 1, 1, 1])]) (us := [(22, .slice A6 t5.length c7), (23, .int .u64 t4), (24, .int .u8 (IntKind.u8.wrap t4))]) (by kernel_rfl) ?_
   refine r_lit (c := (cd28 [1, 1, 1, 1, 0])) (i := 3) (d := (some 25)) (ty := 57) (t := 57) (e := 5) (sz := 1) (n := 1) (parts := #[(0, (.tmp 24))]) (vs := [(0, .int .u8 (IntKind.u8.wrap t4))]) (z := zeroOf Tryd.prog 5) (cs' := ([(IntKind.u8.wrap t4)] : List Int).flatMap (encI .u8)) hS10 (by kernel_rfl) (by kernel_rfl) (by kernel_rfl) (by kernel_rfl) (by kernel_rfl) (by decide) (by decide) (by kernel_rfl) rfl (Parts.cons (c := [.int .u8 (IntKind.u8.wrap t4)]) (by kernel_rfl) rfl Parts.nil) rfl ?_
   intro b15 w16 hS17
   have hS18 := hS17.pick1
   obtain ⟨g19, hp20⟩ := ite_some hp3
   refine r_append (c := (cd28 [1, 1, 1, 1, 0])) (i := 4) (d := (some 26)) (ty := 57) (enc := (encI .u8)) (e := 5) (u := 5) (t := 57) (t2 := 57) (sz := 1) (cp := c7) (A := A6) (bytes := 1) (xs := t5) (ys := ([(IntKind.u8.wrap t4)] : List Int)) (s := (.tmp 22)) (x := (.tmp 25)) (xv := .slice (some ⟨b15, 0, none⟩) ([(IntKind.u8.wrap t4)] : List Int).length 1) (info := infoOf Tryd.prog 5) (z := zeroOf Tryd.prog 5) (ycs := ([(IntKind.u8.wrap t4)] : List Int).flatMap (encI .u8)) hS18 (by kernel_rfl) (by kernel_rfl) (by kernel_rfl) (by kernel_rfl) (by kernel_rfl) (.inl (by kernel_rfl)) (by kernel_rfl) (by kernel_rfl) (by kernel_rfl) (by kernel_rfl) (by kernel_rfl) (by omega) (len_encI .u8) (one_encI .u8) (src_row (hS18.row 1 rfl) (by omega) (len_encI .u8)) rfl g19 (by omega) ?_
   intro A21 c22 w23 hS24
   refine r_val (c := (cd28 [1, 1, 1, 1, 0])) (i := 5) (d := (some 27)) (ty := 9) (op := .convert 57 9 (.tmp 26)) (v := .string (ofBytes (t5 ++ ([(IntKind.u8.wrap t4)] : List Int)))) (by kernel_rfl) (by kernel_rfl) (fun o ho _ => x_bytesStr (e := 5) (A := A21) (c := c22) (by kernel_rfl) (src_row (hS24.row 0 rfl) (by omega) (len_encI .u8)) (by kernel_rfl) (by kernel_rfl) (by kernel_rfl) ho) ?_
   refine sx_run 2 (todo' := [.code (cd28 [1, 1, 1, 1, 1])]) (us := [(2, .string (ofBytes (t5 ++ ([(IntKind.u8.wrap t4)] : List Int))))]) (by kernel_rfl) ?_
   have hS26 := hS24.drop
   have hS27 := hS26.drop
   refine runs_ret (fn := Tryd.f28) (v := .string (ofBytes (t5 ++ ([(IntKind.u8.wrap t4)] : List Int)))) Tryd.func28 (by kernel_rfl) ?_
   have hr28 := (Option.some.inj hp20)
   cases hr28
   exact hR _ _ ⟨rfl, hS27⟩
  have L42 : ∀ (t29 : Int) (t30 : List Int) (e37 : (Int × (List Int))), word_Put.l0 t29 t30 = some e37 → e37 = v1 → ∀ (l36 : List Value) (A31 : Option Addr) (c32 : Nat) (w34 : World) (hS35 : St w0 Z (xrow A31 c32 5 1 (t30.flatMap (encI .u8)) :: fs) w34), Runs Tryd.prog 28 [.code (cd28 [1, 1, 1, 0, 0, 0]), .inLoop (cd28 [1, 1, 1, 0, 0, 0]), .inBlock 0, .code (cd28 [1, 1, 1, 1])] (fill [none, none, none, some (.int .u64 t29), some (.slice A31 t30.length c32), none, none, none, none, none, none, none, none, none, none, none, none, none, none, none, none, none, none, none, none, none, none, none] l36) w34 R := by
   refine word_Put.l0.partial_correctness (fun t29 t30 e37 => e37 = v1 → ∀ (l36 : List Value) (A31 : Option Addr) (c32 : Nat) (w34 : World) (hS35 : St w0 Z (xrow A31 c32 5 1 (t30.flatMap (encI .u8)) :: fs) w34), Runs Tryd.prog 28 [.code (cd28 [1, 1, 1, 0, 0, 0]), .inLoop (cd28 [1, 1, 1, 0, 0, 0]), .inBlock 0, .code (cd28 [1, 1, 1, 1])] (fill [none, none, none, some (.int .u64 t29), some (.slice A31 t30.length c32), none, none, none, none, none, none, none, none, none, none, none, none, none, none, none, none, none, none, none, none, none, none, none] l36) w34 R) ?_
   intro rec41 ih40 t29 t30 e37 hb39 he38 l36 A31 c32 w34 hS35
   refine sx_split 5 (todo' := [.inRegion (opsOf (cd28 [1, 1, 1, 0, 0, 0, 0, 0])) [], .code (cd28 [1, 1, 1, 0, 0, 0, 0, 1]), .code (cd28 [1, 1, 1, 0, 0, 0, 1]), .inLoop (cd28 [1, 1, 1, 0, 0, 0]), .inBlock 0, .code (cd28 [1, 1, 1, 1])]) (us := [(12, .int .u64 t29)]) (d := 13) (t := (decide (t29 ≥ 128))) (by kernel_rfl) (fun h43 => ?_) (fun h44 => ?_)
   ·skip
    have hp45 := ite_t hb39 h43
    refine sx_run 10 (todo' := [.inRegion (opsOf (cd28 [1, 1, 1, 0, 0, 0, 1, 0, 0])) [4, 5, 6], .code (cd28 [1, 1, 1, 0, 0, 0, 1, 0, 1]), .inBlock 1, .inLoop (cd28 [1, 1, 1, 0, 0, 0]), .inBlock 0, .code (cd28 [1, 1, 1, 1])]) (us := [(14, .slice A31 t30.length c32), (15, .int .u64 t29), (16, .int .u8 (IntKind.u8.wrap t29)), (17, .int .u8 (bor .u8 (IntKind.u8.wrap t29) 128))]) (by kernel_rfl) ?_
    refine r_lit (c := (cd28 [1, 1, 1, 0, 0, 0, 1, 0, 0])) (i := 4) (d := (some 18)) (ty := 57) (t := 57) (e := 5) (sz := 1) (n := 1) (parts := #[(0, (.tmp 17))]) (vs := [(0, .int .u8 (bor .u8 (IntKind.u8.wrap t29) 128))]) (z := zeroOf Tryd.prog 5) (cs' := ([(bor .u8 (IntKind.u8.wrap t29) 128)] : List Int).flatMap (encI .u8)) hS35 (by kernel_rfl) (by kernel_rfl) (by kernel_rfl) (by kernel_rfl) (by kernel_rfl) (by decide) (by decide) (by kernel_rfl) rfl (Parts.cons (c := [.int .u8 (bor .u8 (IntKind.u8.wrap t29) 128)]) (by kernel_rfl) rfl Parts.nil) rfl ?_
    intro b47 w48 hS49
    have hS50 := hS49.pick1
    obtain ⟨g51, hp52⟩ := ite_some hp45
    refine r_append (c := (cd28 [1, 1, 1, 0, 0, 0, 1, 0, 0])) (i := 5) (d := (some 19)) (ty := 57) (enc := (encI .u8)) (e := 5) (u := 5) (t := 57) (t2 := 57) (sz := 1) (cp := c32) (A := A31) (bytes := 1) (xs := t30) (ys := ([(bor .u8 (IntKind.u8.wrap t29) 128)] : List Int)) (s := (.tmp 14)) (x := (.tmp 18)) (xv := .slice (some ⟨b47, 0, none⟩) ([(bor .u8 (IntKind.u8.wrap t29) 128)] : List Int).length 1) (info := infoOf Tryd.prog 5) (z := zeroOf Tryd.prog 5) (ycs := ([(bor .u8 (IntKind.u8.wrap t29) 128)] : List Int).flatMap (encI .u8)) hS50 (by kernel_rfl) (by kernel_rfl) (by kernel_rfl) (by kernel_rfl) (by kernel_rfl) (.inl (by kernel_rfl)) (by kernel_rfl) (by kernel_rfl) (by kernel_rfl) (by kernel_rfl) (by kernel_rfl) (by omega) (len_encI .u8) (one_encI .u8) (src_row (hS50.row 1 rfl) (by omega) (len_encI .u8)) rfl g51 (by omega) ?_
    intro A53 c54 w55 hS56
    refine sx_run 8 (todo' := [.inLoop (cd28 [1, 1, 1, 0, 0, 0]), .inBlock 0, .code (cd28 [1, 1, 1, 1])]) (us := [(4, .slice A53 (t30 ++ ([(bor .u8 (IntKind.u8.wrap t29) 128)] : List Int)).length c54), (20, .int .u64 t29), (21, .int .u64 (shrI .u64 t29 7)), (3, .int .u64 (shrI .u64 t29 7))]) (by kernel_rfl) ?_
    have hS58 := hS56.pick1
    have hS59 := hS58.drop
    refine sx_run 1 (todo' := [.code (cd28 [1, 1, 1, 0, 0, 0]), .inLoop (cd28 [1, 1, 1, 0, 0, 0]), .inBlock 0, .code (cd28 [1, 1, 1, 1])]) (us := []) (by kernel_rfl) ?_
    refine Runs.fill (m := [none, none, none, some (.int .u64 (shrI .u64 t29 7)), some (.slice A53 (t30 ++ ([(bor .u8 (IntKind.u8.wrap t29) 128)] : List Int)).length c54), none, none, none, none, none, none, none, none, none, none, none, none, none, none, none, none, none, none, none, none, none, none, none]) (by kernel_rfl) ?_
    exact ih40 (shrI .u64 t29 7) (t30 ++ ([(bor .u8 (IntKind.u8.wrap t29) 128)] : List Int)) _ hp52 he38 _ A53 c54 _ hS59
   ·skip
    have hp60 := ite_f hb39 h44
    refine sx_run 3 (todo' := [.code (cd28 [1, 1, 1, 1])]) (us := []) (by kernel_rfl) ?_
    refine Runs.fill (m := [none, none, none, some (.int .u64 t29), some (.slice A31 t30.length c32), none, none, none, none, none, none, none, none, none, none, none, none, none, none, none, none, none, none, none, none, none, none, none]) (by kernel_rfl) ?_
    exact J11 t29 t30 ((Option.some.inj hp60).trans he38) _ A31 c32 _ hS35
  have hS62 := hS0.nilrow none 5 1
  refine Runs.fill (m := [none, none, none, some (.int .u64 (bxor .u64 (IntKind.u64.wrap (shlI .i64 a0 1)) (IntKind.u64.wrap (shrI .i64 a0 63)))), some (.slice none 0 0), none, none, none, none, none, none, none, none, none, none, none, none, none, none, none, none, none, none, none, none, none, none, none]) (by kernel_rfl) ?_
  exact L42 (bxor .u64 (IntKind.u64.wrap (shlI .i64 a0 1)) (IntKind.u64.wrap (shrI .i64 a0 63))) [] _ hv2 rfl _ none 0 _ hS62

noncomputable def cd14 (p : List Nat) : Code := sub (bodyOf Tryd.f14) p
def state_Code.l0 (a0 : api_Final) (t64 : Int) (t65 : ByteArray) : Option ByteArray :=
  (if (decide (t64 < (((a0.V.toList.take a0.N.toNat).drop 0).length : Int))) = true then (if 0 ≤ t64 ∧ t64 < (((a0.V.toList.take a0.N.toNat).drop 0).length : Int) then (word_Put.f (gt ((a0.V.toList.take a0.N.toNat).drop 0) t64) >>= (fun t86 => (bd_write.f t65 t86 >>= (fun (t91, t92) => (state_Code.l0 a0 (IntKind.i64.wrap (t64 + 1)) t92))))) else none) else some (t65))
 partial_fixpoint
def state_Code.f (a0 : api_Final) : Option (ByteArray × Int) :=
  (state_Check.f a0 >>= (fun t5 => (if (t5 != 0) = true then some (((⟨#[]⟩ : ByteArray), t5)) else (word_Put.f a0.N >>= (fun t21 => (bd_write.f (⟨#[]⟩ : ByteArray) t21 >>= (fun (t26, t27) => (if 0 ≤ a0.N ∧ a0.N ≤ 48 then (state_Code.l0 a0 0 t27 >>= (fun t49 => (bd_string.f t49 >>= (fun t57 => some ((t57, 0)))))) else none))))))))
set_option maxHeartbeats 16000000 in
theorem state_Code.ok (a0 : api_Final) {w0 : World} {Z : Zm} {fs : List XObj} {w : World} (hS0 : St w0 Z (fs) w) {q0 : ByteArray} {q1 : Int} (hp0 : state_Code.f a0 = some (q0, q1)) :
    Calls Tryd.prog 14 #[.agg (enc_api_Final a0).toArray] w (fun e w' => e = .returned (.tuple #[.string q0, .int .i64 q1]) ∧ St w0 Z (fs) w') := by
  refine calls_abs ?_; intro R hR
  unfold state_Code.f at hp0
  refine calls_of_runs (fn := Tryd.f14) (c := cd14 []) Tryd.func14 (by kernel_rfl) (al := [.agg (enc_api_Final a0).toArray]) rfl (n := 30) rfl ?_
  refine sx_run 2 (todo' := [.inRegion (opsOf (cd14 [0])) [0, 1, 2], .code (cd14 [1])]) (us := []) (by kernel_rfl) ?_
  refine r_box (c := (cd14 [0])) (i := 0) (d := (some 1)) (ty := 0) (x := (.tmp 0)) (v := .agg (enc_api_Final a0).toArray) (t := 24) (cs := enc_api_Final a0) hS0 (by kernel_rfl) (by kernel_rfl) (by kernel_rfl) (by kernel_rfl) ?_
  intro b1 w2 hS3
  refine sx_run 6 (todo' := [.inRegion (opsOf (cd14 [1, 0, 0])) [0, 1, 2], .code (cd14 [1, 0, 1]), .code (cd14 [1, 1])]) (us := [(2, .string (⟨#[]⟩ : ByteArray)), (3, .int .i64 0)]) (by kernel_rfl) ?_
  refine r_load (c := (cd14 [1, 0, 0])) (i := 0) (d := (some 8)) (ty := 24) (t := 24) (x := (.tmp 1)) (p := ⟨b1, 0, none⟩) (v := .agg (enc_api_Final a0).toArray) (by kernel_rfl) (by kernel_rfl) (by kernel_rfl) (loads_agg (hS3.blk 0 rfl) (by kernel_rfl) (lenK (len_api_Final _) (by kernel_rfl))) ?_
  obtain ⟨t5, hr6, hp7⟩ := bind_some' hp0
  refine r_call1 (c := (cd14 [1, 0, 0])) (i := 1) (d := (some 9)) (g := 16) (args := #[.agg (enc_api_Final a0).toArray]) (by kernel_rfl) (by kernel_rfl) (by kernel_rfl) (by kernel_rfl) (state_Check.ok a0 hS3 hr6) ?_
  rintro _ w8 ⟨rfl, hS9⟩
  refine ⟨.int .i64 t5, rfl, ?_⟩
  refine sx_split 6 (todo' := [.inRegion (opsOf (cd14 [1, 0, 1, 0])) [], .code (cd14 [1, 0, 1, 1]), .code (cd14 [1, 1])]) (us := [(4, .int .i64 t5), (10, .int .i64 t5)]) (d := 11) (t := (t5 != 0)) (by kernel_rfl) (fun h10 => ?_) (fun h11 => ?_)
  ·skip
   have hp12 := ite_t hp7 h10
   refine sx_run 8 (todo' := [.code (cd14 [1, 0, 1, 1, 0, 1]), .code (cd14 [1, 1])]) (us := [(12, .int .i64 t5), (2, .string (⟨#[]⟩ : ByteArray)), (3, .int .i64 t5)]) (by kernel_rfl) ?_
   have hS13 := hS9.drop
   refine runs_ret (fn := Tryd.f14) (v := .tuple #[.string (⟨#[]⟩ : ByteArray), .int .i64 t5]) Tryd.func14 (by kernel_rfl) ?_
   have hr14 := (Option.some.inj hp12)
   cases hr14
   exact hR _ _ ⟨rfl, hS13⟩
  ·skip
   have hp15 := ite_f hp7 h11
   refine sx_run 5 (todo' := [.inRegion (opsOf (cd14 [1, 1, 0])) [0], .code (cd14 [1, 1, 1])]) (us := []) (by kernel_rfl) ?_
   refine r_alloc (c := (cd14 [1, 1, 0])) (i := 0) (d := (some 5)) (ty := 0) (z := .agg #[.pointer none, .slice none 0 0]) (t := 59) (cs := [.pointer none, .slice none 0 0]) hS9 (by kernel_rfl) (by kernel_rfl) (by kernel_rfl) (by kernel_rfl) ?_
   intro b16 w17 hS18
   have hS20 := hS18.newB
   refine sx_run 4 (todo' := [.inRegion (opsOf (cd14 [1, 1, 1, 0])) [1, 2, 3], .code (cd14 [1, 1, 1, 1])]) (us := [(13, .pointer (some ⟨b1, 0, none⟩))]) (by kernel_rfl) ?_
   refine r_load (c := (cd14 [1, 1, 1, 0])) (i := 1) (d := (some 14)) (ty := 3) (t := 3) (x := (.tmp 13)) (p := ⟨b1, 0, none⟩) (v := .int .i64 a0.N) (by kernel_rfl) (by kernel_rfl) (by kernel_rfl) (loads_at 0 (hS20.blk 1 rfl) (by kernel_rfl) (by kernel_rfl)) ?_
   obtain ⟨t21, hr22, hp23⟩ := bind_some' hp15
   refine r_call1 (c := (cd14 [1, 1, 1, 0])) (i := 2) (d := (some 15)) (g := 28) (args := #[.int .i64 a0.N]) (by kernel_rfl) (by kernel_rfl) (by kernel_rfl) (by kernel_rfl) (word_Put.ok a0.N hS20 hr22) ?_
   rintro _ w24 ⟨rfl, hS25⟩
   refine ⟨.string t21, rfl, ?_⟩
   obtain ⟨⟨t26, t27⟩, hr30, hp31⟩ := bind_some' hp23
   try dsimp only at hp31
   refine r_call1 (c := (cd14 [1, 1, 1, 0])) (i := 3) (d := (some 16)) (g := 27) (args := #[.pointer (some ⟨b16, 0, none⟩), .string t21]) (by kernel_rfl) (by kernel_rfl) (by kernel_rfl) (by kernel_rfl) (bd_write.ok (⟨#[]⟩ : ByteArray) t21 b16 none 0 hS25 hr30) ?_
   rintro _ w32 ⟨Q28, Q29, rfl, hS33⟩
   refine ⟨.tuple #[.int .i64 t26, .nilIface], rfl, ?_⟩
   refine sx_run 6 (todo' := [.inRegion (opsOf (cd14 [1, 1, 1, 1, 0, 0])) [2, 3, 4, 5], .code (cd14 [1, 1, 1, 1, 0, 1]), .code (cd14 [1, 1, 1, 1, 1])]) (us := [(17, .pointer (some ⟨b1, 1, none⟩)), (18, .pointer (some ⟨b1, 0, none⟩))]) (by kernel_rfl) ?_
   refine r_load (c := (cd14 [1, 1, 1, 1, 0, 0])) (i := 2) (d := (some 19)) (ty := 3) (t := 3) (x := (.tmp 18)) (p := ⟨b1, 0, none⟩) (v := .int .i64 a0.N) (by kernel_rfl) (by kernel_rfl) (by kernel_rfl) (loads_at 0 (hS33.blk 1 rfl) (by kernel_rfl) (by kernel_rfl)) ?_
   have hS34 := hS33.pick1
   obtain ⟨Z35, hz36, hS37, hs38, -⟩ := hS34.lendblk
   obtain ⟨g39, hp40⟩ := ite_some hp31
   obtain ⟨A41, c42, hr43, hs44⟩ := cutArrZ (zsub_api_Final_V hs38) (len_encI .i64) 0 a0.N.toNat (by omega) (by omega) (by omega)
   refine r_val (c := (cd14 [1, 1, 1, 1, 0, 0])) (i := 3) (d := (some 20)) (ty := 54) (op := .slice 22 (.tmp 17) none (some (.tmp 19)) none) (v := .slice A41 ((a0.V.toList.take a0.N.toNat).drop 0).length c42) (by kernel_rfl) (by kernel_rfl) (fun o ho _ => x_cutArr_ns (e := 2) (k := .i64) (by kernel_rfl) (by kernel_rfl) (by kernel_rfl) (by kernel_rfl) g39 hr43 ho) ?_
   refine sx_run 5 (todo' := [.code (cd14 [1, 1, 1, 1, 0, 1, 0, 0]), .inLoop (cd14 [1, 1, 1, 1, 0, 1, 0, 0]), .inBlock 0, .code (cd14 [1, 1, 1, 1, 1])]) (us := [(21, .int .i64 (((a0.V.toList.take a0.N.toNat).drop 0).length : Int)), (22, .int .i64 0)]) (by kernel_rfl) ?_
   obtain ⟨v46, hv47, hp48⟩ := bind_some' hp40
   have J54 : ∀ (t49 : ByteArray) (he56 : t49 = v46) (l55 : List Value) (A50 : Option Addr) (c51 : Nat) (w52 : World) (hS53 : St w0 Z35 (xbld b16 A50 c51 t49 :: fs) w52), Runs Tryd.prog 14 [.code (cd14 [1, 1, 1, 1, 1])] (fill [none, none, none, none, none, some (.pointer (some ⟨b16, 0, none⟩)), none, none, none, none, none, none, none, none, none, none, none, none, none, none, none, none, none, none, none, none, none, none, none, none, none] l55) w52 R := by
    intro t49 he56 l55 A50 c51 w52 hS53
    subst he56
    try dsimp only at hp48
    refine sx_run 2 (todo' := [.inRegion (opsOf (cd14 [1, 1, 1, 1, 1, 0])) [0, 1, 2], .code (cd14 [1, 1, 1, 1, 1, 1])]) (us := []) (by kernel_rfl) ?_
    obtain ⟨t57, hr58, hp59⟩ := bind_some' hp48
    refine r_call1 (c := (cd14 [1, 1, 1, 1, 1, 0])) (i := 0) (d := (some 30)) (g := 29) (args := #[.pointer (some ⟨b16, 0, none⟩)]) (by kernel_rfl) (by kernel_rfl) (by kernel_rfl) (by kernel_rfl) (bd_string.ok t49 b16 A50 c51 hS53 hr58) ?_
    rintro _ w60 ⟨rfl, hS61⟩
    refine ⟨.string t57, rfl, ?_⟩
    refine sx_run 3 (todo' := [.code (cd14 [1, 1, 1, 1, 1, 1])]) (us := [(2, .string t57), (3, .int .i64 0)]) (by kernel_rfl) ?_
    have hS62 := hS61.less hz36
    refine runs_ret (fn := Tryd.f14) (v := .tuple #[.string t57, .int .i64 0]) Tryd.func14 (by kernel_rfl) ?_
    have hr63 := (Option.some.inj hp59)
    cases hr63
    exact hR _ _ ⟨rfl, hS62⟩
   have L76 : ∀ (t64 : Int) (t65 : ByteArray) (e71 : ByteArray), state_Code.l0 a0 t64 t65 = some e71 → e71 = v46 → ∀ (l70 : List Value) (A66 : Option Addr) (c67 : Nat) (w68 : World) (hS69 : St w0 Z35 (xbld b16 A66 c67 t65 :: fs) w68), Runs Tryd.prog 14 [.code (cd14 [1, 1, 1, 1, 0, 1, 0, 0]), .inLoop (cd14 [1, 1, 1, 1, 0, 1, 0, 0]), .inBlock 0, .code (cd14 [1, 1, 1, 1, 1])] (fill [none, none, none, none, none, some (.pointer (some ⟨b16, 0, none⟩)), none, none, none, none, none, none, none, none, none, none, none, none, none, none, some (.slice A41 ((a0.V.toList.take a0.N.toNat).drop 0).length c42), some (.int .i64 (((a0.V.toList.take a0.N.toNat).drop 0).length : Int)), some (.int .i64 t64), none, none, none, none, none, none, none, none] l70) w68 R := by
    refine state_Code.l0.partial_correctness a0 (fun t64 t65 e71 => e71 = v46 → ∀ (l70 : List Value) (A66 : Option Addr) (c67 : Nat) (w68 : World) (hS69 : St w0 Z35 (xbld b16 A66 c67 t65 :: fs) w68), Runs Tryd.prog 14 [.code (cd14 [1, 1, 1, 1, 0, 1, 0, 0]), .inLoop (cd14 [1, 1, 1, 1, 0, 1, 0, 0]), .inBlock 0, .code (cd14 [1, 1, 1, 1, 1])] (fill [none, none, none, none, none, some (.pointer (some ⟨b16, 0, none⟩)), none, none, none, none, none, none, none, none, none, none, none, none, none, none, some (.slice A41 ((a0.V.toList.take a0.N.toNat).drop 0).length c42), some (.int .i64 (((a0.V.toList.take a0.N.toNat).drop 0).length : Int)), some (.int .i64 t64), none, none, none, none, none, none, none, none] l70) w68 R) ?_
    intro rec75 ih74 t64 t65 e71 hb73 he72 l70 A66 c67 w68 hS69
    refine sx_split 3 (todo' := [.inRegion (opsOf (cd14 [1, 1, 1, 1, 0, 1, 0, 0, 0])) [], .code (cd14 [1, 1, 1, 1, 0, 1, 0, 0, 1]), .inLoop (cd14 [1, 1, 1, 1, 0, 1, 0, 0]), .inBlock 0, .code (cd14 [1, 1, 1, 1, 1])]) (us := []) (d := 23) (t := (decide (t64 < (((a0.V.toList.take a0.N.toNat).drop 0).length : Int)))) (by kernel_rfl) (fun h77 => ?_) (fun h78 => ?_)
    ·skip
     have hp79 := ite_t hb73 h77
     refine sx_run 8 (todo' := [.inRegion (opsOf (cd14 [1, 1, 1, 1, 0, 1, 0, 0, 1, 1, 0, 0, 0])) [0, 1, 2], .code (cd14 [1, 1, 1, 1, 0, 1, 0, 0, 1, 1, 0, 0, 1]), .inBlock 1, .code (cd14 [1, 1, 1, 1, 0, 1, 0, 0, 1, 1, 1]), .inLoop (cd14 [1, 1, 1, 1, 0, 1, 0, 0]), .inBlock 0, .code (cd14 [1, 1, 1, 1, 1])]) (us := []) (by kernel_rfl) ?_
     obtain ⟨g80, hp81⟩ := ite_some hp79
     obtain ⟨b82, p83, hA84, hc85⟩ := hs44.atF g80.1 g80.2
     refine r_indexAddr (c := (cd14 [1, 1, 1, 1, 0, 1, 0, 0, 1, 1, 0, 0, 0])) (i := 0) (d := (some 24)) (ty := 0) (t := 54) (e := 2) (n := ((a0.V.toList.take a0.N.toNat).drop 0).length) (cp := c42) (sz := 1) (kk := .i64) (x := (.tmp 20)) (y := (.tmp 22)) (b := b82) (o' := p83) (j := t64) (by kernel_rfl) (by kernel_rfl) (slv (by kernel_rfl) hA84) (by kernel_rfl) (by kernel_rfl) (by kernel_rfl) g80.1 g80.2 ?_
     refine r_load (c := (cd14 [1, 1, 1, 1, 0, 1, 0, 0, 1, 1, 0, 0, 0])) (i := 1) (d := (some 25)) (ty := 2) (t := 2) (x := (.tmp 24)) (p := ⟨b82, p83 + t64.toNat * 1, none⟩) (v := .int .i64 (gt ((a0.V.toList.take a0.N.toNat).drop 0) t64)) (by kernel_rfl) (by kernel_rfl) (by kernel_rfl) (loads_at 0 (hc85.cells hS69) (by kernel_rfl) (by kernel_rfl)) ?_
     refine sx_run 4 (todo' := [.inRegion (opsOf (cd14 [1, 1, 1, 1, 0, 1, 0, 0, 1, 1, 0, 0, 1])) [1, 2], .inBlock 1, .code (cd14 [1, 1, 1, 1, 0, 1, 0, 0, 1, 1, 1]), .inLoop (cd14 [1, 1, 1, 1, 0, 1, 0, 0]), .inBlock 0, .code (cd14 [1, 1, 1, 1, 1])]) (us := [(7, .int .i64 (gt ((a0.V.toList.take a0.N.toNat).drop 0) t64)), (26, .int .i64 (gt ((a0.V.toList.take a0.N.toNat).drop 0) t64))]) (by kernel_rfl) ?_
     obtain ⟨t86, hr87, hp88⟩ := bind_some' hp81
     refine r_call1 (c := (cd14 [1, 1, 1, 1, 0, 1, 0, 0, 1, 1, 0, 0, 1])) (i := 1) (d := (some 27)) (g := 28) (args := #[.int .i64 (gt ((a0.V.toList.take a0.N.toNat).drop 0) t64)]) (by kernel_rfl) (by kernel_rfl) (by kernel_rfl) (by kernel_rfl) (word_Put.ok (gt ((a0.V.toList.take a0.N.toNat).drop 0) t64) hS69 hr87) ?_
     rintro _ w89 ⟨rfl, hS90⟩
     refine ⟨.string t86, rfl, ?_⟩
     obtain ⟨⟨t91, t92⟩, hr95, hp96⟩ := bind_some' hp88
     try dsimp only at hp96
     refine r_call1 (c := (cd14 [1, 1, 1, 1, 0, 1, 0, 0, 1, 1, 0, 0, 1])) (i := 2) (d := (some 28)) (g := 27) (args := #[.pointer (some ⟨b16, 0, none⟩), .string t86]) (by kernel_rfl) (by kernel_rfl) (by kernel_rfl) (by kernel_rfl) (bd_write.ok t65 t86 b16 A66 c67 hS90 hr95) ?_
     rintro _ w97 ⟨Q93, Q94, rfl, hS98⟩
     refine ⟨.tuple #[.int .i64 t91, .nilIface], rfl, ?_⟩
     refine sx_run 6 (todo' := [.inLoop (cd14 [1, 1, 1, 1, 0, 1, 0, 0]), .inBlock 0, .code (cd14 [1, 1, 1, 1, 1])]) (us := [(29, .int .i64 (IntKind.i64.wrap (t64 + 1))), (22, .int .i64 (IntKind.i64.wrap (t64 + 1)))]) (by kernel_rfl) ?_
     refine sx_run 1 (todo' := [.code (cd14 [1, 1, 1, 1, 0, 1, 0, 0]), .inLoop (cd14 [1, 1, 1, 1, 0, 1, 0, 0]), .inBlock 0, .code (cd14 [1, 1, 1, 1, 1])]) (us := []) (by kernel_rfl) ?_
     refine Runs.fill (m := [none, none, none, none, none, some (.pointer (some ⟨b16, 0, none⟩)), none, none, none, none, none, none, none, none, none, none, none, none, none, none, some (.slice A41 ((a0.V.toList.take a0.N.toNat).drop 0).length c42), some (.int .i64 (((a0.V.toList.take a0.N.toNat).drop 0).length : Int)), some (.int .i64 (IntKind.i64.wrap (t64 + 1))), none, none, none, none, none, none, none, none]) (by kernel_rfl) ?_
     exact ih74 (IntKind.i64.wrap (t64 + 1)) t92 _ hp96 he72 _ Q93 Q94 _ hS98
    ·skip
     have hp99 := ite_f hb73 h78
     refine sx_run 4 (todo' := [.code (cd14 [1, 1, 1, 1, 1])]) (us := []) (by kernel_rfl) ?_
     refine Runs.fill (m := [none, none, none, none, none, some (.pointer (some ⟨b16, 0, none⟩)), none, none, none, none, none, none, none, none, none, none, none, none, none, none, none, none, none, none, none, none, none, none, none, none, none]) (by kernel_rfl) ?_
     exact J54 t65 ((Option.some.inj hp99).trans he72) _ A66 c67 _ hS69
   refine Runs.fill (m := [none, none, none, none, none, some (.pointer (some ⟨b16, 0, none⟩)), none, none, none, none, none, none, none, none, none, none, none, none, none, none, some (.slice A41 ((a0.V.toList.take a0.N.toNat).drop 0).length c42), some (.int .i64 (((a0.V.toList.take a0.N.toNat).drop 0).length : Int)), some (.int .i64 0), none, none, none, none, none, none, none, none]) (by kernel_rfl) ?_
   exact L76 0 t27 _ hv47 rfl _ Q28 Q29 _ hS37

noncomputable def cd13 (p : List Nat) : Code := sub (bodyOf Tryd.f13) p
def state_Rises.l0 (a0 : List api_Final) (t11 : Int) : Option (Sum Unit Bool) :=
  (if (decide (t11 < (a0.length : Int))) = true then (if 0 ≤ t11 ∧ t11 < (a0.length : Int) then (state_Check.f (gt a0 t11) >>= (fun t37 => (if (t37 != 0) = true then some (.inr (false)) else (if (decide (t11 > 0)) = true then (if 0 ≤ (IntKind.i64.wrap (t11 - 1)) ∧ (IntKind.i64.wrap (t11 - 1)) < (a0.length : Int) then (state_Compare.f (gt a0 (IntKind.i64.wrap (t11 - 1))) (gt a0 t11) >>= (fun t57 => (if (decide (t57 ≥ 0)) = true then some (.inr (false)) else (state_Rises.l0 a0 (IntKind.i64.wrap (t11 + 1)))))) else none) else (state_Rises.l0 a0 (IntKind.i64.wrap (t11 + 1))))))) else none) else some (.inl ()))
 partial_fixpoint
def state_Rises.f (a0 : List api_Final) : Option Bool :=
  (state_Rises.l0 a0 0 >>= (fun | .inl () => some (true) | .inr e => some e))
set_option maxHeartbeats 16000000 in
theorem state_Rises.ok (a0 : List api_Final) (Aa0 : Option Addr) (ca0 : Nat) {w0 : World} {Z : Zm} {fs : List XObj} {w : World} (hS0 : St w0 Z (fs) w) (ha0 : SlZ (flat enc_api_Final) 49 Z Aa0 ca0 a0) {q0 : Bool} (hp0 : state_Rises.f a0 = some q0) :
    Calls Tryd.prog 13 #[.slice Aa0 a0.length ca0] w (fun e w' => e = .returned (.bool q0) ∧ St w0 Z (fs) w') := by
  refine calls_abs ?_; intro R hR
  unfold state_Rises.f at hp0
  refine calls_of_runs (fn := Tryd.f13) (c := cd13 []) Tryd.func13 (by kernel_rfl) (al := [.slice Aa0 a0.length ca0]) rfl (n := 29) rfl ?_
  refine sx_run 13 (todo' := [.code (cd13 [1, 0, 1, 0, 0]), .inLoop (cd13 [1, 0, 1, 0, 0]), .inBlock 0, .code (cd13 [1, 1])]) (us := [(2, .bool false), (5, .slice Aa0 a0.length ca0), (6, .int .i64 (a0.length : Int)), (7, .int .i64 0)]) (by kernel_rfl) ?_
  obtain ⟨v1, hv2, hp3⟩ := bind_some' hp0
  have hq6 : ∀ x, Sum.inr x = v1 → x = q0 := by intro x hx; subst hx; simpa using hp3
  have J7 : ∀ (he9 : Sum.inl () = v1) (l8 : List Value) (w4 : World) (hS5 : St w0 Z (fs) w4), Runs Tryd.prog 13 [.code (cd13 [1, 1])] (fill [none, none, none, none, none, none, none, none, none, none, none, none, none, none, none, none, none, none, none, none, none, none, none, none, none, none, none, none, none, none] l8) w4 R := by
   intro he9 l8 w4 hS5
   subst he9
   try dsimp only at hp3
   refine sx_run 4 (todo' := [.code (cd13 [1, 1, 1])]) (us := [(2, .bool true)]) (by kernel_rfl) ?_
   refine runs_ret (fn := Tryd.f13) (v := .bool true) Tryd.func13 (by kernel_rfl) ?_
   have hr10 := (Option.some.inj hp3)
   cases hr10
   exact hR _ _ ⟨rfl, hS5⟩
  have L20 : ∀ (t11 : Int) (e15 : Sum Unit Bool), state_Rises.l0 a0 t11 = some e15 → e15 = v1 → ∀ (l14 : List Value) (w12 : World) (hS13 : St w0 Z (fs) w12), Runs Tryd.prog 13 [.code (cd13 [1, 0, 1, 0, 0]), .inLoop (cd13 [1, 0, 1, 0, 0]), .inBlock 0, .code (cd13 [1, 1])] (fill [some (.slice Aa0 a0.length ca0), none, none, none, none, some (.slice Aa0 a0.length ca0), some (.int .i64 (a0.length : Int)), some (.int .i64 t11), none, none, none, none, none, none, none, none, none, none, none, none, none, none, none, none, none, none, none, none, none, none] l14) w12 R := by
   refine state_Rises.l0.partial_correctness a0 (fun t11 e15 => e15 = v1 → ∀ (l14 : List Value) (w12 : World) (hS13 : St w0 Z (fs) w12), Runs Tryd.prog 13 [.code (cd13 [1, 0, 1, 0, 0]), .inLoop (cd13 [1, 0, 1, 0, 0]), .inBlock 0, .code (cd13 [1, 1])] (fill [some (.slice Aa0 a0.length ca0), none, none, none, none, some (.slice Aa0 a0.length ca0), some (.int .i64 (a0.length : Int)), some (.int .i64 t11), none, none, none, none, none, none, none, none, none, none, none, none, none, none, none, none, none, none, none, none, none, none] l14) w12 R) ?_
   intro rec19 ih18 t11 e15 hb17 he16 l14 w12 hS13
   have hq21 : ∀ x, Sum.inr x = e15 → x = q0 := fun x hx => hq6 x (hx.trans he16)
   refine sx_split 3 (todo' := [.inRegion (opsOf (cd13 [1, 0, 1, 0, 0, 0])) [], .code (cd13 [1, 0, 1, 0, 0, 1]), .inLoop (cd13 [1, 0, 1, 0, 0]), .inBlock 0, .code (cd13 [1, 1])]) (us := []) (d := 8) (t := (decide (t11 < (a0.length : Int)))) (by kernel_rfl) (fun h22 => ?_) (fun h23 => ?_)
   ·skip
    have hp24 := ite_t hb17 h22
    refine sx_run 9 (todo' := [.inRegion (opsOf (cd13 [1, 0, 1, 0, 0, 1, 1, 0, 0, 0])) [1, 2, 3, 4, 5], .code (cd13 [1, 0, 1, 0, 0, 1, 1, 0, 0, 1]), .inBlock 1, .code (cd13 [1, 0, 1, 0, 0, 1, 1, 1]), .inLoop (cd13 [1, 0, 1, 0, 0]), .inBlock 0, .code (cd13 [1, 1])]) (us := [(9, .int .i64 t11)]) (by kernel_rfl) ?_
    obtain ⟨g25, hp26⟩ := ite_some hp24
    obtain ⟨b27, p28, hA29, hc30⟩ := ha0.atF g25.1 g25.2
    refine r_indexAddr (c := (cd13 [1, 0, 1, 0, 0, 1, 1, 0, 0, 0])) (i := 1) (d := (some 10)) (ty := 0) (t := 28) (e := 24) (n := a0.length) (cp := ca0) (sz := 49) (kk := .i64) (x := (.tmp 5)) (y := (.tmp 7)) (b := b27) (o' := p28) (j := t11) (by kernel_rfl) (by kernel_rfl) (slv (by kernel_rfl) hA29) (by kernel_rfl) (by kernel_rfl) (by kernel_rfl) g25.1 g25.2 ?_
    refine r_load (c := (cd13 [1, 0, 1, 0, 0, 1, 1, 0, 0, 0])) (i := 2) (d := (some 11)) (ty := 24) (t := 24) (x := (.tmp 10)) (p := ⟨b27, p28 + t11.toNat * 49, none⟩) (v := .agg (enc_api_Final (gt a0 t11)).toArray) (by kernel_rfl) (by kernel_rfl) (by kernel_rfl) (loads_agg (hc30.cells hS13) (by kernel_rfl) (lenK (len_api_Final _) (by kernel_rfl))) ?_
    refine r_alloc (c := (cd13 [1, 0, 1, 0, 0, 1, 1, 0, 0, 0])) (i := 3) (d := (some 4)) (ty := 0) (z := .agg (enc_api_Final (⟨0, (Vector.replicate 48 0)⟩ : api_Final)).toArray) (t := 24) (cs := enc_api_Final (⟨0, (Vector.replicate 48 0)⟩ : api_Final)) hS13 (by kernel_rfl) (by kernel_rfl) (by kernel_rfl) (by kernel_rfl) ?_
    intro b31 w32 hS33
    refine sx_run 1 (todo' := [.inRegion (opsOf (cd13 [1, 0, 1, 0, 0, 1, 1, 0, 0, 0])) [5], .code (cd13 [1, 0, 1, 0, 0, 1, 1, 0, 0, 1]), .inBlock 1, .code (cd13 [1, 0, 1, 0, 0, 1, 1, 1]), .inLoop (cd13 [1, 0, 1, 0, 0]), .inBlock 0, .code (cd13 [1, 1])]) (us := [(3, .int .i64 t11)]) (by kernel_rfl) ?_
    refine r_store (c := (cd13 [1, 0, 1, 0, 0, 1, 1, 0, 0, 0])) (i := 5) (d := none) (ty := 0) (t := 24) (x := (.tmp 4)) (y := (.tmp 11)) (b := b31) (o := 0) (e := 24) (cs := enc_api_Final (⟨0, (Vector.replicate 48 0)⟩ : api_Final)) (v := .agg (enc_api_Final (gt a0 t11)).toArray) (vs := enc_api_Final (gt a0 t11)) (cs' := enc_api_Final (gt a0 t11)) hS33 (by kernel_rfl) (by kernel_rfl) (by kernel_rfl) (by kernel_rfl) (by kernel_rfl) (lenK (len_api_Final _) (by kernel_rfl)) (one_api_Final _) (by simp only [len_api_Final, List.length_cons, List.length_nil, List.length_append]; omega) (over_all ((len_api_Final _).trans (len_api_Final _).symm)) ?_
    intro w35 hS36
    refine sx_run 2 (todo' := [.code (cd13 [1, 0, 1, 0, 0, 1, 1, 0, 0, 1, 0]), .code (cd13 [1, 0, 1, 0, 0, 1, 1, 0, 0, 1, 1]), .inBlock 1, .code (cd13 [1, 0, 1, 0, 0, 1, 1, 1]), .inLoop (cd13 [1, 0, 1, 0, 0]), .inBlock 0, .code (cd13 [1, 1])]) (us := []) (by kernel_rfl) ?_
    refine r_quiet hS36 (c := (cd13 [1, 0, 1, 0, 0, 1, 1, 0, 0, 1, 0])) (id := 4) (by kernel_rfl) (by kernel_rfl) (by kernel_rfl) (is := [0, 1, 2, 3, 4, 5, 6, 7, 8, 9, 10, 11, 12, 13, 14, 15, 16]) (by kernel_rfl) ?_
    refine q_load (c := (cd13 [1, 0, 1, 0, 0, 1, 1, 0, 0, 1, 0])) (i := 0) (d := (some 12)) (ty := 24) (t := 24) (x := (.tmp 4)) (p := ⟨b31, 0, none⟩) (v := .agg (enc_api_Final (gt a0 t11)).toArray) (by kernel_rfl) (by kernel_rfl) (by kernel_rfl) (fun w hC => (loads_agg (hC.blk 0 rfl) (by kernel_rfl) (lenK (len_api_Final _) (by kernel_rfl)))) ?_
    obtain ⟨t37, hr38, hp39⟩ := bind_some' hp26
    refine q_call1 (c := (cd13 [1, 0, 1, 0, 0, 1, 1, 0, 0, 1, 0])) (i := 1) (d := (some 13)) (v := .int .i64 t37) (g := 16) (args := #[.agg (enc_api_Final (gt a0 t11)).toArray]) (by kernel_rfl) (by kernel_rfl) (by kernel_rfl) (by kernel_rfl) (fun w hC => by
     refine (state_Check.ok (gt a0 t11) hC hr38).mono ?_
     rintro e w2 ⟨rfl, h2⟩
     exact ⟨rfl, h2⟩) ?_
    refine q_splitr 1 (is' := [3, 4, 5, 6, 7, 8, 9, 10, 11, 12, 13, 14, 15, 16]) (us := []) (d := 14) (t := (t37 != 0)) (by kernel_rfl) (fun h40 => ?_) (fun h41 => ?_)
    ·skip
     have hp42 := ite_t hp39 h40
     refine q_run 14 (is' := []) (us := [(15, .bool true), (16, undef), (17, undef), (18, undef), (19, undef), (20, undef), (21, undef), (22, undef), (23, undef), (24, undef), (25, undef), (26, undef), (27, undef), (28, .bool true)]) (by kernel_rfl) ?_
     refine Qs.nil ?_
     intro w43 hS44
     refine sx_run 5 (todo' := [.code (cd13 [1, 0, 1, 0, 0, 1, 1, 0, 0, 1, 1, 0, 1]), .inBlock 1, .code (cd13 [1, 0, 1, 0, 0, 1, 1, 1]), .inLoop (cd13 [1, 0, 1, 0, 0]), .inBlock 0, .code (cd13 [1, 1])]) (us := [(2, .bool false)]) (by kernel_rfl) ?_
     have hS45 := hS44.drop
     refine runs_ret (fn := Tryd.f13) (v := .bool false) Tryd.func13 (by kernel_rfl) ?_
     have hr46 := (hq21 _ (Option.some.inj hp42))
     cases hr46
     exact hR _ _ ⟨rfl, hS45⟩
    ·skip
     have hp47 := ite_f hp39 h41
     refine q_splitr 3 (is' := [6, 7, 8, 9, 10, 11, 12, 13, 14, 15, 16]) (us := [(15, .bool false), (16, .int .i64 t11)]) (d := 17) (t := (decide (t11 > 0))) (by kernel_rfl) (fun h48 => ?_) (fun h49 => ?_)
     ·skip
      have hp50 := ite_t hp47 h48
      refine q_run 4 (is' := [10, 11, 12, 13, 14, 15, 16]) (us := [(18, .bool true), (19, .slice Aa0 a0.length ca0), (20, .int .i64 t11), (21, .int .i64 (IntKind.i64.wrap (t11 - 1)))]) (by kernel_rfl) ?_
      obtain ⟨g51, hp52⟩ := ite_some hp50
      obtain ⟨b53, p54, hA55, hc56⟩ := ha0.atF g51.1 g51.2
      refine q_indexAddr (c := (cd13 [1, 0, 1, 0, 0, 1, 1, 0, 0, 1, 0])) (i := 10) (d := (some 22)) (ty := 0) (t := 28) (e := 24) (n := a0.length) (cp := ca0) (sz := 49) (kk := .i64) (x := (.tmp 19)) (y := (.tmp 21)) (b := b53) (o' := p54) (j := (IntKind.i64.wrap (t11 - 1))) (by kernel_rfl) (by kernel_rfl) (slv (by kernel_rfl) hA55) (by kernel_rfl) (by kernel_rfl) (by kernel_rfl) g51.1 g51.2 ?_
      refine q_load (c := (cd13 [1, 0, 1, 0, 0, 1, 1, 0, 0, 1, 0])) (i := 11) (d := (some 23)) (ty := 24) (t := 24) (x := (.tmp 22)) (p := ⟨b53, p54 + (IntKind.i64.wrap (t11 - 1)).toNat * 49, none⟩) (v := .agg (enc_api_Final (gt a0 (IntKind.i64.wrap (t11 - 1)))).toArray) (by kernel_rfl) (by kernel_rfl) (by kernel_rfl) (fun w hC => (loads_agg (hc56.cells hC) (by kernel_rfl) (lenK (len_api_Final _) (by kernel_rfl)))) ?_
      refine q_load (c := (cd13 [1, 0, 1, 0, 0, 1, 1, 0, 0, 1, 0])) (i := 12) (d := (some 24)) (ty := 24) (t := 24) (x := (.tmp 4)) (p := ⟨b31, 0, none⟩) (v := .agg (enc_api_Final (gt a0 t11)).toArray) (by kernel_rfl) (by kernel_rfl) (by kernel_rfl) (fun w hC => (loads_agg (hC.blk 0 rfl) (by kernel_rfl) (lenK (len_api_Final _) (by kernel_rfl)))) ?_
      obtain ⟨t57, hr58, hp59⟩ := bind_some' hp52
      refine q_call1 (c := (cd13 [1, 0, 1, 0, 0, 1, 1, 0, 0, 1, 0])) (i := 13) (d := (some 25)) (v := .int .i64 t57) (g := 8) (args := #[.agg (enc_api_Final (gt a0 (IntKind.i64.wrap (t11 - 1)))).toArray, .agg (enc_api_Final (gt a0 t11)).toArray]) (by kernel_rfl) (by kernel_rfl) (by kernel_rfl) (by kernel_rfl) (fun w hC => by
       refine (state_Compare.ok (gt a0 (IntKind.i64.wrap (t11 - 1))) (gt a0 t11) hC hr58).mono ?_
       rintro e w2 ⟨rfl, h2⟩
       exact ⟨rfl, h2⟩) ?_
      refine q_splitr 1 (is' := [15, 16]) (us := []) (d := 26) (t := (decide (t57 ≥ 0))) (by kernel_rfl) (fun h60 => ?_) (fun h61 => ?_)
      ·skip
       have hp62 := ite_t hp59 h60
       refine q_run 2 (is' := []) (us := [(27, .bool true), (28, .bool true)]) (by kernel_rfl) ?_
       refine Qs.nil ?_
       intro w63 hS64
       refine sx_run 5 (todo' := [.code (cd13 [1, 0, 1, 0, 0, 1, 1, 0, 0, 1, 1, 0, 1]), .inBlock 1, .code (cd13 [1, 0, 1, 0, 0, 1, 1, 1]), .inLoop (cd13 [1, 0, 1, 0, 0]), .inBlock 0, .code (cd13 [1, 1])]) (us := [(2, .bool false)]) (by kernel_rfl) ?_
       have hS65 := hS64.drop
       refine runs_ret (fn := Tryd.f13) (v := .bool false) Tryd.func13 (by kernel_rfl) ?_
       have hr66 := (hq21 _ (Option.some.inj hp62))
       cases hr66
       exact hR _ _ ⟨rfl, hS65⟩
      ·skip
       have hp67 := ite_f hp59 h61
       refine q_run 2 (is' := []) (us := [(27, .bool false), (28, .bool false)]) (by kernel_rfl) ?_
       refine Qs.nil ?_
       intro w68 hS69
       refine sx_run 7 (todo' := [.inLoop (cd13 [1, 0, 1, 0, 0]), .inBlock 0, .code (cd13 [1, 1])]) (us := [(29, .int .i64 (IntKind.i64.wrap (t11 + 1))), (7, .int .i64 (IntKind.i64.wrap (t11 + 1)))]) (by kernel_rfl) ?_
       have hS70 := hS69.drop
       refine sx_run 1 (todo' := [.code (cd13 [1, 0, 1, 0, 0]), .inLoop (cd13 [1, 0, 1, 0, 0]), .inBlock 0, .code (cd13 [1, 1])]) (us := []) (by kernel_rfl) ?_
       refine Runs.fill (m := [some (.slice Aa0 a0.length ca0), none, none, none, none, some (.slice Aa0 a0.length ca0), some (.int .i64 (a0.length : Int)), some (.int .i64 (IntKind.i64.wrap (t11 + 1))), none, none, none, none, none, none, none, none, none, none, none, none, none, none, none, none, none, none, none, none, none, none]) (by kernel_rfl) ?_
       exact ih18 (IntKind.i64.wrap (t11 + 1)) _ hp67 he16 _ _ hS70
     ·skip
      have hp71 := ite_f hp47 h49
      refine q_run 11 (is' := []) (us := [(18, .bool false), (19, undef), (20, undef), (21, undef), (22, undef), (23, undef), (24, undef), (25, undef), (26, undef), (27, .bool false), (28, .bool false)]) (by kernel_rfl) ?_
      refine Qs.nil ?_
      intro w72 hS73
      refine sx_run 7 (todo' := [.inLoop (cd13 [1, 0, 1, 0, 0]), .inBlock 0, .code (cd13 [1, 1])]) (us := [(29, .int .i64 (IntKind.i64.wrap (t11 + 1))), (7, .int .i64 (IntKind.i64.wrap (t11 + 1)))]) (by kernel_rfl) ?_
      have hS74 := hS73.drop
      refine sx_run 1 (todo' := [.code (cd13 [1, 0, 1, 0, 0]), .inLoop (cd13 [1, 0, 1, 0, 0]), .inBlock 0, .code (cd13 [1, 1])]) (us := []) (by kernel_rfl) ?_
      refine Runs.fill (m := [some (.slice Aa0 a0.length ca0), none, none, none, none, some (.slice Aa0 a0.length ca0), some (.int .i64 (a0.length : Int)), some (.int .i64 (IntKind.i64.wrap (t11 + 1))), none, none, none, none, none, none, none, none, none, none, none, none, none, none, none, none, none, none, none, none, none, none]) (by kernel_rfl) ?_
      exact ih18 (IntKind.i64.wrap (t11 + 1)) _ hp71 he16 _ _ hS74
   ·skip
    have hp75 := ite_f hb17 h23
    refine sx_run 4 (todo' := [.code (cd13 [1, 1])]) (us := []) (by kernel_rfl) ?_
    refine Runs.fill (m := [none, none, none, none, none, none, none, none, none, none, none, none, none, none, none, none, none, none, none, none, none, none, none, none, none, none, none, none, none, none]) (by kernel_rfl) ?_
    exact J7 ((Option.some.inj hp75).trans he16) _ _ hS13
  refine Runs.fill (m := [some (.slice Aa0 a0.length ca0), none, none, none, none, some (.slice Aa0 a0.length ca0), some (.int .i64 (a0.length : Int)), some (.int .i64 0), none, none, none, none, none, none, none, none, none, none, none, none, none, none, none, none, none, none, none, none, none, none]) (by kernel_rfl) ?_
  exact L20 0 _ hv2 rfl _ _ hS0

noncomputable def cd10 (p : List Nat) : Code := sub (bodyOf Tryd.f10) p
def state_Project.l1 (a0 : List api_Final) (a1 : List Int) (t53 : Int) (t111 : Int) (t112 : api_Final) : Option (Sum api_Final (Sum (List api_Final) ((List api_Final) × Int))) :=
  (if (decide (t111 < (a1.length : Int))) = true then (if 0 ≤ t111 ∧ t111 < (a1.length : Int) then (if (decide ((gt a1 t111) < 0)) = true then some (.inr (.inr (([], 4)))) else (if (decide ((gt a1 t111) ≥ ((gt a0 t53).N))) = true then some (.inr (.inr (([], 4)))) else (if 0 ≤ (gt a1 t111) ∧ (gt a1 t111) < 48 then (if 0 ≤ t111 ∧ t111 < 48 then (state_Project.l1 a0 a1 t53 (IntKind.i64.wrap (t111 + 1)) (⟨t112.N, (vset t112.V t111 (vget ((gt a0 t53).V) (gt a1 t111)))⟩ : api_Final)) else none) else none))) else none) else some (.inl t112))
 partial_fixpoint
def state_Project.l0 (a0 : List api_Final) (a1 : List Int) (t49 : List api_Final) (t53 : Int) : Option (Sum (List api_Final) ((List api_Final) × Int)) :=
  (if (decide (t53 < (a0.length : Int))) = true then (if 0 ≤ t53 ∧ t53 < (a0.length : Int) then (state_Project.l1 a0 a1 t53 0 (⟨(a1.length : Int), (Vector.replicate 48 0)⟩ : api_Final) >>= (fun | .inl t88 => (if (t49.length + ([t88] : List api_Final).length) * 392 ≤ 140737488355328 then (state_Project.l0 a0 a1 (t49 ++ ([t88] : List api_Final)) (IntKind.i64.wrap (t53 + 1))) else none) | .inr e => some e)) else none) else some (.inl t49))
 partial_fixpoint
def state_Project.f (a0 : List api_Final) (a1 : List Int) : Option ((List api_Final) × Int) :=
  (state_Rises.f a0 >>= (fun t1 => (if (!t1) = true then some (([], 100)) else (if (decide ((a1.length : Int) > 48)) = true then some (([], 1)) else (state_Project.l0 a0 a1 [] 0 >>= (fun | .inl t23 => (state_Sort.f t23 >>= (fun t33 => some ((t33, 0)))) | .inr e => some e))))))
set_option maxHeartbeats 16000000 in
theorem state_Project.ok (a0 : List api_Final) (a1 : List Int) (Aa0 : Option Addr) (ca0 : Nat) (Aa1 : Option Addr) (ca1 : Nat) {w0 : World} {Z : Zm} {fs : List XObj} {w : World} (hS0 : St w0 Z (fs) w) (ha0 : SlZ (flat enc_api_Final) 49 Z Aa0 ca0 a0) (ha1 : SlZ (flat (encI .i64)) 1 Z Aa1 ca1 a1) {q0 : List api_Final} {q1 : Int} (hp0 : state_Project.f a0 a1 = some (q0, q1)) :
    Calls Tryd.prog 10 #[.slice Aa0 a0.length ca0, .slice Aa1 a1.length ca1] w (fun e w' => ∃ (QA0 : Option Addr) (Qc0 : Nat), e = .returned (.tuple #[.slice QA0 q0.length Qc0, .int .i64 q1]) ∧ St w0 Z (xrow QA0 Qc0 24 49 (q0.flatMap enc_api_Final) :: fs) w') := by
  refine calls_abs ?_; intro R hR
  unfold state_Project.f at hp0
  refine calls_of_runs (fn := Tryd.f10) (c := cd10 []) Tryd.func10 (by kernel_rfl) (al := [.slice Aa0 a0.length ca0, .slice Aa1 a1.length ca1]) rfl (n := 55) rfl ?_
  refine sx_run 9 (todo' := [.inRegion (opsOf (cd10 [1, 0, 0])) [1, 2], .code (cd10 [1, 0, 1]), .code (cd10 [1, 1])]) (us := [(4, .slice none 0 0), (5, .int .i64 0), (12, .slice Aa0 a0.length ca0)]) (by kernel_rfl) ?_
  obtain ⟨t1, hr2, hp3⟩ := bind_some' hp0
  refine r_call1 (c := (cd10 [1, 0, 0])) (i := 1) (d := (some 13)) (g := 13) (args := #[.slice Aa0 a0.length ca0]) (by kernel_rfl) (by kernel_rfl) (by kernel_rfl) (by kernel_rfl) (state_Rises.ok a0 Aa0 ca0 hS0 ha0 hr2) ?_
  rintro _ w4 ⟨rfl, hS5⟩
  refine ⟨.bool t1, rfl, ?_⟩
  refine sx_split 1 (todo' := [.inRegion (opsOf (cd10 [1, 0, 0])) [], .code (cd10 [1, 0, 1]), .code (cd10 [1, 1])]) (us := []) (d := 14) (t := (!t1)) (by kernel_rfl) (fun h6 => ?_) (fun h7 => ?_)
  ·skip
   have hp8 := ite_t hp3 h6
   refine sx_run 7 (todo' := [.code (cd10 [1, 0, 1, 0, 1]), .code (cd10 [1, 1])]) (us := [(4, .slice none 0 0), (5, .int .i64 100)]) (by kernel_rfl) ?_
   have hS10 := hS5.nilrow none 24 49
   refine runs_ret (fn := Tryd.f10) (v := .tuple #[.slice none 0 0, .int .i64 100]) Tryd.func10 (by kernel_rfl) ?_
   have hr11 := (Option.some.inj hp8)
   cases hr11
   exact hR _ _ ⟨none, 0, rfl, hS10⟩
  ·skip
   have hp12 := ite_f hp3 h7
   refine sx_split 9 (todo' := [.inRegion (opsOf (cd10 [1, 1, 0, 0])) [], .code (cd10 [1, 1, 0, 1]), .code (cd10 [1, 1, 1])]) (us := [(15, .slice Aa1 a1.length ca1), (16, .int .i64 (a1.length : Int))]) (d := 17) (t := (decide ((a1.length : Int) > 48))) (by kernel_rfl) (fun h13 => ?_) (fun h14 => ?_)
   ·skip
    have hp15 := ite_t hp12 h13
    refine sx_run 7 (todo' := [.code (cd10 [1, 1, 0, 1, 0, 1]), .code (cd10 [1, 1, 1])]) (us := [(4, .slice none 0 0), (5, .int .i64 1)]) (by kernel_rfl) ?_
    have hS17 := hS5.nilrow none 24 49
    refine runs_ret (fn := Tryd.f10) (v := .tuple #[.slice none 0 0, .int .i64 1]) Tryd.func10 (by kernel_rfl) ?_
    have hr18 := (Option.some.inj hp15)
    cases hr18
    exact hR _ _ ⟨none, 0, rfl, hS17⟩
   ·skip
    have hp19 := ite_f hp12 h14
    refine sx_run 16 (todo' := [.code (cd10 [1, 1, 1, 1, 0, 1, 0, 0]), .inLoop (cd10 [1, 1, 1, 1, 0, 1, 0, 0]), .inBlock 0, .code (cd10 [1, 1, 1, 1, 1])]) (us := [(6, .slice none 0 0), (18, .slice Aa0 a0.length ca0), (19, .int .i64 (a0.length : Int)), (20, .int .i64 0)]) (by kernel_rfl) ?_
    obtain ⟨v20, hv21, hp22⟩ := bind_some' hp19
    have hq29 : ∀ x, Sum.inr x = v20 → x = (q0, q1) := by intro x hx; subst hx; simpa using hp22
    have J30 : ∀ (t23 : List api_Final) (he32 : Sum.inl t23 = v20) (l31 : List Value) (A24 : Option Addr) (c25 : Nat) (w27 : World) (hS28 : St w0 Z (xrow A24 c25 24 49 (t23.flatMap enc_api_Final) :: fs) w27), Runs Tryd.prog 10 [.code (cd10 [1, 1, 1, 1, 1])] (fill [none, none, none, none, none, none, some (.slice A24 t23.length c25), none, none, none, none, none, none, none, none, none, none, none, none, none, none, none, none, none, none, none, none, none, none, none, none, none, none, none, none, none, none, none, none, none, none, none, none, none, none, none, none, none, none, none, none, none, none, none, none, none, none] l31) w27 R := by
     intro t23 he32 l31 A24 c25 w27 hS28
     subst he32
     try dsimp only at hp22
     refine sx_run 3 (todo' := [.inRegion (opsOf (cd10 [1, 1, 1, 1, 1, 0])) [1, 2, 3], .code (cd10 [1, 1, 1, 1, 1, 1])]) (us := [(55, .slice A24 t23.length c25)]) (by kernel_rfl) ?_
     obtain ⟨t33, hr36, hp37⟩ := bind_some' hp22
     obtain ⟨Z39, hz40, hS41, hs42, hb43⟩ := hS28.lendrow len_api_Final (by omega)
     refine r_call1 (c := (cd10 [1, 1, 1, 1, 1, 0])) (i := 1) (d := (some 56)) (g := 9) (args := #[.slice A24 t23.length c25]) (by kernel_rfl) (by kernel_rfl) (by kernel_rfl) (by kernel_rfl) (state_Sort.ok t23 A24 c25 hS41 hs42 hr36) ?_
     rintro _ w44 ⟨Q34, Q35, rfl, hS45⟩
     refine ⟨.slice Q34 t33.length Q35, rfl, ?_⟩
     have hS46 := hb43 _ _ hS45
     refine sx_run 3 (todo' := [.code (cd10 [1, 1, 1, 1, 1, 1])]) (us := [(4, .slice Q34 t33.length Q35), (5, .int .i64 0)]) (by kernel_rfl) ?_
     have hS47 := hS46.drop
     refine runs_ret (fn := Tryd.f10) (v := .tuple #[.slice Q34 t33.length Q35, .int .i64 0]) Tryd.func10 (by kernel_rfl) ?_
     have hr48 := (Option.some.inj hp37)
     cases hr48
     exact hR _ _ ⟨Q34, Q35, rfl, hS47⟩
    have L62 : ∀ (t49 : List api_Final) (t53 : Int) (e57 : Sum (List api_Final) ((List api_Final) × Int)), state_Project.l0 a0 a1 t49 t53 = some e57 → e57 = v20 → ∀ (l56 : List Value) (A50 : Option Addr) (c51 : Nat) (w54 : World) (hS55 : St w0 Z (xrow A50 c51 24 49 (t49.flatMap enc_api_Final) :: fs) w54), Runs Tryd.prog 10 [.code (cd10 [1, 1, 1, 1, 0, 1, 0, 0]), .inLoop (cd10 [1, 1, 1, 1, 0, 1, 0, 0]), .inBlock 0, .code (cd10 [1, 1, 1, 1, 1])] (fill [none, some (.slice Aa1 a1.length ca1), none, none, none, none, some (.slice A50 t49.length c51), none, none, none, none, none, none, none, none, none, none, none, some (.slice Aa0 a0.length ca0), some (.int .i64 (a0.length : Int)), some (.int .i64 t53), none, none, none, none, none, none, none, none, none, none, none, none, none, none, none, none, none, none, none, none, none, none, none, none, none, none, none, none, none, none, none, none, none, none, none, none] l56) w54 R := by
     refine state_Project.l0.partial_correctness a0 a1 (fun t49 t53 e57 => e57 = v20 → ∀ (l56 : List Value) (A50 : Option Addr) (c51 : Nat) (w54 : World) (hS55 : St w0 Z (xrow A50 c51 24 49 (t49.flatMap enc_api_Final) :: fs) w54), Runs Tryd.prog 10 [.code (cd10 [1, 1, 1, 1, 0, 1, 0, 0]), .inLoop (cd10 [1, 1, 1, 1, 0, 1, 0, 0]), .inBlock 0, .code (cd10 [1, 1, 1, 1, 1])] (fill [none, some (.slice Aa1 a1.length ca1), none, none, none, none, some (.slice A50 t49.length c51), none, none, none, none, none, none, none, none, none, none, none, some (.slice Aa0 a0.length ca0), some (.int .i64 (a0.length : Int)), some (.int .i64 t53), none, none, none, none, none, none, none, none, none, none, none, none, none, none, none, none, none, none, none, none, none, none, none, none, none, none, none, none, none, none, none, none, none, none, none, none] l56) w54 R) ?_
     intro rec61 ih60 t49 t53 e57 hb59 he58 l56 A50 c51 w54 hS55
     have hq63 : ∀ x, Sum.inr x = e57 → x = (q0, q1) := fun x hx => hq29 x (hx.trans he58)
     refine sx_split 3 (todo' := [.inRegion (opsOf (cd10 [1, 1, 1, 1, 0, 1, 0, 0, 0])) [], .code (cd10 [1, 1, 1, 1, 0, 1, 0, 0, 1]), .inLoop (cd10 [1, 1, 1, 1, 0, 1, 0, 0]), .inBlock 0, .code (cd10 [1, 1, 1, 1, 1])]) (us := []) (d := 21) (t := (decide (t53 < (a0.length : Int)))) (by kernel_rfl) (fun h64 => ?_) (fun h65 => ?_)
     ·skip
      have hp66 := ite_t hb59 h64
      refine sx_run 8 (todo' := [.inRegion (opsOf (cd10 [1, 1, 1, 1, 0, 1, 0, 0, 1, 1, 0, 0, 0])) [0, 1, 2, 3], .code (cd10 [1, 1, 1, 1, 0, 1, 0, 0, 1, 1, 0, 0, 1]), .inBlock 1, .code (cd10 [1, 1, 1, 1, 0, 1, 0, 0, 1, 1, 1]), .inLoop (cd10 [1, 1, 1, 1, 0, 1, 0, 0]), .inBlock 0, .code (cd10 [1, 1, 1, 1, 1])]) (us := []) (by kernel_rfl) ?_
      obtain ⟨g67, hp68⟩ := ite_some hp66
      obtain ⟨b69, p70, hA71, hc72⟩ := ha0.atF g67.1 g67.2
      refine r_indexAddr (c := (cd10 [1, 1, 1, 1, 0, 1, 0, 0, 1, 1, 0, 0, 0])) (i := 0) (d := (some 22)) (ty := 0) (t := 28) (e := 24) (n := a0.length) (cp := ca0) (sz := 49) (kk := .i64) (x := (.tmp 18)) (y := (.tmp 20)) (b := b69) (o' := p70) (j := t53) (by kernel_rfl) (by kernel_rfl) (slv (by kernel_rfl) hA71) (by kernel_rfl) (by kernel_rfl) (by kernel_rfl) g67.1 g67.2 ?_
      refine r_load (c := (cd10 [1, 1, 1, 1, 0, 1, 0, 0, 1, 1, 0, 0, 0])) (i := 1) (d := (some 23)) (ty := 24) (t := 24) (x := (.tmp 22)) (p := ⟨b69, p70 + t53.toNat * 49, none⟩) (v := .agg (enc_api_Final (gt a0 t53)).toArray) (by kernel_rfl) (by kernel_rfl) (by kernel_rfl) (loads_agg (hc72.cells hS55) (by kernel_rfl) (lenK (len_api_Final _) (by kernel_rfl))) ?_
      refine r_alloc (c := (cd10 [1, 1, 1, 1, 0, 1, 0, 0, 1, 1, 0, 0, 0])) (i := 2) (d := (some 8)) (ty := 0) (z := .agg (enc_api_Final (⟨0, (Vector.replicate 48 0)⟩ : api_Final)).toArray) (t := 24) (cs := enc_api_Final (⟨0, (Vector.replicate 48 0)⟩ : api_Final)) hS55 (by kernel_rfl) (by kernel_rfl) (by kernel_rfl) (by kernel_rfl) ?_
      intro b73 w74 hS75
      refine r_store (c := (cd10 [1, 1, 1, 1, 0, 1, 0, 0, 1, 1, 0, 0, 0])) (i := 3) (d := none) (ty := 0) (t := 24) (x := (.tmp 8)) (y := (.tmp 23)) (b := b73) (o := 0) (e := 24) (cs := enc_api_Final (⟨0, (Vector.replicate 48 0)⟩ : api_Final)) (v := .agg (enc_api_Final (gt a0 t53)).toArray) (vs := enc_api_Final (gt a0 t53)) (cs' := enc_api_Final (gt a0 t53)) hS75 (by kernel_rfl) (by kernel_rfl) (by kernel_rfl) (by kernel_rfl) (by kernel_rfl) (lenK (len_api_Final _) (by kernel_rfl)) (one_api_Final _) (by simp only [len_api_Final, List.length_cons, List.length_nil, List.length_append]; omega) (over_all ((len_api_Final _).trans (len_api_Final _).symm)) ?_
      intro w77 hS78
      refine sx_run 6 (todo' := [.inRegion (opsOf (cd10 [1, 1, 1, 1, 0, 1, 0, 0, 1, 1, 0, 0, 1, 0])) [3, 4], .code (cd10 [1, 1, 1, 1, 0, 1, 0, 0, 1, 1, 0, 0, 1, 1]), .inBlock 1, .code (cd10 [1, 1, 1, 1, 0, 1, 0, 0, 1, 1, 1]), .inLoop (cd10 [1, 1, 1, 1, 0, 1, 0, 0]), .inBlock 0, .code (cd10 [1, 1, 1, 1, 1])]) (us := [(24, .slice Aa1 a1.length ca1), (25, .int .i64 (a1.length : Int)), (26, .agg (enc_api_Final (⟨(a1.length : Int), (Vector.replicate 48 0)⟩ : api_Final)).toArray)]) (by kernel_rfl) ?_
      refine r_alloc (c := (cd10 [1, 1, 1, 1, 0, 1, 0, 0, 1, 1, 0, 0, 1, 0])) (i := 3) (d := (some 9)) (ty := 0) (z := .agg (enc_api_Final (⟨0, (Vector.replicate 48 0)⟩ : api_Final)).toArray) (t := 24) (cs := enc_api_Final (⟨0, (Vector.replicate 48 0)⟩ : api_Final)) hS78 (by kernel_rfl) (by kernel_rfl) (by kernel_rfl) (by kernel_rfl) ?_
      intro b79 w80 hS81
      refine r_store (c := (cd10 [1, 1, 1, 1, 0, 1, 0, 0, 1, 1, 0, 0, 1, 0])) (i := 4) (d := none) (ty := 0) (t := 24) (x := (.tmp 9)) (y := (.tmp 26)) (b := b79) (o := 0) (e := 24) (cs := enc_api_Final (⟨0, (Vector.replicate 48 0)⟩ : api_Final)) (v := .agg (enc_api_Final (⟨(a1.length : Int), (Vector.replicate 48 0)⟩ : api_Final)).toArray) (vs := enc_api_Final (⟨(a1.length : Int), (Vector.replicate 48 0)⟩ : api_Final)) (cs' := enc_api_Final (⟨(a1.length : Int), (Vector.replicate 48 0)⟩ : api_Final)) hS81 (by kernel_rfl) (by kernel_rfl) (by kernel_rfl) (by kernel_rfl) (by kernel_rfl) (lenK (len_api_Final _) (by kernel_rfl)) (one_api_Final _) (by simp only [len_api_Final, List.length_cons, List.length_nil, List.length_append]; omega) (over_all ((len_api_Final _).trans (len_api_Final _).symm)) ?_
      intro w83 hS84
      refine sx_run 10 (todo' := [.code (cd10 [1, 1, 1, 1, 0, 1, 0, 0, 1, 1, 0, 0, 1, 1, 0, 1, 0, 0]), .inLoop (cd10 [1, 1, 1, 1, 0, 1, 0, 0, 1, 1, 0, 0, 1, 1, 0, 1, 0, 0]), .inBlock 2, .code (cd10 [1, 1, 1, 1, 0, 1, 0, 0, 1, 1, 0, 0, 1, 1, 1]), .inBlock 1, .code (cd10 [1, 1, 1, 1, 0, 1, 0, 0, 1, 1, 1]), .inLoop (cd10 [1, 1, 1, 1, 0, 1, 0, 0]), .inBlock 0, .code (cd10 [1, 1, 1, 1, 1])]) (us := [(27, .slice Aa1 a1.length ca1), (28, .int .i64 (a1.length : Int)), (29, .int .i64 0)]) (by kernel_rfl) ?_
      obtain ⟨v85, hv86, hp87⟩ := bind_some' hp68
      have hq91 : ∀ x, Sum.inr x = v85 → x = e57 := by intro x hx; subst hx; simpa using hp87
      have J92 : ∀ (t88 : api_Final) (he94 : Sum.inl t88 = v85) (l93 : List Value) (w89 : World) (hS90 : St w0 Z (xrow A50 c51 24 49 (t49.flatMap enc_api_Final) :: xblk b79 24 (enc_api_Final t88) :: fs) w89), Runs Tryd.prog 10 [.code (cd10 [1, 1, 1, 1, 0, 1, 0, 0, 1, 1, 0, 0, 1, 1, 1]), .inBlock 1, .code (cd10 [1, 1, 1, 1, 0, 1, 0, 0, 1, 1, 1]), .inLoop (cd10 [1, 1, 1, 1, 0, 1, 0, 0]), .inBlock 0, .code (cd10 [1, 1, 1, 1, 1])] (fill [none, some (.slice Aa1 a1.length ca1), none, none, none, none, some (.slice A50 t49.length c51), none, none, some (.pointer (some ⟨b79, 0, none⟩)), none, none, none, none, none, none, none, none, some (.slice Aa0 a0.length ca0), some (.int .i64 (a0.length : Int)), some (.int .i64 t53), none, none, none, none, none, none, none, none, none, none, none, none, none, none, none, none, none, none, none, none, none, none, none, none, none, none, none, none, none, none, none, none, none, none, none, none] l93) w89 R := by
       intro t88 he94 l93 w89 hS90
       subst he94
       try dsimp only at hp87
       refine sx_run 2 (todo' := [.inRegion (opsOf (cd10 [1, 1, 1, 1, 0, 1, 0, 0, 1, 1, 0, 0, 1, 1, 1])) [1, 2, 3, 4], .inBlock 1, .code (cd10 [1, 1, 1, 1, 0, 1, 0, 0, 1, 1, 1]), .inLoop (cd10 [1, 1, 1, 1, 0, 1, 0, 0]), .inBlock 0, .code (cd10 [1, 1, 1, 1, 1])]) (us := [(50, .slice A50 t49.length c51)]) (by kernel_rfl) ?_
       refine r_load (c := (cd10 [1, 1, 1, 1, 0, 1, 0, 0, 1, 1, 0, 0, 1, 1, 1])) (i := 1) (d := (some 51)) (ty := 24) (t := 24) (x := (.tmp 9)) (p := ⟨b79, 0, none⟩) (v := .agg (enc_api_Final t88).toArray) (by kernel_rfl) (by kernel_rfl) (by kernel_rfl) (loads_agg (hS90.blk 1 rfl) (by kernel_rfl) (lenK (len_api_Final _) (by kernel_rfl))) ?_
       refine r_lit (c := (cd10 [1, 1, 1, 1, 0, 1, 0, 0, 1, 1, 0, 0, 1, 1, 1])) (i := 2) (d := (some 52)) (ty := 28) (t := 28) (e := 24) (sz := 49) (n := 1) (parts := #[(0, (.tmp 51))]) (vs := [(0, .agg (enc_api_Final t88).toArray)]) (z := zeroOf Tryd.prog 24) (cs' := ([t88] : List api_Final).flatMap enc_api_Final) hS90 (by kernel_rfl) (by kernel_rfl) (by kernel_rfl) (by kernel_rfl) (by kernel_rfl) (by decide) (by decide) (by kernel_rfl) rfl (Parts.cons (c := enc_api_Final t88) (by kernel_rfl) (len_api_Final _) Parts.nil) rfl ?_
       intro b96 w97 hS98
       have hS99 := hS98.pick1
       obtain ⟨g100, hp101⟩ := ite_some hp87
       refine r_append (c := (cd10 [1, 1, 1, 1, 0, 1, 0, 0, 1, 1, 0, 0, 1, 1, 1])) (i := 3) (d := (some 53)) (ty := 28) (enc := enc_api_Final) (e := 24) (u := 24) (t := 28) (t2 := 28) (sz := 49) (cp := c51) (A := A50) (bytes := 392) (xs := t49) (ys := ([t88] : List api_Final)) (s := (.tmp 50)) (x := (.tmp 52)) (xv := .slice (some ⟨b96, 0, none⟩) ([t88] : List api_Final).length 1) (info := infoOf Tryd.prog 24) (z := zeroOf Tryd.prog 24) (ycs := ([t88] : List api_Final).flatMap enc_api_Final) hS99 (by kernel_rfl) (by kernel_rfl) (by kernel_rfl) (by kernel_rfl) (by kernel_rfl) (.inl (by kernel_rfl)) (by kernel_rfl) (by kernel_rfl) (by kernel_rfl) (by kernel_rfl) (by kernel_rfl) (by omega) len_api_Final one_api_Final (src_row (hS99.row 1 rfl) (by omega) len_api_Final) rfl g100 (by omega) ?_
       intro A102 c103 w104 hS105
       refine sx_run 7 (todo' := [.inLoop (cd10 [1, 1, 1, 1, 0, 1, 0, 0]), .inBlock 0, .code (cd10 [1, 1, 1, 1, 1])]) (us := [(6, .slice A102 (t49 ++ ([t88] : List api_Final)).length c103), (54, .int .i64 (IntKind.i64.wrap (t53 + 1))), (20, .int .i64 (IntKind.i64.wrap (t53 + 1)))]) (by kernel_rfl) ?_
       have hS107 := hS105.pick1
       have hS108 := hS107.drop
       have hS109 := hS108.pick1
       have hS110 := hS109.drop
       refine sx_run 1 (todo' := [.code (cd10 [1, 1, 1, 1, 0, 1, 0, 0]), .inLoop (cd10 [1, 1, 1, 1, 0, 1, 0, 0]), .inBlock 0, .code (cd10 [1, 1, 1, 1, 1])]) (us := []) (by kernel_rfl) ?_
       refine Runs.fill (m := [none, some (.slice Aa1 a1.length ca1), none, none, none, none, some (.slice A102 (t49 ++ ([t88] : List api_Final)).length c103), none, none, none, none, none, none, none, none, none, none, none, some (.slice Aa0 a0.length ca0), some (.int .i64 (a0.length : Int)), some (.int .i64 (IntKind.i64.wrap (t53 + 1))), none, none, none, none, none, none, none, none, none, none, none, none, none, none, none, none, none, none, none, none, none, none, none, none, none, none, none, none, none, none, none, none, none, none, none, none]) (by kernel_rfl) ?_
       exact ih60 (t49 ++ ([t88] : List api_Final)) (IntKind.i64.wrap (t53 + 1)) _ hp101 he58 _ A102 c103 _ hS110
      have L121 : ∀ (t111 : Int) (t112 : api_Final) (e116 : Sum api_Final (Sum (List api_Final) ((List api_Final) × Int))), state_Project.l1 a0 a1 t53 t111 t112 = some e116 → e116 = v85 → ∀ (l115 : List Value) (w113 : World) (hS114 : St w0 Z (xrow A50 c51 24 49 (t49.flatMap enc_api_Final) :: xblk b73 24 (enc_api_Final (gt a0 t53)) :: xblk b79 24 (enc_api_Final t112) :: fs) w113), Runs Tryd.prog 10 [.code (cd10 [1, 1, 1, 1, 0, 1, 0, 0, 1, 1, 0, 0, 1, 1, 0, 1, 0, 0]), .inLoop (cd10 [1, 1, 1, 1, 0, 1, 0, 0, 1, 1, 0, 0, 1, 1, 0, 1, 0, 0]), .inBlock 2, .code (cd10 [1, 1, 1, 1, 0, 1, 0, 0, 1, 1, 0, 0, 1, 1, 1]), .inBlock 1, .code (cd10 [1, 1, 1, 1, 0, 1, 0, 0, 1, 1, 1]), .inLoop (cd10 [1, 1, 1, 1, 0, 1, 0, 0]), .inBlock 0, .code (cd10 [1, 1, 1, 1, 1])] (fill [none, some (.slice Aa1 a1.length ca1), none, none, none, none, some (.slice A50 t49.length c51), none, some (.pointer (some ⟨b73, 0, none⟩)), some (.pointer (some ⟨b79, 0, none⟩)), none, none, none, none, none, none, none, none, some (.slice Aa0 a0.length ca0), some (.int .i64 (a0.length : Int)), some (.int .i64 t53), none, none, none, none, none, none, some (.slice Aa1 a1.length ca1), some (.int .i64 (a1.length : Int)), some (.int .i64 t111), none, none, none, none, none, none, none, none, none, none, none, none, none, none, none, none, none, none, none, none, none, none, none, none, none, none, none] l115) w113 R := by
       refine state_Project.l1.partial_correctness a0 a1 t53 (fun t111 t112 e116 => e116 = v85 → ∀ (l115 : List Value) (w113 : World) (hS114 : St w0 Z (xrow A50 c51 24 49 (t49.flatMap enc_api_Final) :: xblk b73 24 (enc_api_Final (gt a0 t53)) :: xblk b79 24 (enc_api_Final t112) :: fs) w113), Runs Tryd.prog 10 [.code (cd10 [1, 1, 1, 1, 0, 1, 0, 0, 1, 1, 0, 0, 1, 1, 0, 1, 0, 0]), .inLoop (cd10 [1, 1, 1, 1, 0, 1, 0, 0, 1, 1, 0, 0, 1, 1, 0, 1, 0, 0]), .inBlock 2, .code (cd10 [1, 1, 1, 1, 0, 1, 0, 0, 1, 1, 0, 0, 1, 1, 1]), .inBlock 1, .code (cd10 [1, 1, 1, 1, 0, 1, 0, 0, 1, 1, 1]), .inLoop (cd10 [1, 1, 1, 1, 0, 1, 0, 0]), .inBlock 0, .code (cd10 [1, 1, 1, 1, 1])] (fill [none, some (.slice Aa1 a1.length ca1), none, none, none, none, some (.slice A50 t49.length c51), none, some (.pointer (some ⟨b73, 0, none⟩)), some (.pointer (some ⟨b79, 0, none⟩)), none, none, none, none, none, none, none, none, some (.slice Aa0 a0.length ca0), some (.int .i64 (a0.length : Int)), some (.int .i64 t53), none, none, none, none, none, none, some (.slice Aa1 a1.length ca1), some (.int .i64 (a1.length : Int)), some (.int .i64 t111), none, none, none, none, none, none, none, none, none, none, none, none, none, none, none, none, none, none, none, none, none, none, none, none, none, none, none] l115) w113 R) ?_
       intro rec120 ih119 t111 t112 e116 hb118 he117 l115 w113 hS114
       have hq122 : ∀ x, Sum.inr x = e116 → x = e57 := fun x hx => hq91 x (hx.trans he117)
       refine sx_split 3 (todo' := [.inRegion (opsOf (cd10 [1, 1, 1, 1, 0, 1, 0, 0, 1, 1, 0, 0, 1, 1, 0, 1, 0, 0, 0])) [], .code (cd10 [1, 1, 1, 1, 0, 1, 0, 0, 1, 1, 0, 0, 1, 1, 0, 1, 0, 0, 1]), .inLoop (cd10 [1, 1, 1, 1, 0, 1, 0, 0, 1, 1, 0, 0, 1, 1, 0, 1, 0, 0]), .inBlock 2, .code (cd10 [1, 1, 1, 1, 0, 1, 0, 0, 1, 1, 0, 0, 1, 1, 1]), .inBlock 1, .code (cd10 [1, 1, 1, 1, 0, 1, 0, 0, 1, 1, 1]), .inLoop (cd10 [1, 1, 1, 1, 0, 1, 0, 0]), .inBlock 0, .code (cd10 [1, 1, 1, 1, 1])]) (us := []) (d := 30) (t := (decide (t111 < (a1.length : Int)))) (by kernel_rfl) (fun h123 => ?_) (fun h124 => ?_)
       ·skip
        have hp125 := ite_t hb118 h123
        refine sx_run 9 (todo' := [.inRegion (opsOf (cd10 [1, 1, 1, 1, 0, 1, 0, 0, 1, 1, 0, 0, 1, 1, 0, 1, 0, 0, 1, 1, 0, 0, 0])) [1, 2, 3, 4], .code (cd10 [1, 1, 1, 1, 0, 1, 0, 0, 1, 1, 0, 0, 1, 1, 0, 1, 0, 0, 1, 1, 0, 0, 1]), .inBlock 3, .code (cd10 [1, 1, 1, 1, 0, 1, 0, 0, 1, 1, 0, 0, 1, 1, 0, 1, 0, 0, 1, 1, 1]), .inLoop (cd10 [1, 1, 1, 1, 0, 1, 0, 0, 1, 1, 0, 0, 1, 1, 0, 1, 0, 0]), .inBlock 2, .code (cd10 [1, 1, 1, 1, 0, 1, 0, 0, 1, 1, 0, 0, 1, 1, 1]), .inBlock 1, .code (cd10 [1, 1, 1, 1, 0, 1, 0, 0, 1, 1, 1]), .inLoop (cd10 [1, 1, 1, 1, 0, 1, 0, 0]), .inBlock 0, .code (cd10 [1, 1, 1, 1, 1])]) (us := [(31, .int .i64 t111)]) (by kernel_rfl) ?_
        obtain ⟨g126, hp127⟩ := ite_some hp125
        obtain ⟨b128, p129, hA130, hc131⟩ := ha1.atF g126.1 g126.2
        refine r_indexAddr (c := (cd10 [1, 1, 1, 1, 0, 1, 0, 0, 1, 1, 0, 0, 1, 1, 0, 1, 0, 0, 1, 1, 0, 0, 0])) (i := 1) (d := (some 32)) (ty := 0) (t := 29) (e := 3) (n := a1.length) (cp := ca1) (sz := 1) (kk := .i64) (x := (.tmp 27)) (y := (.tmp 29)) (b := b128) (o' := p129) (j := t111) (by kernel_rfl) (by kernel_rfl) (slv (by kernel_rfl) hA130) (by kernel_rfl) (by kernel_rfl) (by kernel_rfl) g126.1 g126.2 ?_
        refine r_load (c := (cd10 [1, 1, 1, 1, 0, 1, 0, 0, 1, 1, 0, 0, 1, 1, 0, 1, 0, 0, 1, 1, 0, 0, 0])) (i := 2) (d := (some 33)) (ty := 3) (t := 3) (x := (.tmp 32)) (p := ⟨b128, p129 + t111.toNat * 1, none⟩) (v := .int .i64 (gt a1 t111)) (by kernel_rfl) (by kernel_rfl) (by kernel_rfl) (loads_at 0 (hc131.cells hS114) (by kernel_rfl) (by kernel_rfl)) ?_
        refine sx_split 8 (todo' := [.inRegion (opsOf (cd10 [1, 1, 1, 1, 0, 1, 0, 0, 1, 1, 0, 0, 1, 1, 0, 1, 0, 0, 1, 1, 0, 0, 1, 0, 0])) [2, 3, 4, 5, 6, 7], .code (cd10 [1, 1, 1, 1, 0, 1, 0, 0, 1, 1, 0, 0, 1, 1, 0, 1, 0, 0, 1, 1, 0, 0, 1, 0, 1]), .code (cd10 [1, 1, 1, 1, 0, 1, 0, 0, 1, 1, 0, 0, 1, 1, 0, 1, 0, 0, 1, 1, 0, 0, 1, 1]), .inBlock 3, .code (cd10 [1, 1, 1, 1, 0, 1, 0, 0, 1, 1, 0, 0, 1, 1, 0, 1, 0, 0, 1, 1, 1]), .inLoop (cd10 [1, 1, 1, 1, 0, 1, 0, 0, 1, 1, 0, 0, 1, 1, 0, 1, 0, 0]), .inBlock 2, .code (cd10 [1, 1, 1, 1, 0, 1, 0, 0, 1, 1, 0, 0, 1, 1, 1]), .inBlock 1, .code (cd10 [1, 1, 1, 1, 0, 1, 0, 0, 1, 1, 1]), .inLoop (cd10 [1, 1, 1, 1, 0, 1, 0, 0]), .inBlock 0, .code (cd10 [1, 1, 1, 1, 1])]) (us := [(10, .int .i64 t111), (11, .int .i64 (gt a1 t111)), (34, .int .i64 (gt a1 t111))]) (d := 35) (t := (decide ((gt a1 t111) < 0))) (by kernel_rfl) (fun h132 => ?_) (fun h133 => ?_)
        ·skip
         have hp134 := ite_t hp127 h132
         refine sx_run 13 (todo' := [.code (cd10 [1, 1, 1, 1, 0, 1, 0, 0, 1, 1, 0, 0, 1, 1, 0, 1, 0, 0, 1, 1, 0, 0, 1, 0, 1, 0, 1]), .code (cd10 [1, 1, 1, 1, 0, 1, 0, 0, 1, 1, 0, 0, 1, 1, 0, 1, 0, 0, 1, 1, 0, 0, 1, 1]), .inBlock 3, .code (cd10 [1, 1, 1, 1, 0, 1, 0, 0, 1, 1, 0, 0, 1, 1, 0, 1, 0, 0, 1, 1, 1]), .inLoop (cd10 [1, 1, 1, 1, 0, 1, 0, 0, 1, 1, 0, 0, 1, 1, 0, 1, 0, 0]), .inBlock 2, .code (cd10 [1, 1, 1, 1, 0, 1, 0, 0, 1, 1, 0, 0, 1, 1, 1]), .inBlock 1, .code (cd10 [1, 1, 1, 1, 0, 1, 0, 0, 1, 1, 1]), .inLoop (cd10 [1, 1, 1, 1, 0, 1, 0, 0]), .inBlock 0, .code (cd10 [1, 1, 1, 1, 1])]) (us := [(36, .bool true), (37, undef), (38, undef), (39, undef), (40, undef), (41, .bool true), (4, .slice none 0 0), (5, .int .i64 4)]) (by kernel_rfl) ?_
         have hS136 := hS114.nilrow none 24 49
         have hS137 := hS136.pick1
         have hS138 := hS137.drop
         have hS139 := hS138.pick1
         have hS140 := hS139.drop
         have hS141 := hS140.pick1
         have hS142 := hS141.drop
         refine runs_ret (fn := Tryd.f10) (v := .tuple #[.slice none 0 0, .int .i64 4]) Tryd.func10 (by kernel_rfl) ?_
         have hr143 := (hq63 _ (hq122 _ (Option.some.inj hp134)))
         cases hr143
         exact hR _ _ ⟨none, 0, rfl, hS142⟩
        ·skip
         have hp144 := ite_f hp127 h133
         refine sx_run 3 (todo' := [.inRegion (opsOf (cd10 [1, 1, 1, 1, 0, 1, 0, 0, 1, 1, 0, 0, 1, 1, 0, 1, 0, 0, 1, 1, 0, 0, 1, 0, 0])) [5, 6, 7], .code (cd10 [1, 1, 1, 1, 0, 1, 0, 0, 1, 1, 0, 0, 1, 1, 0, 1, 0, 0, 1, 1, 0, 0, 1, 0, 1]), .code (cd10 [1, 1, 1, 1, 0, 1, 0, 0, 1, 1, 0, 0, 1, 1, 0, 1, 0, 0, 1, 1, 0, 0, 1, 1]), .inBlock 3, .code (cd10 [1, 1, 1, 1, 0, 1, 0, 0, 1, 1, 0, 0, 1, 1, 0, 1, 0, 0, 1, 1, 1]), .inLoop (cd10 [1, 1, 1, 1, 0, 1, 0, 0, 1, 1, 0, 0, 1, 1, 0, 1, 0, 0]), .inBlock 2, .code (cd10 [1, 1, 1, 1, 0, 1, 0, 0, 1, 1, 0, 0, 1, 1, 1]), .inBlock 1, .code (cd10 [1, 1, 1, 1, 0, 1, 0, 0, 1, 1, 1]), .inLoop (cd10 [1, 1, 1, 1, 0, 1, 0, 0]), .inBlock 0, .code (cd10 [1, 1, 1, 1, 1])]) (us := [(36, .bool false), (37, .int .i64 (gt a1 t111)), (38, .pointer (some ⟨b73, 0, none⟩))]) (by kernel_rfl) ?_
         refine r_load (c := (cd10 [1, 1, 1, 1, 0, 1, 0, 0, 1, 1, 0, 0, 1, 1, 0, 1, 0, 0, 1, 1, 0, 0, 1, 0, 0])) (i := 5) (d := (some 39)) (ty := 3) (t := 3) (x := (.tmp 38)) (p := ⟨b73, 0, none⟩) (v := .int .i64 ((gt a0 t53).N)) (by kernel_rfl) (by kernel_rfl) (by kernel_rfl) (loads_at 0 (hS114.blk 1 rfl) (by kernel_rfl) (by kernel_rfl)) ?_
         refine sx_split 1 (todo' := [.inRegion (opsOf (cd10 [1, 1, 1, 1, 0, 1, 0, 0, 1, 1, 0, 0, 1, 1, 0, 1, 0, 0, 1, 1, 0, 0, 1, 0, 0])) [7], .code (cd10 [1, 1, 1, 1, 0, 1, 0, 0, 1, 1, 0, 0, 1, 1, 0, 1, 0, 0, 1, 1, 0, 0, 1, 0, 1]), .code (cd10 [1, 1, 1, 1, 0, 1, 0, 0, 1, 1, 0, 0, 1, 1, 0, 1, 0, 0, 1, 1, 0, 0, 1, 1]), .inBlock 3, .code (cd10 [1, 1, 1, 1, 0, 1, 0, 0, 1, 1, 0, 0, 1, 1, 0, 1, 0, 0, 1, 1, 1]), .inLoop (cd10 [1, 1, 1, 1, 0, 1, 0, 0, 1, 1, 0, 0, 1, 1, 0, 1, 0, 0]), .inBlock 2, .code (cd10 [1, 1, 1, 1, 0, 1, 0, 0, 1, 1, 0, 0, 1, 1, 1]), .inBlock 1, .code (cd10 [1, 1, 1, 1, 0, 1, 0, 0, 1, 1, 1]), .inLoop (cd10 [1, 1, 1, 1, 0, 1, 0, 0]), .inBlock 0, .code (cd10 [1, 1, 1, 1, 1])]) (us := []) (d := 40) (t := (decide ((gt a1 t111) ≥ ((gt a0 t53).N)))) (by kernel_rfl) (fun h145 => ?_) (fun h146 => ?_)
         ·skip
          have hp147 := ite_t hp144 h145
          refine sx_run 8 (todo' := [.code (cd10 [1, 1, 1, 1, 0, 1, 0, 0, 1, 1, 0, 0, 1, 1, 0, 1, 0, 0, 1, 1, 0, 0, 1, 0, 1, 0, 1]), .code (cd10 [1, 1, 1, 1, 0, 1, 0, 0, 1, 1, 0, 0, 1, 1, 0, 1, 0, 0, 1, 1, 0, 0, 1, 1]), .inBlock 3, .code (cd10 [1, 1, 1, 1, 0, 1, 0, 0, 1, 1, 0, 0, 1, 1, 0, 1, 0, 0, 1, 1, 1]), .inLoop (cd10 [1, 1, 1, 1, 0, 1, 0, 0, 1, 1, 0, 0, 1, 1, 0, 1, 0, 0]), .inBlock 2, .code (cd10 [1, 1, 1, 1, 0, 1, 0, 0, 1, 1, 0, 0, 1, 1, 1]), .inBlock 1, .code (cd10 [1, 1, 1, 1, 0, 1, 0, 0, 1, 1, 1]), .inLoop (cd10 [1, 1, 1, 1, 0, 1, 0, 0]), .inBlock 0, .code (cd10 [1, 1, 1, 1, 1])]) (us := [(41, .bool true), (4, .slice none 0 0), (5, .int .i64 4)]) (by kernel_rfl) ?_
          have hS149 := hS114.nilrow none 24 49
          have hS150 := hS149.pick1
          have hS151 := hS150.drop
          have hS152 := hS151.pick1
          have hS153 := hS152.drop
          have hS154 := hS153.pick1
          have hS155 := hS154.drop
          refine runs_ret (fn := Tryd.f10) (v := .tuple #[.slice none 0 0, .int .i64 4]) Tryd.func10 (by kernel_rfl) ?_
          have hr156 := (hq63 _ (hq122 _ (Option.some.inj hp147)))
          cases hr156
          exact hR _ _ ⟨none, 0, rfl, hS155⟩
         ·skip
          have hp157 := ite_f hp144 h146
          refine sx_run 8 (todo' := [.inRegion (opsOf (cd10 [1, 1, 1, 1, 0, 1, 0, 0, 1, 1, 0, 0, 1, 1, 0, 1, 0, 0, 1, 1, 0, 0, 1, 1])) [3, 4, 5, 6, 7], .inBlock 3, .code (cd10 [1, 1, 1, 1, 0, 1, 0, 0, 1, 1, 0, 0, 1, 1, 0, 1, 0, 0, 1, 1, 1]), .inLoop (cd10 [1, 1, 1, 1, 0, 1, 0, 0, 1, 1, 0, 0, 1, 1, 0, 1, 0, 0]), .inBlock 2, .code (cd10 [1, 1, 1, 1, 0, 1, 0, 0, 1, 1, 0, 0, 1, 1, 1]), .inBlock 1, .code (cd10 [1, 1, 1, 1, 0, 1, 0, 0, 1, 1, 1]), .inLoop (cd10 [1, 1, 1, 1, 0, 1, 0, 0]), .inBlock 0, .code (cd10 [1, 1, 1, 1, 1])]) (us := [(41, .bool false), (42, .int .i64 t111), (43, .int .i64 (gt a1 t111)), (44, .pointer (some ⟨b73, 1, none⟩))]) (by kernel_rfl) ?_
          obtain ⟨g158, hp159⟩ := ite_some hp157
          refine r_indexArr (c := (cd10 [1, 1, 1, 1, 0, 1, 0, 0, 1, 1, 0, 0, 1, 1, 0, 1, 0, 0, 1, 1, 0, 0, 1, 1])) (i := 3) (d := (some 45)) (ty := 0) (t := 22) (e := 2) (sz := 1) (kk := .i64) (x := (.tmp 44)) (y := (.tmp 43)) (b := b73) (o' := 1) (n := 48) (j := (gt a1 t111)) (by kernel_rfl) (by kernel_rfl) (by kernel_rfl) (by kernel_rfl) (by kernel_rfl) (by kernel_rfl) g158.1 g158.2 ?_
          refine r_load (c := (cd10 [1, 1, 1, 1, 0, 1, 0, 0, 1, 1, 0, 0, 1, 1, 0, 1, 0, 0, 1, 1, 0, 0, 1, 1])) (i := 4) (d := (some 46)) (ty := 2) (t := 2) (x := (.tmp 45)) (p := ⟨b73, 1 + (gt a1 t111).toNat * 1, none⟩) (v := .int .i64 (vget ((gt a0 t53).V) (gt a1 t111))) (by kernel_rfl) (by kernel_rfl) (by kernel_rfl) (loads_at 0 (cells_vget (sub_api_Final_V (hS114.blk 1 rfl)) (len_encI .i64) g158.1 g158.2) (by kernel_rfl) (by kernel_rfl)) ?_
          refine sx_run 1 (todo' := [.inRegion (opsOf (cd10 [1, 1, 1, 1, 0, 1, 0, 0, 1, 1, 0, 0, 1, 1, 0, 1, 0, 0, 1, 1, 0, 0, 1, 1])) [6, 7], .inBlock 3, .code (cd10 [1, 1, 1, 1, 0, 1, 0, 0, 1, 1, 0, 0, 1, 1, 0, 1, 0, 0, 1, 1, 1]), .inLoop (cd10 [1, 1, 1, 1, 0, 1, 0, 0, 1, 1, 0, 0, 1, 1, 0, 1, 0, 0]), .inBlock 2, .code (cd10 [1, 1, 1, 1, 0, 1, 0, 0, 1, 1, 0, 0, 1, 1, 1]), .inBlock 1, .code (cd10 [1, 1, 1, 1, 0, 1, 0, 0, 1, 1, 1]), .inLoop (cd10 [1, 1, 1, 1, 0, 1, 0, 0]), .inBlock 0, .code (cd10 [1, 1, 1, 1, 1])]) (us := [(47, .pointer (some ⟨b79, 1, none⟩))]) (by kernel_rfl) ?_
          obtain ⟨g160, hp161⟩ := ite_some hp159
          refine r_indexArr (c := (cd10 [1, 1, 1, 1, 0, 1, 0, 0, 1, 1, 0, 0, 1, 1, 0, 1, 0, 0, 1, 1, 0, 0, 1, 1])) (i := 6) (d := (some 48)) (ty := 0) (t := 22) (e := 2) (sz := 1) (kk := .i64) (x := (.tmp 47)) (y := (.tmp 42)) (b := b79) (o' := 1) (n := 48) (j := t111) (by kernel_rfl) (by kernel_rfl) (by kernel_rfl) (by kernel_rfl) (by kernel_rfl) (by kernel_rfl) g160.1 g160.2 ?_
          have hS162 := hS114.pick2
          refine r_store (c := (cd10 [1, 1, 1, 1, 0, 1, 0, 0, 1, 1, 0, 0, 1, 1, 0, 1, 0, 0, 1, 1, 0, 0, 1, 1])) (i := 7) (d := none) (ty := 0) (t := 2) (x := (.tmp 48)) (y := (.tmp 46)) (b := b79) (o := 1 + t111.toNat * 1) (e := 24) (cs := enc_api_Final t112) (v := .int .i64 (vget ((gt a0 t53).V) (gt a1 t111))) (vs := [.int .i64 (vget ((gt a0 t53).V) (gt a1 t111))]) (cs' := enc_api_Final (⟨t112.N, (vset t112.V t111 (vget ((gt a0 t53).V) (gt a1 t111)))⟩ : api_Final)) hS162 (by kernel_rfl) (by kernel_rfl) (by kernel_rfl) (by kernel_rfl) (by kernel_rfl) (by kernel_rfl) (by kernel_rfl) (by have := g160.1; have := g160.2; simp only [len_api_Final, List.length_cons, List.length_nil, List.length_append]; omega) (over_api_Final_V _ _ _ g160.1 g160.2) ?_
          intro w163 hS164
          refine sx_run 6 (todo' := [.inLoop (cd10 [1, 1, 1, 1, 0, 1, 0, 0, 1, 1, 0, 0, 1, 1, 0, 1, 0, 0]), .inBlock 2, .code (cd10 [1, 1, 1, 1, 0, 1, 0, 0, 1, 1, 0, 0, 1, 1, 1]), .inBlock 1, .code (cd10 [1, 1, 1, 1, 0, 1, 0, 0, 1, 1, 1]), .inLoop (cd10 [1, 1, 1, 1, 0, 1, 0, 0]), .inBlock 0, .code (cd10 [1, 1, 1, 1, 1])]) (us := [(49, .int .i64 (IntKind.i64.wrap (t111 + 1))), (29, .int .i64 (IntKind.i64.wrap (t111 + 1)))]) (by kernel_rfl) ?_
          have hS165 := hS164.pick2
          have hS166 := hS165.pick2
          refine sx_run 1 (todo' := [.code (cd10 [1, 1, 1, 1, 0, 1, 0, 0, 1, 1, 0, 0, 1, 1, 0, 1, 0, 0]), .inLoop (cd10 [1, 1, 1, 1, 0, 1, 0, 0, 1, 1, 0, 0, 1, 1, 0, 1, 0, 0]), .inBlock 2, .code (cd10 [1, 1, 1, 1, 0, 1, 0, 0, 1, 1, 0, 0, 1, 1, 1]), .inBlock 1, .code (cd10 [1, 1, 1, 1, 0, 1, 0, 0, 1, 1, 1]), .inLoop (cd10 [1, 1, 1, 1, 0, 1, 0, 0]), .inBlock 0, .code (cd10 [1, 1, 1, 1, 1])]) (us := []) (by kernel_rfl) ?_
          refine Runs.fill (m := [none, some (.slice Aa1 a1.length ca1), none, none, none, none, some (.slice A50 t49.length c51), none, some (.pointer (some ⟨b73, 0, none⟩)), some (.pointer (some ⟨b79, 0, none⟩)), none, none, none, none, none, none, none, none, some (.slice Aa0 a0.length ca0), some (.int .i64 (a0.length : Int)), some (.int .i64 t53), none, none, none, none, none, none, some (.slice Aa1 a1.length ca1), some (.int .i64 (a1.length : Int)), some (.int .i64 (IntKind.i64.wrap (t111 + 1))), none, none, none, none, none, none, none, none, none, none, none, none, none, none, none, none, none, none, none, none, none, none, none, none, none, none, none]) (by kernel_rfl) ?_
          exact ih119 (IntKind.i64.wrap (t111 + 1)) (⟨t112.N, (vset t112.V t111 (vget ((gt a0 t53).V) (gt a1 t111)))⟩ : api_Final) _ hp161 he117 _ _ hS166
       ·skip
        have hp167 := ite_f hb118 h124
        refine sx_run 4 (todo' := [.code (cd10 [1, 1, 1, 1, 0, 1, 0, 0, 1, 1, 0, 0, 1, 1, 1]), .inBlock 1, .code (cd10 [1, 1, 1, 1, 0, 1, 0, 0, 1, 1, 1]), .inLoop (cd10 [1, 1, 1, 1, 0, 1, 0, 0]), .inBlock 0, .code (cd10 [1, 1, 1, 1, 1])]) (us := []) (by kernel_rfl) ?_
        have hS168 := hS114.pick1
        have hS169 := hS168.drop
        refine Runs.fill (m := [none, some (.slice Aa1 a1.length ca1), none, none, none, none, some (.slice A50 t49.length c51), none, none, some (.pointer (some ⟨b79, 0, none⟩)), none, none, none, none, none, none, none, none, some (.slice Aa0 a0.length ca0), some (.int .i64 (a0.length : Int)), some (.int .i64 t53), none, none, none, none, none, none, none, none, none, none, none, none, none, none, none, none, none, none, none, none, none, none, none, none, none, none, none, none, none, none, none, none, none, none, none, none]) (by kernel_rfl) ?_
        exact J92 t112 ((Option.some.inj hp167).trans he117) _ _ hS169
      have hS170 := hS84.pick1
      have hS171 := hS170.pick2
      refine Runs.fill (m := [none, some (.slice Aa1 a1.length ca1), none, none, none, none, some (.slice A50 t49.length c51), none, some (.pointer (some ⟨b73, 0, none⟩)), some (.pointer (some ⟨b79, 0, none⟩)), none, none, none, none, none, none, none, none, some (.slice Aa0 a0.length ca0), some (.int .i64 (a0.length : Int)), some (.int .i64 t53), none, none, none, none, none, none, some (.slice Aa1 a1.length ca1), some (.int .i64 (a1.length : Int)), some (.int .i64 0), none, none, none, none, none, none, none, none, none, none, none, none, none, none, none, none, none, none, none, none, none, none, none, none, none, none, none]) (by kernel_rfl) ?_
      exact L121 0 (⟨(a1.length : Int), (Vector.replicate 48 0)⟩ : api_Final) _ hv86 rfl _ _ hS171
     ·skip
      have hp172 := ite_f hb59 h65
      refine sx_run 4 (todo' := [.code (cd10 [1, 1, 1, 1, 1])]) (us := []) (by kernel_rfl) ?_
      refine Runs.fill (m := [none, none, none, none, none, none, some (.slice A50 t49.length c51), none, none, none, none, none, none, none, none, none, none, none, none, none, none, none, none, none, none, none, none, none, none, none, none, none, none, none, none, none, none, none, none, none, none, none, none, none, none, none, none, none, none, none, none, none, none, none, none, none, none]) (by kernel_rfl) ?_
      exact J30 t49 ((Option.some.inj hp172).trans he58) _ A50 c51 _ hS55
    have hS174 := hS5.nilrow none 24 49
    refine Runs.fill (m := [none, some (.slice Aa1 a1.length ca1), none, none, none, none, some (.slice none 0 0), none, none, none, none, none, none, none, none, none, none, none, some (.slice Aa0 a0.length ca0), some (.int .i64 (a0.length : Int)), some (.int .i64 0), none, none, none, none, none, none, none, none, none, none, none, none, none, none, none, none, none, none, none, none, none, none, none, none, none, none, none, none, none, none, none, none, none, none, none, none]) (by kernel_rfl) ?_
    exact L62 [] 0 _ hv21 rfl _ none 0 _ hS174

noncomputable def cd11 (p : List Nat) : Code := sub (bodyOf Tryd.f11) p
def weirlaw10_num.f (a0 : Int) : Option Int :=
  some (a0)
set_option maxHeartbeats 16000000 in
theorem weirlaw10_num.ok (a0 : Int) {w0 : World} {Z : Zm} {fs : List XObj} {w : World} (hS0 : St w0 Z (fs) w) {q0 : Int} (hp0 : weirlaw10_num.f a0 = some q0) :
    Calls Tryd.prog 11 #[.int .i64 a0] w (fun e w' => e = .returned (.int .i64 q0) ∧ St w0 Z (fs) w') := by
  refine calls_abs ?_; intro R hR
  unfold weirlaw10_num.f at hp0
  refine calls_of_runs (fn := Tryd.f11) (c := cd11 []) Tryd.func11 (by kernel_rfl) (al := [.int .i64 a0]) rfl (n := 3) rfl ?_
  refine sx_run 9 (todo' := [.code (cd11 [1, 1])]) (us := [(2, .int .i64 0), (3, .int .i64 a0), (2, .int .i64 a0)]) (by kernel_rfl) ?_
  refine runs_ret (fn := Tryd.f11) (v := .int .i64 a0) Tryd.func11 (by kernel_rfl) ?_
  have hr1 := (Option.some.inj hp0)
  cases hr1
  exact hR _ _ ⟨rfl, hS0⟩

noncomputable def cd7 (p : List Nat) : Code := sub (bodyOf Tryd.f7) p
def weirlaw10_works.f : Option Bool :=
  (weirlaw10_of.f 1 2 >>= (fun t1 => (weirlaw10_of.f 0 9 >>= (fun t6 => (weirlaw10_of.f 1 2 >>= (fun t11 => (state_Sort.f ([t1, t6, t11] : List api_Final) >>= (fun t20 => (weirlaw10_of.f 0 (-1) >>= (fun t34 => (state_Text.f t34 ([(⟨0, (⟨#[69, 65, 88]⟩ : ByteArray)⟩ : api_Ref), (⟨(-1), (⟨#[120]⟩ : ByteArray)⟩ : api_Ref)] : List api_Ref) >>= (fun (t43, t44) => (weirlaw10_of.f 0 (-1) >>= (fun t55 => (state_Code.f t55 >>= (fun (t60, t61) => (state_Project.f t20 ([1] : List Int) >>= (fun (t70, t71) => (if ((t20.length : Int) == 2) = true then (if 0 ≤ (0 : Int) ∧ (0 : Int) < (t20.length : Int) then (weirlaw10_of.f 0 9 >>= (fun t101 => (if (decide ((gt t20 (0 : Int)) = t101)) = true then (weirlaw10_num.f t44 >>= (fun t112 => (if (t112 == 0) = true then (if (seq t43 (⟨#[48, 58, 69, 65, 88, 61, 48, 59, 32, 120, 61, 45, 49, 59]⟩ : ByteArray)) = true then (weirlaw10_num.f t61 >>= (fun t126 => (if (t126 == 0) = true then (if (seq t60 (⟨#[4, 0, 1]⟩ : ByteArray)) = true then (weirlaw10_num.f t71 >>= (fun t140 => (if (t140 == 0) = true then (if ((t70.length : Int) == 2) = true then (if 0 ≤ (0 : Int) ∧ (0 : Int) < (t70.length : Int) then (if 0 ≤ (0 : Int) ∧ (0 : Int) < 48 then (if ((vget ((gt t70 (0 : Int)).V) (0 : Int)) == 2) = true then some (true) else some (false)) else none) else none) else some (false)) else some (false)))) else some (false)) else some (false)))) else some (false)) else some (false)))) else some (false)))) else none) else some (false))))))))))))))))))))
set_option maxHeartbeats 16000000 in
theorem weirlaw10_works.ok {w0 : World} {Z : Zm} {fs : List XObj} {w : World} (hS0 : St w0 Z (fs) w) (hE : Env Z) {q0 : Bool} (hp0 : weirlaw10_works.f = some q0) :
    Calls Tryd.prog 7 #[] w (fun e w' => e = .returned (.bool q0) ∧ St w0 Z (fs) w') := by
  refine calls_abs ?_; intro R hR
  unfold weirlaw10_works.f at hp0
  refine calls_of_runs (fn := Tryd.f7) (c := cd7 []) Tryd.func7 (by kernel_rfl) (al := []) rfl (n := 78) rfl ?_
  refine sx_run 6 (todo' := [.inRegion (opsOf (cd7 [1, 0])) [0, 1, 2, 3, 4, 5], .code (cd7 [1, 1])]) (us := [(0, .bool false)]) (by kernel_rfl) ?_
  obtain ⟨t1, hr2, hp3⟩ := bind_some' hp0
  refine r_call1 (c := (cd7 [1, 0])) (i := 0) (d := (some 8)) (g := 22) (args := #[.int .i64 1, .int .i64 2]) (by kernel_rfl) (by kernel_rfl) (by kernel_rfl) (by kernel_rfl) (weirlaw10_of.ok 1 2 hS0 hr2) ?_
  rintro _ w4 ⟨rfl, hS5⟩
  refine ⟨.agg (enc_api_Final t1).toArray, rfl, ?_⟩
  obtain ⟨t6, hr7, hp8⟩ := bind_some' hp3
  refine r_call1 (c := (cd7 [1, 0])) (i := 1) (d := (some 9)) (g := 22) (args := #[.int .i64 0, .int .i64 9]) (by kernel_rfl) (by kernel_rfl) (by kernel_rfl) (by kernel_rfl) (weirlaw10_of.ok 0 9 hS5 hr7) ?_
  rintro _ w9 ⟨rfl, hS10⟩
  refine ⟨.agg (enc_api_Final t6).toArray, rfl, ?_⟩
  obtain ⟨t11, hr12, hp13⟩ := bind_some' hp8
  refine r_call1 (c := (cd7 [1, 0])) (i := 2) (d := (some 10)) (g := 22) (args := #[.int .i64 1, .int .i64 2]) (by kernel_rfl) (by kernel_rfl) (by kernel_rfl) (by kernel_rfl) (weirlaw10_of.ok 1 2 hS10 hr12) ?_
  rintro _ w14 ⟨rfl, hS15⟩
  refine ⟨.agg (enc_api_Final t11).toArray, rfl, ?_⟩
  refine r_lit (c := (cd7 [1, 0])) (i := 3) (d := (some 11)) (ty := 28) (t := 28) (e := 24) (sz := 49) (n := 3) (parts := #[(0, (.tmp 8)), (1, (.tmp 9)), (2, (.tmp 10))]) (vs := [(0, .agg (enc_api_Final t1).toArray), (1, .agg (enc_api_Final t6).toArray), (2, .agg (enc_api_Final t11).toArray)]) (z := zeroOf Tryd.prog 24) (cs' := ([t1, t6, t11] : List api_Final).flatMap enc_api_Final) hS15 (by kernel_rfl) (by kernel_rfl) (by kernel_rfl) (by kernel_rfl) (by kernel_rfl) (by decide) (by decide) (by kernel_rfl) rfl (Parts.cons (c := enc_api_Final t1) (by kernel_rfl) (len_api_Final _) (Parts.cons (c := enc_api_Final t6) (by kernel_rfl) (len_api_Final _) (Parts.cons (c := enc_api_Final t11) (by kernel_rfl) (len_api_Final _) Parts.nil))) rfl ?_
  intro b17 w18 hS19
  obtain ⟨t20, hr23, hp24⟩ := bind_some' hp13
  obtain ⟨Z26, hz27, hS28, hs29, hb30⟩ := hS19.lendrow len_api_Final (by omega)
  refine r_call1 (c := (cd7 [1, 0])) (i := 4) (d := (some 12)) (g := 9) (args := #[.slice (some ⟨b17, 0, none⟩) ([t1, t6, t11] : List api_Final).length 3]) (by kernel_rfl) (by kernel_rfl) (by kernel_rfl) (by kernel_rfl) (state_Sort.ok ([t1, t6, t11] : List api_Final) (some ⟨b17, 0, none⟩) 3 hS28 hs29 hr23) ?_
  rintro _ w31 ⟨Q21, Q22, rfl, hS32⟩
  refine ⟨.slice Q21 t20.length Q22, rfl, ?_⟩
  have hS33 := hb30 _ _ hS32
  refine sx_run 4 (todo' := [.inRegion (opsOf (cd7 [1, 1, 0])) [0, 1, 2, 3, 4, 5, 6, 7, 8, 9], .code (cd7 [1, 1, 1])]) (us := [(1, .slice Q21 t20.length Q22)]) (by kernel_rfl) ?_
  obtain ⟨t34, hr35, hp36⟩ := bind_some' hp24
  refine r_call1 (c := (cd7 [1, 1, 0])) (i := 0) (d := (some 14)) (g := 22) (args := #[.int .i64 0, .int .i64 (-1)]) (by kernel_rfl) (by kernel_rfl) (by kernel_rfl) (by kernel_rfl) (weirlaw10_of.ok 0 (-1) hS33 hr35) ?_
  rintro _ w37 ⟨rfl, hS38⟩
  refine ⟨.agg (enc_api_Final t34).toArray, rfl, ?_⟩
  refine sx_run 2 (todo' := [.inRegion (opsOf (cd7 [1, 1, 0])) [3, 4, 5, 6, 7, 8, 9], .code (cd7 [1, 1, 1])]) (us := [(15, .agg (enc_api_Ref (⟨0, (⟨#[69, 65, 88]⟩ : ByteArray)⟩ : api_Ref)).toArray), (16, .agg (enc_api_Ref (⟨(-1), (⟨#[120]⟩ : ByteArray)⟩ : api_Ref)).toArray)]) (by kernel_rfl) ?_
  refine r_lit (c := (cd7 [1, 1, 0])) (i := 3) (d := (some 17)) (ty := 52) (t := 52) (e := 51) (sz := 2) (n := 2) (parts := #[(0, (.tmp 15)), (1, (.tmp 16))]) (vs := [(0, .agg (enc_api_Ref (⟨0, (⟨#[69, 65, 88]⟩ : ByteArray)⟩ : api_Ref)).toArray), (1, .agg (enc_api_Ref (⟨(-1), (⟨#[120]⟩ : ByteArray)⟩ : api_Ref)).toArray)]) (z := zeroOf Tryd.prog 51) (cs' := ([(⟨0, (⟨#[69, 65, 88]⟩ : ByteArray)⟩ : api_Ref), (⟨(-1), (⟨#[120]⟩ : ByteArray)⟩ : api_Ref)] : List api_Ref).flatMap enc_api_Ref) hS38 (by kernel_rfl) (by kernel_rfl) (by kernel_rfl) (by kernel_rfl) (by kernel_rfl) (by decide) (by decide) (by kernel_rfl) rfl (Parts.cons (c := enc_api_Ref (⟨0, (⟨#[69, 65, 88]⟩ : ByteArray)⟩ : api_Ref)) (by kernel_rfl) (len_api_Ref _) (Parts.cons (c := enc_api_Ref (⟨(-1), (⟨#[120]⟩ : ByteArray)⟩ : api_Ref)) (by kernel_rfl) (len_api_Ref _) Parts.nil)) rfl ?_
  intro b40 w41 hS42
  obtain ⟨⟨t43, t44⟩, hr45, hp46⟩ := bind_some' hp36
  try dsimp only at hp46
  obtain ⟨Z47, hz48, hS49, hs50, hb51⟩ := hS42.lendrow len_api_Ref (by omega)
  refine r_call1 (c := (cd7 [1, 1, 0])) (i := 4) (d := (some 18)) (g := 23) (args := #[.agg (enc_api_Final t34).toArray, .slice (some ⟨b40, 0, none⟩) ([(⟨0, (⟨#[69, 65, 88]⟩ : ByteArray)⟩ : api_Ref), (⟨(-1), (⟨#[120]⟩ : ByteArray)⟩ : api_Ref)] : List api_Ref).length 2]) (by kernel_rfl) (by kernel_rfl) (by kernel_rfl) (by kernel_rfl) (state_Text.ok t34 ([(⟨0, (⟨#[69, 65, 88]⟩ : ByteArray)⟩ : api_Ref), (⟨(-1), (⟨#[120]⟩ : ByteArray)⟩ : api_Ref)] : List api_Ref) (some ⟨b40, 0, none⟩) 2 hS49 hs50 (hE.up hz48) hr45) ?_
  rintro _ w52 ⟨rfl, hS53⟩
  refine ⟨.tuple #[.string t43, .int .i64 t44], rfl, ?_⟩
  have hS54 := hb51 _ _ hS53
  refine sx_run 8 (todo' := [.inRegion (opsOf (cd7 [1, 1, 1, 0])) [0, 1, 2, 3, 4, 5, 6], .code (cd7 [1, 1, 1, 1])]) (us := [(13, .tuple #[.string t43, .int .i64 t44]), (19, .string t43), (20, .int .i64 t44), (2, .string t43), (3, .int .i64 t44)]) (by kernel_rfl) ?_
  obtain ⟨t55, hr56, hp57⟩ := bind_some' hp46
  refine r_call1 (c := (cd7 [1, 1, 1, 0])) (i := 0) (d := (some 22)) (g := 22) (args := #[.int .i64 0, .int .i64 (-1)]) (by kernel_rfl) (by kernel_rfl) (by kernel_rfl) (by kernel_rfl) (weirlaw10_of.ok 0 (-1) hS54 hr56) ?_
  rintro _ w58 ⟨rfl, hS59⟩
  refine ⟨.agg (enc_api_Final t55).toArray, rfl, ?_⟩
  obtain ⟨⟨t60, t61⟩, hr62, hp63⟩ := bind_some' hp57
  try dsimp only at hp63
  refine r_call1 (c := (cd7 [1, 1, 1, 0])) (i := 1) (d := (some 23)) (g := 14) (args := #[.agg (enc_api_Final t55).toArray]) (by kernel_rfl) (by kernel_rfl) (by kernel_rfl) (by kernel_rfl) (state_Code.ok t55 hS59 hr62) ?_
  rintro _ w64 ⟨rfl, hS65⟩
  refine ⟨.tuple #[.string t60, .int .i64 t61], rfl, ?_⟩
  refine sx_run 9 (todo' := [.inRegion (opsOf (cd7 [1, 1, 1, 1, 0])) [1, 2, 3, 4, 5, 6, 7], .code (cd7 [1, 1, 1, 1, 1])]) (us := [(21, .tuple #[.string t60, .int .i64 t61]), (24, .string t60), (25, .int .i64 t61), (4, .string t60), (5, .int .i64 t61), (27, .slice Q21 t20.length Q22)]) (by kernel_rfl) ?_
  refine r_lit (c := (cd7 [1, 1, 1, 1, 0])) (i := 1) (d := (some 28)) (ty := 29) (t := 29) (e := 3) (sz := 1) (n := 1) (parts := #[(0, (.const (.int .i64 1)))]) (vs := [(0, .int .i64 1)]) (z := zeroOf Tryd.prog 3) (cs' := ([1] : List Int).flatMap (encI .i64)) hS65 (by kernel_rfl) (by kernel_rfl) (by kernel_rfl) (by kernel_rfl) (by kernel_rfl) (by decide) (by decide) (by kernel_rfl) rfl (Parts.cons (c := [.int .i64 1]) (by kernel_rfl) rfl Parts.nil) rfl ?_
  intro b67 w68 hS69
  obtain ⟨⟨t70, t71⟩, hr74, hp75⟩ := bind_some' hp63
  try dsimp only at hp75
  have hS77 := hS69.pick3
  obtain ⟨Z78, hz79, hS80, hs81, hb82⟩ := hS77.lendrow len_api_Final (by omega)
  obtain ⟨Z83, hz84, hS85, hs86, hb87⟩ := hS80.lendrow (len_encI .i64) (by omega)
  refine r_call1 (c := (cd7 [1, 1, 1, 1, 0])) (i := 2) (d := (some 29)) (g := 10) (args := #[.slice Q21 t20.length Q22, .slice (some ⟨b67, 0, none⟩) ([1] : List Int).length 1]) (by kernel_rfl) (by kernel_rfl) (by kernel_rfl) (by kernel_rfl) (state_Project.ok t20 ([1] : List Int) Q21 Q22 (some ⟨b67, 0, none⟩) 1 hS85 (hs81.up hz84) hs86 hr74) ?_
  rintro _ w88 ⟨Q72, Q73, rfl, hS89⟩
  refine ⟨.tuple #[.slice Q72 t70.length Q73, .int .i64 t71], rfl, ?_⟩
  have hS90 := hb87 _ _ hS89
  have hS91 := hb82 _ _ hS90
  refine sx_run 7 (todo' := [.code (cd7 [1, 1, 1, 1, 1, 0]), .code (cd7 [1, 1, 1, 1, 1, 1])]) (us := [(26, .tuple #[.slice Q72 t70.length Q73, .int .i64 t71]), (30, .slice Q72 t70.length Q73), (31, .int .i64 t71), (6, .slice Q72 t70.length Q73), (7, .int .i64 t71)]) (by kernel_rfl) ?_
  refine r_quiet hS91 (c := (cd7 [1, 1, 1, 1, 1, 0])) (id := 5) (by kernel_rfl) (by kernel_rfl) (by kernel_rfl) (is := [0, 1, 2, 3, 4, 5, 6, 7, 8, 9, 10, 11, 12, 13, 14, 15, 16, 17, 18, 19, 20, 21, 22, 23, 24, 25, 26, 27, 28, 29, 30, 31, 32, 33, 34, 35, 36, 37, 38, 39, 40, 41, 42, 43, 44, 45, 46]) (by kernel_rfl) ?_
  refine q_splitr 3 (is' := [3, 4, 5, 6, 7, 8, 9, 10, 11, 12, 13, 14, 15, 16, 17, 18, 19, 20, 21, 22, 23, 24, 25, 26, 27, 28, 29, 30, 31, 32, 33, 34, 35, 36, 37, 38, 39, 40, 41, 42, 43, 44, 45, 46]) (us := [(32, .slice Q21 t20.length Q22), (33, .int .i64 (t20.length : Int))]) (d := 34) (t := ((t20.length : Int) == 2)) (by kernel_rfl) (fun h92 => ?_) (fun h93 => ?_)
  ·skip
   have hp94 := ite_t hp75 h92
   refine q_run 2 (is' := [5, 6, 7, 8, 9, 10, 11, 12, 13, 14, 15, 16, 17, 18, 19, 20, 21, 22, 23, 24, 25, 26, 27, 28, 29, 30, 31, 32, 33, 34, 35, 36, 37, 38, 39, 40, 41, 42, 43, 44, 45, 46]) (us := [(35, .bool true), (36, .slice Q21 t20.length Q22)]) (by kernel_rfl) ?_
   obtain ⟨g95, hp96⟩ := ite_some hp94
   obtain ⟨b97, p98, hA99, -⟩ := (hS91.row 0 rfl).at_ len_api_Final (by omega) g95.1 g95.2
   refine q_indexAddr (c := (cd7 [1, 1, 1, 1, 1, 0])) (i := 5) (d := (some 37)) (ty := 0) (t := 28) (e := 24) (n := t20.length) (cp := Q22) (sz := 49) (kk := .i64) (x := (.tmp 36)) (y := (.const (.int .i64 0))) (b := b97) (o' := p98) (j := (0 : Int)) (by kernel_rfl) (by kernel_rfl) (slv (by kernel_rfl) hA99) (by kernel_rfl) (by kernel_rfl) (by kernel_rfl) g95.1 g95.2 ?_
   refine q_load (c := (cd7 [1, 1, 1, 1, 1, 0])) (i := 6) (d := (some 38)) (ty := 24) (t := 24) (x := (.tmp 37)) (p := ⟨b97, p98 + (0 : Int).toNat * 49, none⟩) (v := .agg (enc_api_Final (gt t20 (0 : Int))).toArray) (by kernel_rfl) (by kernel_rfl) (by kernel_rfl) (fun w hC => (loads_agg ((hC.row 0 rfl).at2 hA99 len_api_Final (by omega) g95.1 g95.2) (by kernel_rfl) (lenK (len_api_Final _) (by kernel_rfl)))) ?_
   obtain ⟨t101, hr102, hp103⟩ := bind_some' hp96
   refine q_call1 (c := (cd7 [1, 1, 1, 1, 1, 0])) (i := 7) (d := (some 39)) (v := .agg (enc_api_Final t101).toArray) (g := 22) (args := #[.int .i64 0, .int .i64 9]) (by kernel_rfl) (by kernel_rfl) (by kernel_rfl) (by kernel_rfl) (fun w hC => by
    refine (weirlaw10_of.ok 0 9 hC hr102).mono ?_
    rintro e w2 ⟨rfl, h2⟩
    have hS104 := h2.pick4
    have hS105 := hS104.pick4
    have hS106 := hS105.pick4
    have hS107 := hS106.pick4
    have hS108 := hS107.pick4
    exact ⟨rfl, hS108⟩) ?_
   refine q_val (c := (cd7 [1, 1, 1, 1, 1, 0])) (i := 8) (d := (some 40)) (ty := 4) (op := .binOp .eql 24 (.tmp 38) (.tmp 39) 24) (v := .bool (decide ((gt t20 (0 : Int)) = t101))) (by kernel_rfl) (by kernel_rfl) (fun w hC o ho _ => x_eql_api_Final (by kernel_rfl) (by kernel_rfl) ho) ?_
   refine q_split (decide ((gt t20 (0 : Int)) = t101)) (fun h109 => ?_) (fun h110 => ?_)
   ·skip
    have hp111 := ite_t hp103 h109
    refine q_run 3 (is' := [12, 13, 14, 15, 16, 17, 18, 19, 20, 21, 22, 23, 24, 25, 26, 27, 28, 29, 30, 31, 32, 33, 34, 35, 36, 37, 38, 39, 40, 41, 42, 43, 44, 45, 46]) (us := [(41, .bool true), (42, .bool true), (43, .int .i64 t44)]) (by kernel_rfl) ?_
    obtain ⟨t112, hr113, hp114⟩ := bind_some' hp111
    refine q_call1 (c := (cd7 [1, 1, 1, 1, 1, 0])) (i := 12) (d := (some 44)) (v := .int .i64 t112) (g := 11) (args := #[.int .i64 t44]) (by kernel_rfl) (by kernel_rfl) (by kernel_rfl) (by kernel_rfl) (fun w hC => by
     refine (weirlaw10_num.ok t44 hC hr113).mono ?_
     rintro e w2 ⟨rfl, h2⟩
     have hS115 := h2.pick4
     have hS116 := hS115.pick4
     have hS117 := hS116.pick4
     have hS118 := hS117.pick4
     have hS119 := hS118.pick4
     exact ⟨rfl, hS119⟩) ?_
    refine q_splitr 1 (is' := [14, 15, 16, 17, 18, 19, 20, 21, 22, 23, 24, 25, 26, 27, 28, 29, 30, 31, 32, 33, 34, 35, 36, 37, 38, 39, 40, 41, 42, 43, 44, 45, 46]) (us := []) (d := 45) (t := (t112 == 0)) (by kernel_rfl) (fun h120 => ?_) (fun h121 => ?_)
    ·skip
     have hp122 := ite_t hp114 h120
     refine q_splitr 4 (is' := [18, 19, 20, 21, 22, 23, 24, 25, 26, 27, 28, 29, 30, 31, 32, 33, 34, 35, 36, 37, 38, 39, 40, 41, 42, 43, 44, 45, 46]) (us := [(46, .bool true), (47, .bool true), (48, .string t43)]) (d := 49) (t := (seq t43 (⟨#[48, 58, 69, 65, 88, 61, 48, 59, 32, 120, 61, 45, 49, 59]⟩ : ByteArray))) (by kernel_rfl) (fun h123 => ?_) (fun h124 => ?_)
     ·skip
      have hp125 := ite_t hp122 h123
      refine q_run 3 (is' := [21, 22, 23, 24, 25, 26, 27, 28, 29, 30, 31, 32, 33, 34, 35, 36, 37, 38, 39, 40, 41, 42, 43, 44, 45, 46]) (us := [(50, .bool true), (51, .bool true), (52, .int .i64 t61)]) (by kernel_rfl) ?_
      obtain ⟨t126, hr127, hp128⟩ := bind_some' hp125
      refine q_call1 (c := (cd7 [1, 1, 1, 1, 1, 0])) (i := 21) (d := (some 53)) (v := .int .i64 t126) (g := 11) (args := #[.int .i64 t61]) (by kernel_rfl) (by kernel_rfl) (by kernel_rfl) (by kernel_rfl) (fun w hC => by
       refine (weirlaw10_num.ok t61 hC hr127).mono ?_
       rintro e w2 ⟨rfl, h2⟩
       have hS129 := h2.pick4
       have hS130 := hS129.pick4
       have hS131 := hS130.pick4
       have hS132 := hS131.pick4
       have hS133 := hS132.pick4
       exact ⟨rfl, hS133⟩) ?_
      refine q_splitr 1 (is' := [23, 24, 25, 26, 27, 28, 29, 30, 31, 32, 33, 34, 35, 36, 37, 38, 39, 40, 41, 42, 43, 44, 45, 46]) (us := []) (d := 54) (t := (t126 == 0)) (by kernel_rfl) (fun h134 => ?_) (fun h135 => ?_)
      ·skip
       have hp136 := ite_t hp128 h134
       refine q_splitr 4 (is' := [27, 28, 29, 30, 31, 32, 33, 34, 35, 36, 37, 38, 39, 40, 41, 42, 43, 44, 45, 46]) (us := [(55, .bool true), (56, .bool true), (57, .string t60)]) (d := 58) (t := (seq t60 (⟨#[4, 0, 1]⟩ : ByteArray))) (by kernel_rfl) (fun h137 => ?_) (fun h138 => ?_)
       ·skip
        have hp139 := ite_t hp136 h137
        refine q_run 3 (is' := [30, 31, 32, 33, 34, 35, 36, 37, 38, 39, 40, 41, 42, 43, 44, 45, 46]) (us := [(59, .bool true), (60, .bool true), (61, .int .i64 t71)]) (by kernel_rfl) ?_
        obtain ⟨t140, hr141, hp142⟩ := bind_some' hp139
        refine q_call1 (c := (cd7 [1, 1, 1, 1, 1, 0])) (i := 30) (d := (some 62)) (v := .int .i64 t140) (g := 11) (args := #[.int .i64 t71]) (by kernel_rfl) (by kernel_rfl) (by kernel_rfl) (by kernel_rfl) (fun w hC => by
         refine (weirlaw10_num.ok t71 hC hr141).mono ?_
         rintro e w2 ⟨rfl, h2⟩
         have hS143 := h2.pick4
         have hS144 := hS143.pick4
         have hS145 := hS144.pick4
         have hS146 := hS145.pick4
         have hS147 := hS146.pick4
         exact ⟨rfl, hS147⟩) ?_
        refine q_splitr 1 (is' := [32, 33, 34, 35, 36, 37, 38, 39, 40, 41, 42, 43, 44, 45, 46]) (us := []) (d := 63) (t := (t140 == 0)) (by kernel_rfl) (fun h148 => ?_) (fun h149 => ?_)
        ·skip
         have hp150 := ite_t hp142 h148
         refine q_splitr 5 (is' := [37, 38, 39, 40, 41, 42, 43, 44, 45, 46]) (us := [(64, .bool true), (65, .bool true), (66, .slice Q72 t70.length Q73), (67, .int .i64 (t70.length : Int))]) (d := 68) (t := ((t70.length : Int) == 2)) (by kernel_rfl) (fun h151 => ?_) (fun h152 => ?_)
         ·skip
          have hp153 := ite_t hp150 h151
          refine q_run 3 (is' := [40, 41, 42, 43, 44, 45, 46]) (us := [(69, .bool true), (70, .bool true), (71, .slice Q72 t70.length Q73)]) (by kernel_rfl) ?_
          obtain ⟨g154, hp155⟩ := ite_some hp153
          obtain ⟨b156, p157, hA158, -⟩ := (hS91.row 2 rfl).at_ len_api_Final (by omega) g154.1 g154.2
          refine q_indexAddr (c := (cd7 [1, 1, 1, 1, 1, 0])) (i := 40) (d := (some 72)) (ty := 0) (t := 28) (e := 24) (n := t70.length) (cp := Q73) (sz := 49) (kk := .i64) (x := (.tmp 71)) (y := (.const (.int .i64 0))) (b := b156) (o' := p157) (j := (0 : Int)) (by kernel_rfl) (by kernel_rfl) (slv (by kernel_rfl) hA158) (by kernel_rfl) (by kernel_rfl) (by kernel_rfl) g154.1 g154.2 ?_
          refine q_run 1 (is' := [42, 43, 44, 45, 46]) (us := [(73, .pointer (some ⟨b156, p157 + (0 : Int).toNat * 49 + 1, none⟩))]) (by kernel_rfl) ?_
          obtain ⟨g160, hp161⟩ := ite_some hp155
          refine q_indexArr (c := (cd7 [1, 1, 1, 1, 1, 0])) (i := 42) (d := (some 74)) (ty := 0) (t := 22) (e := 2) (sz := 1) (kk := .i64) (x := (.tmp 73)) (y := (.const (.int .i64 0))) (b := b156) (o' := p157 + (0 : Int).toNat * 49 + 1) (n := 48) (j := (0 : Int)) (by kernel_rfl) (by kernel_rfl) (by kernel_rfl) (by kernel_rfl) (by kernel_rfl) (by kernel_rfl) g160.1 g160.2 ?_
          refine q_load (c := (cd7 [1, 1, 1, 1, 1, 0])) (i := 43) (d := (some 75)) (ty := 2) (t := 2) (x := (.tmp 74)) (p := ⟨b156, p157 + (0 : Int).toNat * 49 + 1 + (0 : Int).toNat * 1, none⟩) (v := .int .i64 (vget ((gt t70 (0 : Int)).V) (0 : Int))) (by kernel_rfl) (by kernel_rfl) (by kernel_rfl) (fun w hC => (loads_at 0 (cells_vget (sub_api_Final_V ((hC.row 2 rfl).at2 hA158 len_api_Final (by omega) g154.1 g154.2)) (len_encI .i64) g160.1 g160.2) (by kernel_rfl) (by kernel_rfl))) ?_
          refine q_splitr 1 (is' := [45, 46]) (us := []) (d := 76) (t := ((vget ((gt t70 (0 : Int)).V) (0 : Int)) == 2)) (by kernel_rfl) (fun h162 => ?_) (fun h163 => ?_)
          ·skip
           have hp164 := ite_t hp161 h162
           refine q_run 2 (is' := []) (us := [(77, .bool true), (0, .bool true)]) (by kernel_rfl) ?_
           refine Qs.nil ?_
           intro w165 hS166
           have hS167 := hS166.drop
           have hS168 := hS167.drop
           have hS169 := hS168.drop
           have hS170 := hS169.drop
           have hS171 := hS170.drop
           refine runs_ret (fn := Tryd.f7) (v := .bool true) Tryd.func7 (by kernel_rfl) ?_
           have hr172 := (Option.some.inj hp164)
           cases hr172
           exact hR _ _ ⟨rfl, hS171⟩
          ·skip
           have hp173 := ite_f hp161 h163
           refine q_run 2 (is' := []) (us := [(77, .bool false), (0, .bool false)]) (by kernel_rfl) ?_
           refine Qs.nil ?_
           intro w174 hS175
           have hS176 := hS175.drop
           have hS177 := hS176.drop
           have hS178 := hS177.drop
           have hS179 := hS178.drop
           have hS180 := hS179.drop
           refine runs_ret (fn := Tryd.f7) (v := .bool false) Tryd.func7 (by kernel_rfl) ?_
           have hr181 := (Option.some.inj hp173)
           cases hr181
           exact hR _ _ ⟨rfl, hS180⟩
         ·skip
          have hp182 := ite_f hp150 h152
          refine q_run 10 (is' := []) (us := [(69, .bool false), (70, .bool false), (71, undef), (72, undef), (73, undef), (74, undef), (75, undef), (76, undef), (77, .bool false), (0, .bool false)]) (by kernel_rfl) ?_
          refine Qs.nil ?_
          intro w183 hS184
          have hS185 := hS184.drop
          have hS186 := hS185.drop
          have hS187 := hS186.drop
          have hS188 := hS187.drop
          have hS189 := hS188.drop
          refine runs_ret (fn := Tryd.f7) (v := .bool false) Tryd.func7 (by kernel_rfl) ?_
          have hr190 := (Option.some.inj hp182)
          cases hr190
          exact hR _ _ ⟨rfl, hS189⟩
        ·skip
         have hp191 := ite_f hp142 h149
         refine q_run 15 (is' := []) (us := [(64, .bool false), (65, .bool false), (66, undef), (67, undef), (68, undef), (69, .bool false), (70, .bool false), (71, undef), (72, undef), (73, undef), (74, undef), (75, undef), (76, undef), (77, .bool false), (0, .bool false)]) (by kernel_rfl) ?_
         refine Qs.nil ?_
         intro w192 hS193
         have hS194 := hS193.drop
         have hS195 := hS194.drop
         have hS196 := hS195.drop
         have hS197 := hS196.drop
         have hS198 := hS197.drop
         refine runs_ret (fn := Tryd.f7) (v := .bool false) Tryd.func7 (by kernel_rfl) ?_
         have hr199 := (Option.some.inj hp191)
         cases hr199
         exact hR _ _ ⟨rfl, hS198⟩
       ·skip
        have hp200 := ite_f hp136 h138
        refine q_run 20 (is' := []) (us := [(59, .bool false), (60, .bool false), (61, undef), (62, undef), (63, undef), (64, .bool false), (65, .bool false), (66, undef), (67, undef), (68, undef), (69, .bool false), (70, .bool false), (71, undef), (72, undef), (73, undef), (74, undef), (75, undef), (76, undef), (77, .bool false), (0, .bool false)]) (by kernel_rfl) ?_
        refine Qs.nil ?_
        intro w201 hS202
        have hS203 := hS202.drop
        have hS204 := hS203.drop
        have hS205 := hS204.drop
        have hS206 := hS205.drop
        have hS207 := hS206.drop
        refine runs_ret (fn := Tryd.f7) (v := .bool false) Tryd.func7 (by kernel_rfl) ?_
        have hr208 := (Option.some.inj hp200)
        cases hr208
        exact hR _ _ ⟨rfl, hS207⟩
      ·skip
       have hp209 := ite_f hp128 h135
       refine q_run 24 (is' := []) (us := [(55, .bool false), (56, .bool false), (57, undef), (58, undef), (59, .bool false), (60, .bool false), (61, undef), (62, undef), (63, undef), (64, .bool false), (65, .bool false), (66, undef), (67, undef), (68, undef), (69, .bool false), (70, .bool false), (71, undef), (72, undef), (73, undef), (74, undef), (75, undef), (76, undef), (77, .bool false), (0, .bool false)]) (by kernel_rfl) ?_
       refine Qs.nil ?_
       intro w210 hS211
       have hS212 := hS211.drop
       have hS213 := hS212.drop
       have hS214 := hS213.drop
       have hS215 := hS214.drop
       have hS216 := hS215.drop
       refine runs_ret (fn := Tryd.f7) (v := .bool false) Tryd.func7 (by kernel_rfl) ?_
       have hr217 := (Option.some.inj hp209)
       cases hr217
       exact hR _ _ ⟨rfl, hS216⟩
     ·skip
      have hp218 := ite_f hp122 h124
      refine q_run 29 (is' := []) (us := [(50, .bool false), (51, .bool false), (52, undef), (53, undef), (54, undef), (55, .bool false), (56, .bool false), (57, undef), (58, undef), (59, .bool false), (60, .bool false), (61, undef), (62, undef), (63, undef), (64, .bool false), (65, .bool false), (66, undef), (67, undef), (68, undef), (69, .bool false), (70, .bool false), (71, undef), (72, undef), (73, undef), (74, undef), (75, undef), (76, undef), (77, .bool false), (0, .bool false)]) (by kernel_rfl) ?_
      refine Qs.nil ?_
      intro w219 hS220
      have hS221 := hS220.drop
      have hS222 := hS221.drop
      have hS223 := hS222.drop
      have hS224 := hS223.drop
      have hS225 := hS224.drop
      refine runs_ret (fn := Tryd.f7) (v := .bool false) Tryd.func7 (by kernel_rfl) ?_
      have hr226 := (Option.some.inj hp218)
      cases hr226
      exact hR _ _ ⟨rfl, hS225⟩
    ·skip
     have hp227 := ite_f hp114 h121
     refine q_run 33 (is' := []) (us := [(46, .bool false), (47, .bool false), (48, undef), (49, undef), (50, .bool false), (51, .bool false), (52, undef), (53, undef), (54, undef), (55, .bool false), (56, .bool false), (57, undef), (58, undef), (59, .bool false), (60, .bool false), (61, undef), (62, undef), (63, undef), (64, .bool false), (65, .bool false), (66, undef), (67, undef), (68, undef), (69, .bool false), (70, .bool false), (71, undef), (72, undef), (73, undef), (74, undef), (75, undef), (76, undef), (77, .bool false), (0, .bool false)]) (by kernel_rfl) ?_
     refine Qs.nil ?_
     intro w228 hS229
     have hS230 := hS229.drop
     have hS231 := hS230.drop
     have hS232 := hS231.drop
     have hS233 := hS232.drop
     have hS234 := hS233.drop
     refine runs_ret (fn := Tryd.f7) (v := .bool false) Tryd.func7 (by kernel_rfl) ?_
     have hr235 := (Option.some.inj hp227)
     cases hr235
     exact hR _ _ ⟨rfl, hS234⟩
   ·skip
    have hp236 := ite_f hp103 h110
    refine q_run 38 (is' := []) (us := [(41, .bool false), (42, .bool false), (43, undef), (44, undef), (45, undef), (46, .bool false), (47, .bool false), (48, undef), (49, undef), (50, .bool false), (51, .bool false), (52, undef), (53, undef), (54, undef), (55, .bool false), (56, .bool false), (57, undef), (58, undef), (59, .bool false), (60, .bool false), (61, undef), (62, undef), (63, undef), (64, .bool false), (65, .bool false), (66, undef), (67, undef), (68, undef), (69, .bool false), (70, .bool false), (71, undef), (72, undef), (73, undef), (74, undef), (75, undef), (76, undef), (77, .bool false), (0, .bool false)]) (by kernel_rfl) ?_
    refine Qs.nil ?_
    intro w237 hS238
    have hS239 := hS238.drop
    have hS240 := hS239.drop
    have hS241 := hS240.drop
    have hS242 := hS241.drop
    have hS243 := hS242.drop
    refine runs_ret (fn := Tryd.f7) (v := .bool false) Tryd.func7 (by kernel_rfl) ?_
    have hr244 := (Option.some.inj hp236)
    cases hr244
    exact hR _ _ ⟨rfl, hS243⟩
  ·skip
   have hp245 := ite_f hp75 h93
   refine q_run 44 (is' := []) (us := [(35, .bool false), (36, undef), (37, undef), (38, undef), (39, undef), (40, undef), (41, .bool false), (42, .bool false), (43, undef), (44, undef), (45, undef), (46, .bool false), (47, .bool false), (48, undef), (49, undef), (50, .bool false), (51, .bool false), (52, undef), (53, undef), (54, undef), (55, .bool false), (56, .bool false), (57, undef), (58, undef), (59, .bool false), (60, .bool false), (61, undef), (62, undef), (63, undef), (64, .bool false), (65, .bool false), (66, undef), (67, undef), (68, undef), (69, .bool false), (70, .bool false), (71, undef), (72, undef), (73, undef), (74, undef), (75, undef), (76, undef), (77, .bool false), (0, .bool false)]) (by kernel_rfl) ?_
   refine Qs.nil ?_
   intro w246 hS247
   have hS248 := hS247.drop
   have hS249 := hS248.drop
   have hS250 := hS249.drop
   have hS251 := hS250.drop
   have hS252 := hS251.drop
   refine runs_ret (fn := Tryd.f7) (v := .bool false) Tryd.func7 (by kernel_rfl) ?_
   have hr253 := (Option.some.inj hp245)
   cases hr253
   exact hR _ _ ⟨rfl, hS252⟩

end
end Go.Proofs.YtjbhgahbaeoinaaDoor.K
