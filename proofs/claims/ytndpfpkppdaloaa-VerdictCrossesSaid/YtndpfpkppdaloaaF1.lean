import Derived.Test.YtndpfpkppdaloaaE
set_option linter.unusedVariables false
set_option linter.unusedSimpArgs false
set_option maxRecDepth 100000
namespace Go.Proofs.Ytndpfpkppdaloaa.K
open Go Go.RowKit
noncomputable def cd16 (p : List Nat) : Code := sub (bodyOf Try.f16) p
def state_Check.l0 (a0 : api_Final) (t39 : Int) : Option (Sum Unit Int) :=
  (if (decide (t39 < (((a0.V.toList.take 48).drop a0.N.toNat).length : Int))) = true then (if 0 ≤ t39 ∧ t39 < (((a0.V.toList.take 48).drop a0.N.toNat).length : Int) then (if ((gt ((a0.V.toList.take 48).drop a0.N.toNat) t39) != 0) = true then some (.inr (4)) else (state_Check.l0 a0 (IntKind.i64.wrap (t39 + 1)))) else none) else some (.inl ()))
 partial_fixpoint
def state_Check.f (a0 : api_Final) : Option Int :=
  (if (decide (a0.N < 0)) = true then some (4) else (if (decide (a0.N > 48)) = true then some (4) else (if 0 ≤ a0.N ∧ a0.N ≤ 48 then (state_Check.l0 a0 0 >>= (fun | .inl () => some (0) | .inr e => some e)) else none)))
set_option maxHeartbeats 16000000 in
theorem state_Check.ok (a0 : api_Final) {w0 : World} {Z : Zm} {fs : List XObj} {w : World} (hS0 : St w0 Z (fs) w) {q0 : Int} (hp0 : state_Check.f a0 = some q0) :
    Calls Try.prog 16 #[.agg (enc_api_Final a0).toArray] w (fun e w' => e = .returned (.int .i64 q0) ∧ St w0 Z (fs) w') := by
  refine calls_abs ?_; intro R hR
  unfold state_Check.f at hp0
  refine calls_of_runs (fn := Try.f16) (c := cd16 []) Try.func16 (by kernel_rfl) (al := [.agg (enc_api_Final a0).toArray]) rfl (n := 24) rfl ?_
  refine sx_run 2 (todo' := [.inRegion (opsOf (cd16 [0])) [0, 1], .code (cd16 [1])]) (us := []) (by kernel_rfl) ?_
  refine r_box (c := (cd16 [0])) (i := 0) (d := (some 1)) (ty := 0) (x := (.tmp 0)) (v := .agg (enc_api_Final a0).toArray) (t := 25) (cs := enc_api_Final a0) hS0 (by kernel_rfl) (by kernel_rfl) (by kernel_rfl) (by kernel_rfl) ?_
  intro b1 w2 hS3
  refine sx_run 6 (todo' := [.inRegion (opsOf (cd16 [1, 0, 0])) [1, 2, 3, 4, 5, 6, 7], .code (cd16 [1, 0, 1]), .code (cd16 [1, 1])]) (us := [(2, .int .i64 0), (5, .pointer (some ⟨b1, 0, none⟩))]) (by kernel_rfl) ?_
  refine r_load (c := (cd16 [1, 0, 0])) (i := 1) (d := (some 6)) (ty := 3) (t := 3) (x := (.tmp 5)) (p := ⟨b1, 0, none⟩) (v := .int .i64 a0.N) (by kernel_rfl) (by kernel_rfl) (by kernel_rfl) (loads_at 0 (hS3.blk 0 rfl) (by kernel_rfl) (by kernel_rfl)) ?_
  refine sx_split 1 (todo' := [.inRegion (opsOf (cd16 [1, 0, 0])) [3, 4, 5, 6, 7], .code (cd16 [1, 0, 1]), .code (cd16 [1, 1])]) (us := []) (d := 7) (t := (decide (a0.N < 0))) (by kernel_rfl) (fun h5 => ?_) (fun h6 => ?_)
  · skip
    have hp7 := ite_t hp0 h5
    refine sx_run 11 (todo' := [.code (cd16 [1, 0, 1, 0, 1]), .code (cd16 [1, 1])]) (us := [(8, .bool true), (9, undef), (10, undef), (11, undef), (12, .bool true), (2, .int .i64 4)]) (by kernel_rfl) ?_
    have hS8 := hS3.drop
    refine runs_ret (fn := Try.f16) (v := .int .i64 4) Try.func16 (by kernel_rfl) ?_
    have hr9 := (Option.some.inj hp7)
    cases hr9
    exact hR _ _ ⟨rfl, hS8⟩
  · skip
    have hp10 := ite_f hp0 h6
    refine sx_run 2 (todo' := [.inRegion (opsOf (cd16 [1, 0, 0])) [5, 6, 7], .code (cd16 [1, 0, 1]), .code (cd16 [1, 1])]) (us := [(8, .bool false), (9, .pointer (some ⟨b1, 0, none⟩))]) (by kernel_rfl) ?_
    refine r_load (c := (cd16 [1, 0, 0])) (i := 5) (d := (some 10)) (ty := 3) (t := 3) (x := (.tmp 9)) (p := ⟨b1, 0, none⟩) (v := .int .i64 a0.N) (by kernel_rfl) (by kernel_rfl) (by kernel_rfl) (loads_at 0 (hS3.blk 0 rfl) (by kernel_rfl) (by kernel_rfl)) ?_
    refine sx_split 1 (todo' := [.inRegion (opsOf (cd16 [1, 0, 0])) [7], .code (cd16 [1, 0, 1]), .code (cd16 [1, 1])]) (us := []) (d := 11) (t := (decide (a0.N > 48))) (by kernel_rfl) (fun h11 => ?_) (fun h12 => ?_)
    · skip
      have hp13 := ite_t hp10 h11
      refine sx_run 7 (todo' := [.code (cd16 [1, 0, 1, 0, 1]), .code (cd16 [1, 1])]) (us := [(12, .bool true), (2, .int .i64 4)]) (by kernel_rfl) ?_
      have hS14 := hS3.drop
      refine runs_ret (fn := Try.f16) (v := .int .i64 4) Try.func16 (by kernel_rfl) ?_
      have hr15 := (Option.some.inj hp13)
      cases hr15
      exact hR _ _ ⟨rfl, hS14⟩
    · skip
      have hp16 := ite_f hp10 h12
      refine sx_run 9 (todo' := [.inRegion (opsOf (cd16 [1, 1, 0, 0])) [2, 3, 4, 5], .code (cd16 [1, 1, 0, 1]), .code (cd16 [1, 1, 1])]) (us := [(12, .bool false), (13, .pointer (some ⟨b1, 1, none⟩)), (14, .pointer (some ⟨b1, 0, none⟩))]) (by kernel_rfl) ?_
      refine r_load (c := (cd16 [1, 1, 0, 0])) (i := 2) (d := (some 15)) (ty := 3) (t := 3) (x := (.tmp 14)) (p := ⟨b1, 0, none⟩) (v := .int .i64 a0.N) (by kernel_rfl) (by kernel_rfl) (by kernel_rfl) (loads_at 0 (hS3.blk 0 rfl) (by kernel_rfl) (by kernel_rfl)) ?_
      obtain ⟨Z17, hz18, hS19, hs20, -⟩ := hS3.lendblk
      obtain ⟨g21, hp22⟩ := ite_some hp16
      obtain ⟨A23, c24, hr25, hs26⟩ := cutArrZ (zsub_api_Final_V hs20) (len_encI .i64) a0.N.toNat 48 (by omega) (by omega) (by omega)
      refine r_val (c := (cd16 [1, 1, 0, 0])) (i := 3) (d := (some 16)) (ty := 39) (op := .slice 23 (.tmp 13) (some (.tmp 15)) none none) (v := .slice A23 ((a0.V.toList.take 48).drop a0.N.toNat).length c24) (by kernel_rfl) (by kernel_rfl) (fun o ho _ => x_cutArr_sn (e := 2) (k := .i64) (by kernel_rfl) (by kernel_rfl) (by kernel_rfl) (by kernel_rfl) g21 hr25 ho) ?_
      refine sx_run 5 (todo' := [.code (cd16 [1, 1, 0, 1, 0, 0]), .inLoop (cd16 [1, 1, 0, 1, 0, 0]), .inBlock 0, .code (cd16 [1, 1, 1])]) (us := [(17, .int .i64 (((a0.V.toList.take 48).drop a0.N.toNat).length : Int)), (18, .int .i64 0)]) (by kernel_rfl) ?_
      obtain ⟨v28, hv29, hp30⟩ := bind_some' hp22
      have hq33 : ∀ x, Sum.inr x = v28 → x = q0 := by intro x hx; subst hx; simpa using hp30
      have J34 : ∀ (he36 : Sum.inl () = v28) (l35 : List Value) (w31 : World) (hS32 : St w0 Z17 (fs) w31), Runs Try.prog 16 [.code (cd16 [1, 1, 1])] (fill [none, none, none, none, none, none, none, none, none, none, none, none, none, none, none, none, none, none, none, none, none, none, none, none, none] l35) w31 R := by
        intro he36 l35 w31 hS32
        subst he36
        try dsimp only at hp30
        refine sx_run 4 (todo' := [.code (cd16 [1, 1, 1, 1])]) (us := [(2, .int .i64 0)]) (by kernel_rfl) ?_
        have hS37 := hS32.less hz18
        refine runs_ret (fn := Try.f16) (v := .int .i64 0) Try.func16 (by kernel_rfl) ?_
        have hr38 := (Option.some.inj hp30)
        cases hr38
        exact hR _ _ ⟨rfl, hS37⟩
      have L48 : ∀ (t39 : Int) (e43 : Sum Unit Int), state_Check.l0 a0 t39 = some e43 → e43 = v28 → ∀ (l42 : List Value) (w40 : World) (hS41 : St w0 Z17 (fs) w40), Runs Try.prog 16 [.code (cd16 [1, 1, 0, 1, 0, 0]), .inLoop (cd16 [1, 1, 0, 1, 0, 0]), .inBlock 0, .code (cd16 [1, 1, 1])] (fill [none, none, none, none, none, none, none, none, none, none, none, none, none, none, none, none, some (.slice A23 ((a0.V.toList.take 48).drop a0.N.toNat).length c24), some (.int .i64 (((a0.V.toList.take 48).drop a0.N.toNat).length : Int)), some (.int .i64 t39), none, none, none, none, none, none] l42) w40 R := by
        refine state_Check.l0.partial_correctness a0 (fun t39 e43 => e43 = v28 → ∀ (l42 : List Value) (w40 : World) (hS41 : St w0 Z17 (fs) w40), Runs Try.prog 16 [.code (cd16 [1, 1, 0, 1, 0, 0]), .inLoop (cd16 [1, 1, 0, 1, 0, 0]), .inBlock 0, .code (cd16 [1, 1, 1])] (fill [none, none, none, none, none, none, none, none, none, none, none, none, none, none, none, none, some (.slice A23 ((a0.V.toList.take 48).drop a0.N.toNat).length c24), some (.int .i64 (((a0.V.toList.take 48).drop a0.N.toNat).length : Int)), some (.int .i64 t39), none, none, none, none, none, none] l42) w40 R) ?_
        intro rec47 ih46 t39 e43 hb45 he44 l42 w40 hS41
        have hq49 : ∀ x, Sum.inr x = e43 → x = q0 := fun x hx => hq33 x (hx.trans he44)
        refine sx_split 3 (todo' := [.inRegion (opsOf (cd16 [1, 1, 0, 1, 0, 0, 0])) [], .code (cd16 [1, 1, 0, 1, 0, 0, 1]), .inLoop (cd16 [1, 1, 0, 1, 0, 0]), .inBlock 0, .code (cd16 [1, 1, 1])]) (us := []) (d := 19) (t := (decide (t39 < (((a0.V.toList.take 48).drop a0.N.toNat).length : Int)))) (by kernel_rfl) (fun h50 => ?_) (fun h51 => ?_)
        · skip
          have hp52 := ite_t hb45 h50
          refine sx_run 8 (todo' := [.inRegion (opsOf (cd16 [1, 1, 0, 1, 0, 0, 1, 1, 0, 0, 0])) [0, 1, 2], .code (cd16 [1, 1, 0, 1, 0, 0, 1, 1, 0, 0, 1]), .inBlock 1, .code (cd16 [1, 1, 0, 1, 0, 0, 1, 1, 1]), .inLoop (cd16 [1, 1, 0, 1, 0, 0]), .inBlock 0, .code (cd16 [1, 1, 1])]) (us := []) (by kernel_rfl) ?_
          obtain ⟨g53, hp54⟩ := ite_some hp52
          obtain ⟨b55, p56, hA57, hc58⟩ := hs26.atF g53.1 g53.2
          refine r_indexAddr (c := (cd16 [1, 1, 0, 1, 0, 0, 1, 1, 0, 0, 0])) (i := 0) (d := (some 20)) (ty := 0) (t := 39) (e := 2) (n := ((a0.V.toList.take 48).drop a0.N.toNat).length) (cp := c24) (sz := 1) (kk := .i64) (x := (.tmp 16)) (y := (.tmp 18)) (b := b55) (o' := p56) (j := t39) (by kernel_rfl) (by kernel_rfl) (slv (by kernel_rfl) hA57) (by kernel_rfl) (by kernel_rfl) (by kernel_rfl) g53.1 g53.2 ?_
          refine r_load (c := (cd16 [1, 1, 0, 1, 0, 0, 1, 1, 0, 0, 0])) (i := 1) (d := (some 21)) (ty := 2) (t := 2) (x := (.tmp 20)) (p := ⟨b55, p56 + t39.toNat * 1, none⟩) (v := .int .i64 (gt ((a0.V.toList.take 48).drop a0.N.toNat) t39)) (by kernel_rfl) (by kernel_rfl) (by kernel_rfl) (loads_at 0 (hc58.cells hS41) (by kernel_rfl) (by kernel_rfl)) ?_
          refine sx_split 6 (todo' := [.inRegion (opsOf (cd16 [1, 1, 0, 1, 0, 0, 1, 1, 0, 0, 1, 0])) [], .code (cd16 [1, 1, 0, 1, 0, 0, 1, 1, 0, 0, 1, 1]), .inBlock 1, .code (cd16 [1, 1, 0, 1, 0, 0, 1, 1, 1]), .inLoop (cd16 [1, 1, 0, 1, 0, 0]), .inBlock 0, .code (cd16 [1, 1, 1])]) (us := [(4, .int .i64 (gt ((a0.V.toList.take 48).drop a0.N.toNat) t39)), (22, .int .i64 (gt ((a0.V.toList.take 48).drop a0.N.toNat) t39))]) (d := 23) (t := ((gt ((a0.V.toList.take 48).drop a0.N.toNat) t39) != 0)) (by kernel_rfl) (fun h59 => ?_) (fun h60 => ?_)
          · skip
            have hp61 := ite_t hp54 h59
            refine sx_run 6 (todo' := [.code (cd16 [1, 1, 0, 1, 0, 0, 1, 1, 0, 0, 1, 1, 0, 1]), .inBlock 1, .code (cd16 [1, 1, 0, 1, 0, 0, 1, 1, 1]), .inLoop (cd16 [1, 1, 0, 1, 0, 0]), .inBlock 0, .code (cd16 [1, 1, 1])]) (us := [(2, .int .i64 4)]) (by kernel_rfl) ?_
            have hS62 := hS41.less hz18
            refine runs_ret (fn := Try.f16) (v := .int .i64 4) Try.func16 (by kernel_rfl) ?_
            have hr63 := (hq49 _ (Option.some.inj hp61))
            cases hr63
            exact hR _ _ ⟨rfl, hS62⟩
          · skip
            have hp64 := ite_f hp54 h60
            refine sx_run 8 (todo' := [.inLoop (cd16 [1, 1, 0, 1, 0, 0]), .inBlock 0, .code (cd16 [1, 1, 1])]) (us := [(24, .int .i64 (IntKind.i64.wrap (t39 + 1))), (18, .int .i64 (IntKind.i64.wrap (t39 + 1)))]) (by kernel_rfl) ?_
            refine sx_run 1 (todo' := [.code (cd16 [1, 1, 0, 1, 0, 0]), .inLoop (cd16 [1, 1, 0, 1, 0, 0]), .inBlock 0, .code (cd16 [1, 1, 1])]) (us := []) (by kernel_rfl) ?_
            refine Runs.fill (m := [none, none, none, none, none, none, none, none, none, none, none, none, none, none, none, none, some (.slice A23 ((a0.V.toList.take 48).drop a0.N.toNat).length c24), some (.int .i64 (((a0.V.toList.take 48).drop a0.N.toNat).length : Int)), some (.int .i64 (IntKind.i64.wrap (t39 + 1))), none, none, none, none, none, none]) (by kernel_rfl) ?_
            exact ih46 (IntKind.i64.wrap (t39 + 1)) _ hp64 he44 _ _ hS41
        · skip
          have hp65 := ite_f hb45 h51
          refine sx_run 4 (todo' := [.code (cd16 [1, 1, 1])]) (us := []) (by kernel_rfl) ?_
          refine Runs.fill (m := [none, none, none, none, none, none, none, none, none, none, none, none, none, none, none, none, none, none, none, none, none, none, none, none, none]) (by kernel_rfl) ?_
          exact J34 ((Option.some.inj hp65).trans he44) _ _ hS41
      refine Runs.fill (m := [none, none, none, none, none, none, none, none, none, none, none, none, none, none, none, none, some (.slice A23 ((a0.V.toList.take 48).drop a0.N.toNat).length c24), some (.int .i64 (((a0.V.toList.take 48).drop a0.N.toNat).length : Int)), some (.int .i64 0), none, none, none, none, none, none]) (by kernel_rfl) ?_
      exact L48 0 _ hv29 rfl _ _ hS19

noncomputable def cd17 (p : List Nat) : Code := sub (bodyOf Try.f17) p
def cmp_isNaN_int64.f (a0 : Int) : Option Bool :=
  (if (a0 != a0) = true then some (true) else some (false))
set_option maxHeartbeats 16000000 in
theorem cmp_isNaN_int64.ok (a0 : Int) {w0 : World} {Z : Zm} {fs : List XObj} {w : World} (hS0 : St w0 Z (fs) w) {q0 : Bool} (hp0 : cmp_isNaN_int64.f a0 = some q0) :
    Calls Try.prog 17 #[.int .i64 a0] w (fun e w' => e = .returned (.bool q0) ∧ St w0 Z (fs) w') := by
  refine calls_abs ?_; intro R hR
  unfold cmp_isNaN_int64.f at hp0
  refine calls_of_runs (fn := Try.f17) (c := cd17 []) Try.func17 (by kernel_rfl) (al := [.int .i64 a0]) rfl (n := 5) rfl ?_
  refine sx_split 9 (todo' := [.inRegion (opsOf (cd17 [1, 0])) [3], .code (cd17 [1, 1])]) (us := [(2, .bool false), (3, .int .i64 a0), (4, .int .i64 a0)]) (d := 5) (t := (a0 != a0)) (by kernel_rfl) (fun h1 => ?_) (fun h2 => ?_)
  · skip
    have hp3 := ite_t hp0 h1
    refine sx_run 2 (todo' := [.code (cd17 [1, 1])]) (us := [(2, .bool true)]) (by kernel_rfl) ?_
    refine runs_ret (fn := Try.f17) (v := .bool true) Try.func17 (by kernel_rfl) ?_
    have hr4 := (Option.some.inj hp3)
    cases hr4
    exact hR _ _ ⟨rfl, hS0⟩
  · skip
    have hp5 := ite_f hp0 h2
    refine sx_run 2 (todo' := [.code (cd17 [1, 1])]) (us := [(2, .bool false)]) (by kernel_rfl) ?_
    refine runs_ret (fn := Try.f17) (v := .bool false) Try.func17 (by kernel_rfl) ?_
    have hr6 := (Option.some.inj hp5)
    cases hr6
    exact hR _ _ ⟨rfl, hS0⟩

noncomputable def cd15 (p : List Nat) : Code := sub (bodyOf Try.f15) p
def cmp_Compare_int64.f (a0 : Int) (a1 : Int) : Option Int :=
  (cmp_isNaN_int64.f a0 >>= (fun t1 => (cmp_isNaN_int64.f a1 >>= (fun t6 => (if t1 = true then (if t6 = true then some (0) else some ((-1))) else (if t6 = true then some (1) else (if (decide (a0 < a1)) = true then some ((-1)) else (if (decide (a0 > a1)) = true then some (1) else some (0)))))))))
set_option maxHeartbeats 16000000 in
theorem cmp_Compare_int64.ok (a0 : Int) (a1 : Int) {w0 : World} {Z : Zm} {fs : List XObj} {w : World} (hS0 : St w0 Z (fs) w) {q0 : Int} (hp0 : cmp_Compare_int64.f a0 a1 = some q0) :
    Calls Try.prog 15 #[.int .i64 a0, .int .i64 a1] w (fun e w' => e = .returned (.int .i64 q0) ∧ St w0 Z (fs) w') := by
  refine calls_abs ?_; intro R hR
  unfold cmp_Compare_int64.f at hp0
  refine calls_of_runs (fn := Try.f15) (c := cd15 []) Try.func15 (by kernel_rfl) (al := [.int .i64 a0, .int .i64 a1]) rfl (n := 18) rfl ?_
  refine sx_run 7 (todo' := [.inRegion (opsOf (cd15 [1, 0])) [1, 2], .code (cd15 [1, 1])]) (us := [(4, .int .i64 0), (7, .int .i64 a0)]) (by kernel_rfl) ?_
  obtain ⟨t1, hr2, hp3⟩ := bind_some' hp0
  refine r_call1 (c := (cd15 [1, 0])) (i := 1) (d := (some 8)) (g := 17) (args := #[.int .i64 a0]) (by kernel_rfl) (by kernel_rfl) (by kernel_rfl) (by kernel_rfl) (cmp_isNaN_int64.ok a0 hS0 hr2) ?_
  rintro _ w4 ⟨rfl, hS5⟩
  refine ⟨.bool t1, rfl, ?_⟩
  refine sx_run 5 (todo' := [.inRegion (opsOf (cd15 [1, 1, 0])) [1, 2], .code (cd15 [1, 1, 1])]) (us := [(5, .bool t1), (9, .int .i64 a1)]) (by kernel_rfl) ?_
  obtain ⟨t6, hr7, hp8⟩ := bind_some' hp3
  refine r_call1 (c := (cd15 [1, 1, 0])) (i := 1) (d := (some 10)) (g := 17) (args := #[.int .i64 a1]) (by kernel_rfl) (by kernel_rfl) (by kernel_rfl) (by kernel_rfl) (cmp_isNaN_int64.ok a1 hS5 hr7) ?_
  rintro _ w9 ⟨rfl, hS10⟩
  refine ⟨.bool t6, rfl, ?_⟩
  refine sx_run 7 (todo' := [.code (cd15 [1, 1, 1, 0, 1]), .code (cd15 [1, 1, 1, 1])]) (us := [(6, .bool t6), (11, .bool t1)]) (by kernel_rfl) ?_
  cases t1
  · skip
    have hp11 := ite_f hp8 rfl
    refine sx_run 7 (todo' := [.code (cd15 [1, 1, 1, 1, 0, 1]), .code (cd15 [1, 1, 1, 1, 1])]) (us := [(13, .bool t6)]) (by kernel_rfl) ?_
    cases t6
    · skip
      have hp12 := ite_f hp11 rfl
      refine sx_split 8 (todo' := [.inRegion (opsOf (cd15 [1, 1, 1, 1, 1, 0, 0])) [], .code (cd15 [1, 1, 1, 1, 1, 0, 1]), .code (cd15 [1, 1, 1, 1, 1, 1])]) (us := [(14, .int .i64 a0), (15, .int .i64 a1)]) (d := 16) (t := (decide (a0 < a1))) (by kernel_rfl) (fun h13 => ?_) (fun h14 => ?_)
      · skip
        have hp15 := ite_t hp12 h13
        refine sx_run 6 (todo' := [.code (cd15 [1, 1, 1, 1, 1, 0, 1, 0, 1]), .code (cd15 [1, 1, 1, 1, 1, 1])]) (us := [(4, .int .i64 (-1))]) (by kernel_rfl) ?_
        refine runs_ret (fn := Try.f15) (v := .int .i64 (-1)) Try.func15 (by kernel_rfl) ?_
        have hr16 := (Option.some.inj hp15)
        cases hr16
        exact hR _ _ ⟨rfl, hS10⟩
      · skip
        have hp17 := ite_f hp12 h14
        refine sx_split 9 (todo' := [.inRegion (opsOf (cd15 [1, 1, 1, 1, 1, 1, 0, 0])) [], .code (cd15 [1, 1, 1, 1, 1, 1, 0, 1]), .code (cd15 [1, 1, 1, 1, 1, 1, 1])]) (us := [(17, .int .i64 a0), (18, .int .i64 a1)]) (d := 19) (t := (decide (a0 > a1))) (by kernel_rfl) (fun h18 => ?_) (fun h19 => ?_)
        · skip
          have hp20 := ite_t hp17 h18
          refine sx_run 6 (todo' := [.code (cd15 [1, 1, 1, 1, 1, 1, 0, 1, 0, 1]), .code (cd15 [1, 1, 1, 1, 1, 1, 1])]) (us := [(4, .int .i64 1)]) (by kernel_rfl) ?_
          refine runs_ret (fn := Try.f15) (v := .int .i64 1) Try.func15 (by kernel_rfl) ?_
          have hr21 := (Option.some.inj hp20)
          cases hr21
          exact hR _ _ ⟨rfl, hS10⟩
        · skip
          have hp22 := ite_f hp17 h19
          refine sx_run 7 (todo' := [.code (cd15 [1, 1, 1, 1, 1, 1, 1, 1])]) (us := [(4, .int .i64 0)]) (by kernel_rfl) ?_
          refine runs_ret (fn := Try.f15) (v := .int .i64 0) Try.func15 (by kernel_rfl) ?_
          have hr23 := (Option.some.inj hp22)
          cases hr23
          exact hR _ _ ⟨rfl, hS10⟩
    · skip
      have hp24 := ite_t hp11 rfl
      refine sx_run 5 (todo' := [.code (cd15 [1, 1, 1, 1, 0, 1, 0, 1]), .code (cd15 [1, 1, 1, 1, 1])]) (us := [(4, .int .i64 1)]) (by kernel_rfl) ?_
      refine runs_ret (fn := Try.f15) (v := .int .i64 1) Try.func15 (by kernel_rfl) ?_
      have hr25 := (Option.some.inj hp24)
      cases hr25
      exact hR _ _ ⟨rfl, hS10⟩
  · skip
    have hp26 := ite_t hp8 rfl
    refine sx_run 6 (todo' := [.code (cd15 [1, 1, 1, 0, 1, 0, 0, 1]), .code (cd15 [1, 1, 1, 0, 1, 0, 1]), .code (cd15 [1, 1, 1, 1])]) (us := [(12, .bool t6)]) (by kernel_rfl) ?_
    cases t6
    · skip
      have hp27 := ite_f hp26 rfl
      refine sx_run 6 (todo' := [.code (cd15 [1, 1, 1, 0, 1, 0, 1, 1]), .code (cd15 [1, 1, 1, 1])]) (us := [(4, .int .i64 (-1))]) (by kernel_rfl) ?_
      refine runs_ret (fn := Try.f15) (v := .int .i64 (-1)) Try.func15 (by kernel_rfl) ?_
      have hr28 := (Option.some.inj hp27)
      cases hr28
      exact hR _ _ ⟨rfl, hS10⟩
    · skip
      have hp29 := ite_t hp26 rfl
      refine sx_run 5 (todo' := [.code (cd15 [1, 1, 1, 0, 1, 0, 0, 1, 0, 1]), .code (cd15 [1, 1, 1, 0, 1, 0, 1]), .code (cd15 [1, 1, 1, 1])]) (us := [(4, .int .i64 0)]) (by kernel_rfl) ?_
      refine runs_ret (fn := Try.f15) (v := .int .i64 0) Try.func15 (by kernel_rfl) ?_
      have hr30 := (Option.some.inj hp29)
      cases hr30
      exact hR _ _ ⟨rfl, hS10⟩

noncomputable def cd12 (p : List Nat) : Code := sub (bodyOf Try.f12) p
def slices_Compare___int64_int64.l0 (a0 : List Int) (a1 : List Int) (t16 : Int) : Option (Sum Unit Int) :=
  (if (decide (t16 < (a0.length : Int))) = true then (if 0 ≤ t16 ∧ t16 < (a0.length : Int) then (if (decide (t16 ≥ (a1.length : Int))) = true then some (.inr (1)) else (if 0 ≤ t16 ∧ t16 < (a1.length : Int) then (cmp_Compare_int64.f (gt a0 t16) (gt a1 t16) >>= (fun t47 => (if (t47 != 0) = true then some (.inr (t47)) else (slices_Compare___int64_int64.l0 a0 a1 (IntKind.i64.wrap (t16 + 1)))))) else none)) else none) else some (.inl ()))
 partial_fixpoint
def slices_Compare___int64_int64.f (a0 : List Int) (a1 : List Int) : Option Int :=
  (slices_Compare___int64_int64.l0 a0 a1 0 >>= (fun | .inl () => (if (decide ((a0.length : Int) < (a1.length : Int))) = true then some ((-1)) else some (0)) | .inr e => some e))
set_option maxHeartbeats 16000000 in
theorem slices_Compare___int64_int64.ok (a0 : List Int) (a1 : List Int) (Aa0 : Option Addr) (ca0 : Nat) (Aa1 : Option Addr) (ca1 : Nat) {w0 : World} {Z : Zm} {fs : List XObj} {w : World} (hS0 : St w0 Z (fs) w) (ha0 : SlZ (flat (encI .i64)) 1 Z Aa0 ca0 a0) (ha1 : SlZ (flat (encI .i64)) 1 Z Aa1 ca1 a1) {q0 : Int} (hp0 : slices_Compare___int64_int64.f a0 a1 = some q0) :
    Calls Try.prog 12 #[.slice Aa0 a0.length ca0, .slice Aa1 a1.length ca1] w (fun e w' => e = .returned (.int .i64 q0) ∧ St w0 Z (fs) w') := by
  refine calls_abs ?_; intro R hR
  unfold slices_Compare___int64_int64.f at hp0
  refine calls_of_runs (fn := Try.f12) (c := cd12 []) Try.func12 (by kernel_rfl) (al := [.slice Aa0 a0.length ca0, .slice Aa1 a1.length ca1]) rfl (n := 34) rfl ?_
  refine sx_run 13 (todo' := [.code (cd12 [1, 0, 1, 0, 0]), .inLoop (cd12 [1, 0, 1, 0, 0]), .inBlock 0, .code (cd12 [1, 1])]) (us := [(4, .int .i64 0), (9, .slice Aa0 a0.length ca0), (10, .int .i64 (a0.length : Int)), (11, .int .i64 0)]) (by kernel_rfl) ?_
  obtain ⟨v1, hv2, hp3⟩ := bind_some' hp0
  have hq6 : ∀ x, Sum.inr x = v1 → x = q0 := by intro x hx; subst hx; simpa using hp3
  have J7 : ∀ (he9 : Sum.inl () = v1) (l8 : List Value) (w4 : World) (hS5 : St w0 Z (fs) w4), Runs Try.prog 12 [.code (cd12 [1, 1])] (fill [some (.slice Aa0 a0.length ca0), some (.slice Aa1 a1.length ca1), none, none, none, none, none, none, none, none, none, none, none, none, none, none, none, none, none, none, none, none, none, none, none, none, none, none, none, none, none, none, none, none, none, none] l8) w4 R := by
    intro he9 l8 w4 hS5
    subst he9
    try dsimp only at hp3
    refine sx_split 8 (todo' := [.inRegion (opsOf (cd12 [1, 1, 0, 0])) [], .code (cd12 [1, 1, 0, 1]), .code (cd12 [1, 1, 1])]) (us := [(31, .slice Aa0 a0.length ca0), (32, .int .i64 (a0.length : Int)), (33, .slice Aa1 a1.length ca1), (34, .int .i64 (a1.length : Int))]) (d := 35) (t := (decide ((a0.length : Int) < (a1.length : Int)))) (by kernel_rfl) (fun h10 => ?_) (fun h11 => ?_)
    · skip
      have hp12 := ite_t hp3 h10
      refine sx_run 6 (todo' := [.code (cd12 [1, 1, 0, 1, 0, 1]), .code (cd12 [1, 1, 1])]) (us := [(4, .int .i64 (-1))]) (by kernel_rfl) ?_
      refine runs_ret (fn := Try.f12) (v := .int .i64 (-1)) Try.func12 (by kernel_rfl) ?_
      have hr13 := (Option.some.inj hp12)
      cases hr13
      exact hR _ _ ⟨rfl, hS5⟩
    · skip
      have hp14 := ite_f hp3 h11
      refine sx_run 7 (todo' := [.code (cd12 [1, 1, 1, 1])]) (us := [(4, .int .i64 0)]) (by kernel_rfl) ?_
      refine runs_ret (fn := Try.f12) (v := .int .i64 0) Try.func12 (by kernel_rfl) ?_
      have hr15 := (Option.some.inj hp14)
      cases hr15
      exact hR _ _ ⟨rfl, hS5⟩
  have L25 : ∀ (t16 : Int) (e20 : Sum Unit Int), slices_Compare___int64_int64.l0 a0 a1 t16 = some e20 → e20 = v1 → ∀ (l19 : List Value) (w17 : World) (hS18 : St w0 Z (fs) w17), Runs Try.prog 12 [.code (cd12 [1, 0, 1, 0, 0]), .inLoop (cd12 [1, 0, 1, 0, 0]), .inBlock 0, .code (cd12 [1, 1])] (fill [some (.slice Aa0 a0.length ca0), some (.slice Aa1 a1.length ca1), none, none, none, none, none, none, none, some (.slice Aa0 a0.length ca0), some (.int .i64 (a0.length : Int)), some (.int .i64 t16), none, none, none, none, none, none, none, none, none, none, none, none, none, none, none, none, none, none, none, none, none, none, none, none] l19) w17 R := by
    refine slices_Compare___int64_int64.l0.partial_correctness a0 a1 (fun t16 e20 => e20 = v1 → ∀ (l19 : List Value) (w17 : World) (hS18 : St w0 Z (fs) w17), Runs Try.prog 12 [.code (cd12 [1, 0, 1, 0, 0]), .inLoop (cd12 [1, 0, 1, 0, 0]), .inBlock 0, .code (cd12 [1, 1])] (fill [some (.slice Aa0 a0.length ca0), some (.slice Aa1 a1.length ca1), none, none, none, none, none, none, none, some (.slice Aa0 a0.length ca0), some (.int .i64 (a0.length : Int)), some (.int .i64 t16), none, none, none, none, none, none, none, none, none, none, none, none, none, none, none, none, none, none, none, none, none, none, none, none] l19) w17 R) ?_
    intro rec24 ih23 t16 e20 hb22 he21 l19 w17 hS18
    have hq26 : ∀ x, Sum.inr x = e20 → x = q0 := fun x hx => hq6 x (hx.trans he21)
    refine sx_split 3 (todo' := [.inRegion (opsOf (cd12 [1, 0, 1, 0, 0, 0])) [], .code (cd12 [1, 0, 1, 0, 0, 1]), .inLoop (cd12 [1, 0, 1, 0, 0]), .inBlock 0, .code (cd12 [1, 1])]) (us := []) (d := 12) (t := (decide (t16 < (a0.length : Int)))) (by kernel_rfl) (fun h27 => ?_) (fun h28 => ?_)
    · skip
      have hp29 := ite_t hb22 h27
      refine sx_run 9 (todo' := [.inRegion (opsOf (cd12 [1, 0, 1, 0, 0, 1, 1, 0, 0, 0])) [1, 2, 3, 4], .code (cd12 [1, 0, 1, 0, 0, 1, 1, 0, 0, 1]), .inBlock 1, .code (cd12 [1, 0, 1, 0, 0, 1, 1, 1]), .inLoop (cd12 [1, 0, 1, 0, 0]), .inBlock 0, .code (cd12 [1, 1])]) (us := [(13, .int .i64 t16)]) (by kernel_rfl) ?_
      obtain ⟨g30, hp31⟩ := ite_some hp29
      obtain ⟨b32, p33, hA34, hc35⟩ := ha0.atF g30.1 g30.2
      refine r_indexAddr (c := (cd12 [1, 0, 1, 0, 0, 1, 1, 0, 0, 0])) (i := 1) (d := (some 14)) (ty := 0) (t := 39) (e := 2) (n := a0.length) (cp := ca0) (sz := 1) (kk := .i64) (x := (.tmp 9)) (y := (.tmp 11)) (b := b32) (o' := p33) (j := t16) (by kernel_rfl) (by kernel_rfl) (slv (by kernel_rfl) hA34) (by kernel_rfl) (by kernel_rfl) (by kernel_rfl) g30.1 g30.2 ?_
      refine r_load (c := (cd12 [1, 0, 1, 0, 0, 1, 1, 0, 0, 0])) (i := 2) (d := (some 15)) (ty := 2) (t := 2) (x := (.tmp 14)) (p := ⟨b32, p33 + t16.toNat * 1, none⟩) (v := .int .i64 (gt a0 t16)) (by kernel_rfl) (by kernel_rfl) (by kernel_rfl) (loads_at 0 (hc35.cells hS18) (by kernel_rfl) (by kernel_rfl)) ?_
      refine sx_split 10 (todo' := [.inRegion (opsOf (cd12 [1, 0, 1, 0, 0, 1, 1, 0, 0, 1, 0, 0])) [], .code (cd12 [1, 0, 1, 0, 0, 1, 1, 0, 0, 1, 0, 1]), .code (cd12 [1, 0, 1, 0, 0, 1, 1, 0, 0, 1, 1]), .inBlock 1, .code (cd12 [1, 0, 1, 0, 0, 1, 1, 1]), .inLoop (cd12 [1, 0, 1, 0, 0]), .inBlock 0, .code (cd12 [1, 1])]) (us := [(5, .int .i64 t16), (6, .int .i64 (gt a0 t16)), (16, .int .i64 t16), (17, .slice Aa1 a1.length ca1), (18, .int .i64 (a1.length : Int))]) (d := 19) (t := (decide (t16 ≥ (a1.length : Int)))) (by kernel_rfl) (fun h36 => ?_) (fun h37 => ?_)
      · skip
        have hp38 := ite_t hp31 h36
        refine sx_run 6 (todo' := [.code (cd12 [1, 0, 1, 0, 0, 1, 1, 0, 0, 1, 0, 1, 0, 1]), .code (cd12 [1, 0, 1, 0, 0, 1, 1, 0, 0, 1, 1]), .inBlock 1, .code (cd12 [1, 0, 1, 0, 0, 1, 1, 1]), .inLoop (cd12 [1, 0, 1, 0, 0]), .inBlock 0, .code (cd12 [1, 1])]) (us := [(4, .int .i64 1)]) (by kernel_rfl) ?_
        refine runs_ret (fn := Try.f12) (v := .int .i64 1) Try.func12 (by kernel_rfl) ?_
        have hr39 := (hq26 _ (Option.some.inj hp38))
        cases hr39
        exact hR _ _ ⟨rfl, hS18⟩
      · skip
        have hp40 := ite_f hp31 h37
        refine sx_run 7 (todo' := [.inRegion (opsOf (cd12 [1, 0, 1, 0, 0, 1, 1, 0, 0, 1, 1, 0])) [2, 3, 4], .code (cd12 [1, 0, 1, 0, 0, 1, 1, 0, 0, 1, 1, 1]), .inBlock 1, .code (cd12 [1, 0, 1, 0, 0, 1, 1, 1]), .inLoop (cd12 [1, 0, 1, 0, 0]), .inBlock 0, .code (cd12 [1, 1])]) (us := [(20, .slice Aa1 a1.length ca1), (21, .int .i64 t16)]) (by kernel_rfl) ?_
        obtain ⟨g41, hp42⟩ := ite_some hp40
        obtain ⟨b43, p44, hA45, hc46⟩ := ha1.atF g41.1 g41.2
        refine r_indexAddr (c := (cd12 [1, 0, 1, 0, 0, 1, 1, 0, 0, 1, 1, 0])) (i := 2) (d := (some 22)) (ty := 0) (t := 39) (e := 2) (n := a1.length) (cp := ca1) (sz := 1) (kk := .i64) (x := (.tmp 20)) (y := (.tmp 21)) (b := b43) (o' := p44) (j := t16) (by kernel_rfl) (by kernel_rfl) (slv (by kernel_rfl) hA45) (by kernel_rfl) (by kernel_rfl) (by kernel_rfl) g41.1 g41.2 ?_
        refine r_load (c := (cd12 [1, 0, 1, 0, 0, 1, 1, 0, 0, 1, 1, 0])) (i := 3) (d := (some 23)) (ty := 2) (t := 2) (x := (.tmp 22)) (p := ⟨b43, p44 + t16.toNat * 1, none⟩) (v := .int .i64 (gt a1 t16)) (by kernel_rfl) (by kernel_rfl) (by kernel_rfl) (loads_at 0 (hc46.cells hS18) (by kernel_rfl) (by kernel_rfl)) ?_
        refine sx_run 6 (todo' := [.inRegion (opsOf (cd12 [1, 0, 1, 0, 0, 1, 1, 0, 0, 1, 1, 1, 0])) [2, 3], .code (cd12 [1, 0, 1, 0, 0, 1, 1, 0, 0, 1, 1, 1, 1]), .inBlock 1, .code (cd12 [1, 0, 1, 0, 0, 1, 1, 1]), .inLoop (cd12 [1, 0, 1, 0, 0]), .inBlock 0, .code (cd12 [1, 1])]) (us := [(7, .int .i64 (gt a1 t16)), (24, .int .i64 (gt a0 t16)), (25, .int .i64 (gt a1 t16))]) (by kernel_rfl) ?_
        obtain ⟨t47, hr48, hp49⟩ := bind_some' hp42
        refine r_call1 (c := (cd12 [1, 0, 1, 0, 0, 1, 1, 0, 0, 1, 1, 1, 0])) (i := 2) (d := (some 26)) (g := 15) (args := #[.int .i64 (gt a0 t16), .int .i64 (gt a1 t16)]) (by kernel_rfl) (by kernel_rfl) (by kernel_rfl) (by kernel_rfl) (cmp_Compare_int64.ok (gt a0 t16) (gt a1 t16) hS18 hr48) ?_
        rintro _ w50 ⟨rfl, hS51⟩
        refine ⟨.int .i64 t47, rfl, ?_⟩
        refine sx_split 6 (todo' := [.inRegion (opsOf (cd12 [1, 0, 1, 0, 0, 1, 1, 0, 0, 1, 1, 1, 1, 0])) [], .code (cd12 [1, 0, 1, 0, 0, 1, 1, 0, 0, 1, 1, 1, 1, 1]), .inBlock 1, .code (cd12 [1, 0, 1, 0, 0, 1, 1, 1]), .inLoop (cd12 [1, 0, 1, 0, 0]), .inBlock 0, .code (cd12 [1, 1])]) (us := [(8, .int .i64 t47), (27, .int .i64 t47)]) (d := 28) (t := (t47 != 0)) (by kernel_rfl) (fun h52 => ?_) (fun h53 => ?_)
        · skip
          have hp54 := ite_t hp49 h52
          refine sx_run 7 (todo' := [.code (cd12 [1, 0, 1, 0, 0, 1, 1, 0, 0, 1, 1, 1, 1, 1, 0, 1]), .inBlock 1, .code (cd12 [1, 0, 1, 0, 0, 1, 1, 1]), .inLoop (cd12 [1, 0, 1, 0, 0]), .inBlock 0, .code (cd12 [1, 1])]) (us := [(29, .int .i64 t47), (4, .int .i64 t47)]) (by kernel_rfl) ?_
          refine runs_ret (fn := Try.f12) (v := .int .i64 t47) Try.func12 (by kernel_rfl) ?_
          have hr55 := (hq26 _ (Option.some.inj hp54))
          cases hr55
          exact hR _ _ ⟨rfl, hS51⟩
        · skip
          have hp56 := ite_f hp49 h53
          refine sx_run 8 (todo' := [.inLoop (cd12 [1, 0, 1, 0, 0]), .inBlock 0, .code (cd12 [1, 1])]) (us := [(30, .int .i64 (IntKind.i64.wrap (t16 + 1))), (11, .int .i64 (IntKind.i64.wrap (t16 + 1)))]) (by kernel_rfl) ?_
          refine sx_run 1 (todo' := [.code (cd12 [1, 0, 1, 0, 0]), .inLoop (cd12 [1, 0, 1, 0, 0]), .inBlock 0, .code (cd12 [1, 1])]) (us := []) (by kernel_rfl) ?_
          refine Runs.fill (m := [some (.slice Aa0 a0.length ca0), some (.slice Aa1 a1.length ca1), none, none, none, none, none, none, none, some (.slice Aa0 a0.length ca0), some (.int .i64 (a0.length : Int)), some (.int .i64 (IntKind.i64.wrap (t16 + 1))), none, none, none, none, none, none, none, none, none, none, none, none, none, none, none, none, none, none, none, none, none, none, none, none]) (by kernel_rfl) ?_
          exact ih23 (IntKind.i64.wrap (t16 + 1)) _ hp56 he21 _ _ hS51
    · skip
      have hp57 := ite_f hb22 h28
      refine sx_run 4 (todo' := [.code (cd12 [1, 1])]) (us := []) (by kernel_rfl) ?_
      refine Runs.fill (m := [some (.slice Aa0 a0.length ca0), some (.slice Aa1 a1.length ca1), none, none, none, none, none, none, none, none, none, none, none, none, none, none, none, none, none, none, none, none, none, none, none, none, none, none, none, none, none, none, none, none, none, none]) (by kernel_rfl) ?_
      exact J7 ((Option.some.inj hp57).trans he21) _ _ hS18
  refine Runs.fill (m := [some (.slice Aa0 a0.length ca0), some (.slice Aa1 a1.length ca1), none, none, none, none, none, none, none, some (.slice Aa0 a0.length ca0), some (.int .i64 (a0.length : Int)), some (.int .i64 0), none, none, none, none, none, none, none, none, none, none, none, none, none, none, none, none, none, none, none, none, none, none, none, none]) (by kernel_rfl) ?_
  exact L25 0 _ hv2 rfl _ _ hS0

noncomputable def cd7 (p : List Nat) : Code := sub (bodyOf Try.f7) p
def state_Compare.f (a0 : api_Final) (a1 : api_Final) : Option Int :=
  (if (decide (a0.N < a1.N)) = true then some ((-1)) else (if (decide (a0.N > a1.N)) = true then some (1) else (slices_Compare___int64_int64.f ((a0.V.toList.take 48).drop 0) ((a1.V.toList.take 48).drop 0) >>= (fun t42 => some (t42)))))
set_option maxHeartbeats 16000000 in
theorem state_Compare.ok (a0 : api_Final) (a1 : api_Final) {w0 : World} {Z : Zm} {fs : List XObj} {w : World} (hS0 : St w0 Z (fs) w) {q0 : Int} (hp0 : state_Compare.f a0 a1 = some q0) :
    Calls Try.prog 7 #[.agg (enc_api_Final a0).toArray, .agg (enc_api_Final a1).toArray] w (fun e w' => e = .returned (.int .i64 q0) ∧ St w0 Z (fs) w') := by
  refine calls_abs ?_; intro R hR
  unfold state_Compare.f at hp0
  refine calls_of_runs (fn := Try.f7) (c := cd7 []) Try.func7 (by kernel_rfl) (al := [.agg (enc_api_Final a0).toArray, .agg (enc_api_Final a1).toArray]) rfl (n := 20) rfl ?_
  refine sx_run 2 (todo' := [.inRegion (opsOf (cd7 [0])) [0, 1, 2], .code (cd7 [1])]) (us := []) (by kernel_rfl) ?_
  refine r_box (c := (cd7 [0])) (i := 0) (d := (some 2)) (ty := 0) (x := (.tmp 0)) (v := .agg (enc_api_Final a0).toArray) (t := 25) (cs := enc_api_Final a0) hS0 (by kernel_rfl) (by kernel_rfl) (by kernel_rfl) (by kernel_rfl) ?_
  intro b1 w2 hS3
  refine r_box (c := (cd7 [0])) (i := 1) (d := (some 3)) (ty := 0) (x := (.tmp 1)) (v := .agg (enc_api_Final a1).toArray) (t := 25) (cs := enc_api_Final a1) hS3 (by kernel_rfl) (by kernel_rfl) (by kernel_rfl) (by kernel_rfl) ?_
  intro b5 w6 hS7
  refine sx_run 7 (todo' := [.inRegion (opsOf (cd7 [1, 0, 0, 0])) [1, 2, 3, 4, 5], .code (cd7 [1, 0, 0, 1]), .inBlock 0, .code (cd7 [1, 1])]) (us := [(4, .int .i64 0), (6, .pointer (some ⟨b1, 0, none⟩))]) (by kernel_rfl) ?_
  refine r_load (c := (cd7 [1, 0, 0, 0])) (i := 1) (d := (some 7)) (ty := 3) (t := 3) (x := (.tmp 6)) (p := ⟨b1, 0, none⟩) (v := .int .i64 a0.N) (by kernel_rfl) (by kernel_rfl) (by kernel_rfl) (loads_at 0 (hS7.blk 1 rfl) (by kernel_rfl) (by kernel_rfl)) ?_
  refine sx_run 1 (todo' := [.inRegion (opsOf (cd7 [1, 0, 0, 0])) [3, 4, 5], .code (cd7 [1, 0, 0, 1]), .inBlock 0, .code (cd7 [1, 1])]) (us := [(8, .pointer (some ⟨b5, 0, none⟩))]) (by kernel_rfl) ?_
  refine r_load (c := (cd7 [1, 0, 0, 0])) (i := 3) (d := (some 9)) (ty := 3) (t := 3) (x := (.tmp 8)) (p := ⟨b5, 0, none⟩) (v := .int .i64 a1.N) (by kernel_rfl) (by kernel_rfl) (by kernel_rfl) (loads_at 0 (hS7.blk 0 rfl) (by kernel_rfl) (by kernel_rfl)) ?_
  refine sx_split 1 (todo' := [.inRegion (opsOf (cd7 [1, 0, 0, 0])) [5], .code (cd7 [1, 0, 0, 1]), .inBlock 0, .code (cd7 [1, 1])]) (us := []) (d := 10) (t := (decide (a0.N < a1.N))) (by kernel_rfl) (fun h9 => ?_) (fun h10 => ?_)
  · skip
    have hp11 := ite_t hp0 h9
    refine sx_run 7 (todo' := [.code (cd7 [1, 0, 0, 1, 0, 1]), .inBlock 0, .code (cd7 [1, 1])]) (us := [(5, .bool true), (4, .int .i64 (-1))]) (by kernel_rfl) ?_
    have hS12 := hS7.drop
    have hS13 := hS12.drop
    refine runs_ret (fn := Try.f7) (v := .int .i64 (-1)) Try.func7 (by kernel_rfl) ?_
    have hr14 := (Option.some.inj hp11)
    cases hr14
    exact hR _ _ ⟨rfl, hS13⟩
  · skip
    have hp15 := ite_f hp0 h10
    refine sx_run 6 (todo' := [.inRegion (opsOf (cd7 [1, 0, 0, 1, 1, 0])) [1, 2, 3, 4, 5], .code (cd7 [1, 0, 0, 1, 1, 1]), .inBlock 0, .code (cd7 [1, 1])]) (us := [(5, .bool false), (12, .pointer (some ⟨b1, 0, none⟩))]) (by kernel_rfl) ?_
    refine r_load (c := (cd7 [1, 0, 0, 1, 1, 0])) (i := 1) (d := (some 13)) (ty := 3) (t := 3) (x := (.tmp 12)) (p := ⟨b1, 0, none⟩) (v := .int .i64 a0.N) (by kernel_rfl) (by kernel_rfl) (by kernel_rfl) (loads_at 0 (hS7.blk 1 rfl) (by kernel_rfl) (by kernel_rfl)) ?_
    refine sx_run 1 (todo' := [.inRegion (opsOf (cd7 [1, 0, 0, 1, 1, 0])) [3, 4, 5], .code (cd7 [1, 0, 0, 1, 1, 1]), .inBlock 0, .code (cd7 [1, 1])]) (us := [(14, .pointer (some ⟨b5, 0, none⟩))]) (by kernel_rfl) ?_
    refine r_load (c := (cd7 [1, 0, 0, 1, 1, 0])) (i := 3) (d := (some 15)) (ty := 3) (t := 3) (x := (.tmp 14)) (p := ⟨b5, 0, none⟩) (v := .int .i64 a1.N) (by kernel_rfl) (by kernel_rfl) (by kernel_rfl) (loads_at 0 (hS7.blk 0 rfl) (by kernel_rfl) (by kernel_rfl)) ?_
    refine sx_split 1 (todo' := [.inRegion (opsOf (cd7 [1, 0, 0, 1, 1, 0])) [5], .code (cd7 [1, 0, 0, 1, 1, 1]), .inBlock 0, .code (cd7 [1, 1])]) (us := []) (d := 16) (t := (decide (a0.N > a1.N))) (by kernel_rfl) (fun h16 => ?_) (fun h17 => ?_)
    · skip
      have hp18 := ite_t hp15 h16
      refine sx_run 7 (todo' := [.code (cd7 [1, 0, 0, 1, 1, 1, 0, 1]), .inBlock 0, .code (cd7 [1, 1])]) (us := [(11, .bool true), (4, .int .i64 1)]) (by kernel_rfl) ?_
      have hS19 := hS7.drop
      have hS20 := hS19.drop
      refine runs_ret (fn := Try.f7) (v := .int .i64 1) Try.func7 (by kernel_rfl) ?_
      have hr21 := (Option.some.inj hp18)
      cases hr21
      exact hR _ _ ⟨rfl, hS20⟩
    · skip
      have hp22 := ite_f hp15 h17
      refine sx_run 6 (todo' := [.code (cd7 [1, 1, 0]), .code (cd7 [1, 1, 1])]) (us := [(11, .bool false)]) (by kernel_rfl) ?_
      have hS23 := hS7.pick1
      obtain ⟨Z24, hz25, hS26, hs27, -⟩ := hS23.lendblk
      obtain ⟨Z28, hz29, hS30, hs31, -⟩ := hS26.lendblk
      refine r_quiet hS30 (c := (cd7 [1, 1, 0])) (id := 5) (by kernel_rfl) (by kernel_rfl) (by kernel_rfl) (is := [0, 1, 2, 3, 4, 5]) (by kernel_rfl) ?_
      refine q_run 1 (is' := [1, 2, 3, 4, 5]) (us := [(17, .pointer (some ⟨b1, 1, none⟩))]) (by kernel_rfl) ?_
      obtain ⟨A32, c33, hr34, hs35⟩ := cutArrZ (zsub_api_Final_V (hs27.mono hz29)) (len_encI .i64) 0 48 (by omega) (by omega) (by omega)
      refine q_val (c := (cd7 [1, 1, 0])) (i := 1) (d := (some 18)) (ty := 39) (op := .slice 23 (.tmp 17) none none none) (v := .slice A32 ((a0.V.toList.take 48).drop 0).length c33) (by kernel_rfl) (by kernel_rfl) (fun w hC o ho _ => x_cutArr_nn (e := 2) (by kernel_rfl)  (by kernel_rfl) (by kernel_rfl) hr34 ho) ?_
      refine q_run 1 (is' := [3, 4, 5]) (us := [(19, .pointer (some ⟨b5, 1, none⟩))]) (by kernel_rfl) ?_
      obtain ⟨A37, c38, hr39, hs40⟩ := cutArrZ (zsub_api_Final_V hs31) (len_encI .i64) 0 48 (by omega) (by omega) (by omega)
      refine q_val (c := (cd7 [1, 1, 0])) (i := 3) (d := (some 20)) (ty := 39) (op := .slice 23 (.tmp 19) none none none) (v := .slice A37 ((a1.V.toList.take 48).drop 0).length c38) (by kernel_rfl) (by kernel_rfl) (fun w hC o ho _ => x_cutArr_nn (e := 2) (by kernel_rfl)  (by kernel_rfl) (by kernel_rfl) hr39 ho) ?_
      obtain ⟨t42, hr43, hp44⟩ := bind_some' hp22
      refine q_call1 (c := (cd7 [1, 1, 0])) (i := 4) (d := (some 21)) (v := .int .i64 t42) (g := 12) (args := #[.slice A32 ((a0.V.toList.take 48).drop 0).length c33, .slice A37 ((a1.V.toList.take 48).drop 0).length c38]) (by kernel_rfl) (by kernel_rfl) (by kernel_rfl) (by kernel_rfl) (fun w hC => by
        refine (slices_Compare___int64_int64.ok ((a0.V.toList.take 48).drop 0) ((a1.V.toList.take 48).drop 0) A32 c33 A37 c38 hC hs35 hs40 hr43).mono ?_
        rintro e w2 ⟨rfl, h2⟩
        exact ⟨rfl, h2⟩) ?_
      refine q_run 1 (is' := []) (us := [(4, .int .i64 t42)]) (by kernel_rfl) ?_
      refine Qs.nil ?_
      intro w45 hS46
      have hS47 := hS46.less (Zm.Le.trans hz25 hz29)
      refine runs_ret (fn := Try.f7) (v := .int .i64 t42) Try.func7 (by kernel_rfl) ?_
      have hr48 := (Option.some.inj hp44)
      cases hr48
      exact hR _ _ ⟨rfl, hS47⟩

noncomputable def cd14 (p : List Nat) : Code := sub (bodyOf Try.f14) p
def state_Rises.l0 (a0 : List api_Final) (t11 : Int) : Option (Sum Unit Bool) :=
  (if (decide (t11 < (a0.length : Int))) = true then (if 0 ≤ t11 ∧ t11 < (a0.length : Int) then (state_Check.f (gt a0 t11) >>= (fun t37 => (if (t37 != 0) = true then some (.inr (false)) else (if (decide (t11 > 0)) = true then (if 0 ≤ (IntKind.i64.wrap (t11 - 1)) ∧ (IntKind.i64.wrap (t11 - 1)) < (a0.length : Int) then (state_Compare.f (gt a0 (IntKind.i64.wrap (t11 - 1))) (gt a0 t11) >>= (fun t57 => (if (decide (t57 ≥ 0)) = true then some (.inr (false)) else (state_Rises.l0 a0 (IntKind.i64.wrap (t11 + 1)))))) else none) else (state_Rises.l0 a0 (IntKind.i64.wrap (t11 + 1))))))) else none) else some (.inl ()))
 partial_fixpoint
def state_Rises.f (a0 : List api_Final) : Option Bool :=
  (state_Rises.l0 a0 0 >>= (fun | .inl () => some (true) | .inr e => some e))
set_option maxHeartbeats 16000000 in
theorem state_Rises.ok (a0 : List api_Final) (Aa0 : Option Addr) (ca0 : Nat) {w0 : World} {Z : Zm} {fs : List XObj} {w : World} (hS0 : St w0 Z (fs) w) (ha0 : SlZ (flat enc_api_Final) 49 Z Aa0 ca0 a0) {q0 : Bool} (hp0 : state_Rises.f a0 = some q0) :
    Calls Try.prog 14 #[.slice Aa0 a0.length ca0] w (fun e w' => e = .returned (.bool q0) ∧ St w0 Z (fs) w') := by
  refine calls_abs ?_; intro R hR
  unfold state_Rises.f at hp0
  refine calls_of_runs (fn := Try.f14) (c := cd14 []) Try.func14 (by kernel_rfl) (al := [.slice Aa0 a0.length ca0]) rfl (n := 29) rfl ?_
  refine sx_run 13 (todo' := [.code (cd14 [1, 0, 1, 0, 0]), .inLoop (cd14 [1, 0, 1, 0, 0]), .inBlock 0, .code (cd14 [1, 1])]) (us := [(2, .bool false), (5, .slice Aa0 a0.length ca0), (6, .int .i64 (a0.length : Int)), (7, .int .i64 0)]) (by kernel_rfl) ?_
  obtain ⟨v1, hv2, hp3⟩ := bind_some' hp0
  have hq6 : ∀ x, Sum.inr x = v1 → x = q0 := by intro x hx; subst hx; simpa using hp3
  have J7 : ∀ (he9 : Sum.inl () = v1) (l8 : List Value) (w4 : World) (hS5 : St w0 Z (fs) w4), Runs Try.prog 14 [.code (cd14 [1, 1])] (fill [none, none, none, none, none, none, none, none, none, none, none, none, none, none, none, none, none, none, none, none, none, none, none, none, none, none, none, none, none, none] l8) w4 R := by
    intro he9 l8 w4 hS5
    subst he9
    try dsimp only at hp3
    refine sx_run 4 (todo' := [.code (cd14 [1, 1, 1])]) (us := [(2, .bool true)]) (by kernel_rfl) ?_
    refine runs_ret (fn := Try.f14) (v := .bool true) Try.func14 (by kernel_rfl) ?_
    have hr10 := (Option.some.inj hp3)
    cases hr10
    exact hR _ _ ⟨rfl, hS5⟩
  have L20 : ∀ (t11 : Int) (e15 : Sum Unit Bool), state_Rises.l0 a0 t11 = some e15 → e15 = v1 → ∀ (l14 : List Value) (w12 : World) (hS13 : St w0 Z (fs) w12), Runs Try.prog 14 [.code (cd14 [1, 0, 1, 0, 0]), .inLoop (cd14 [1, 0, 1, 0, 0]), .inBlock 0, .code (cd14 [1, 1])] (fill [some (.slice Aa0 a0.length ca0), none, none, none, none, some (.slice Aa0 a0.length ca0), some (.int .i64 (a0.length : Int)), some (.int .i64 t11), none, none, none, none, none, none, none, none, none, none, none, none, none, none, none, none, none, none, none, none, none, none] l14) w12 R := by
    refine state_Rises.l0.partial_correctness a0 (fun t11 e15 => e15 = v1 → ∀ (l14 : List Value) (w12 : World) (hS13 : St w0 Z (fs) w12), Runs Try.prog 14 [.code (cd14 [1, 0, 1, 0, 0]), .inLoop (cd14 [1, 0, 1, 0, 0]), .inBlock 0, .code (cd14 [1, 1])] (fill [some (.slice Aa0 a0.length ca0), none, none, none, none, some (.slice Aa0 a0.length ca0), some (.int .i64 (a0.length : Int)), some (.int .i64 t11), none, none, none, none, none, none, none, none, none, none, none, none, none, none, none, none, none, none, none, none, none, none] l14) w12 R) ?_
    intro rec19 ih18 t11 e15 hb17 he16 l14 w12 hS13
    have hq21 : ∀ x, Sum.inr x = e15 → x = q0 := fun x hx => hq6 x (hx.trans he16)
    refine sx_split 3 (todo' := [.inRegion (opsOf (cd14 [1, 0, 1, 0, 0, 0])) [], .code (cd14 [1, 0, 1, 0, 0, 1]), .inLoop (cd14 [1, 0, 1, 0, 0]), .inBlock 0, .code (cd14 [1, 1])]) (us := []) (d := 8) (t := (decide (t11 < (a0.length : Int)))) (by kernel_rfl) (fun h22 => ?_) (fun h23 => ?_)
    · skip
      have hp24 := ite_t hb17 h22
      refine sx_run 9 (todo' := [.inRegion (opsOf (cd14 [1, 0, 1, 0, 0, 1, 1, 0, 0, 0])) [1, 2, 3, 4, 5], .code (cd14 [1, 0, 1, 0, 0, 1, 1, 0, 0, 1]), .inBlock 1, .code (cd14 [1, 0, 1, 0, 0, 1, 1, 1]), .inLoop (cd14 [1, 0, 1, 0, 0]), .inBlock 0, .code (cd14 [1, 1])]) (us := [(9, .int .i64 t11)]) (by kernel_rfl) ?_
      obtain ⟨g25, hp26⟩ := ite_some hp24
      obtain ⟨b27, p28, hA29, hc30⟩ := ha0.atF g25.1 g25.2
      refine r_indexAddr (c := (cd14 [1, 0, 1, 0, 0, 1, 1, 0, 0, 0])) (i := 1) (d := (some 10)) (ty := 0) (t := 22) (e := 25) (n := a0.length) (cp := ca0) (sz := 49) (kk := .i64) (x := (.tmp 5)) (y := (.tmp 7)) (b := b27) (o' := p28) (j := t11) (by kernel_rfl) (by kernel_rfl) (slv (by kernel_rfl) hA29) (by kernel_rfl) (by kernel_rfl) (by kernel_rfl) g25.1 g25.2 ?_
      refine r_load (c := (cd14 [1, 0, 1, 0, 0, 1, 1, 0, 0, 0])) (i := 2) (d := (some 11)) (ty := 25) (t := 25) (x := (.tmp 10)) (p := ⟨b27, p28 + t11.toNat * 49, none⟩) (v := .agg (enc_api_Final (gt a0 t11)).toArray) (by kernel_rfl) (by kernel_rfl) (by kernel_rfl) (loads_agg (hc30.cells hS13) (by kernel_rfl) (lenK (len_api_Final _) (by kernel_rfl))) ?_
      refine r_alloc (c := (cd14 [1, 0, 1, 0, 0, 1, 1, 0, 0, 0])) (i := 3) (d := (some 4)) (ty := 0) (z := .agg (enc_api_Final (⟨0, (Vector.replicate 48 0)⟩ : api_Final)).toArray) (t := 25) (cs := enc_api_Final (⟨0, (Vector.replicate 48 0)⟩ : api_Final)) hS13 (by kernel_rfl) (by kernel_rfl) (by kernel_rfl) (by kernel_rfl) ?_
      intro b31 w32 hS33
      refine sx_run 1 (todo' := [.inRegion (opsOf (cd14 [1, 0, 1, 0, 0, 1, 1, 0, 0, 0])) [5], .code (cd14 [1, 0, 1, 0, 0, 1, 1, 0, 0, 1]), .inBlock 1, .code (cd14 [1, 0, 1, 0, 0, 1, 1, 1]), .inLoop (cd14 [1, 0, 1, 0, 0]), .inBlock 0, .code (cd14 [1, 1])]) (us := [(3, .int .i64 t11)]) (by kernel_rfl) ?_
      refine r_store (c := (cd14 [1, 0, 1, 0, 0, 1, 1, 0, 0, 0])) (i := 5) (d := none) (ty := 0) (t := 25) (x := (.tmp 4)) (y := (.tmp 11)) (b := b31) (o := 0) (e := 25) (cs := enc_api_Final (⟨0, (Vector.replicate 48 0)⟩ : api_Final)) (v := .agg (enc_api_Final (gt a0 t11)).toArray) (vs := enc_api_Final (gt a0 t11)) (cs' := enc_api_Final (gt a0 t11)) hS33 (by kernel_rfl) (by kernel_rfl) (by kernel_rfl) (by kernel_rfl) (by kernel_rfl) (lenK (len_api_Final _) (by kernel_rfl)) (one_api_Final _) (by simp only [len_api_Final, List.length_cons, List.length_nil, List.length_append]; omega) (over_all ((len_api_Final _).trans (len_api_Final _).symm)) ?_
      intro w35 hS36
      refine sx_run 2 (todo' := [.code (cd14 [1, 0, 1, 0, 0, 1, 1, 0, 0, 1, 0]), .code (cd14 [1, 0, 1, 0, 0, 1, 1, 0, 0, 1, 1]), .inBlock 1, .code (cd14 [1, 0, 1, 0, 0, 1, 1, 1]), .inLoop (cd14 [1, 0, 1, 0, 0]), .inBlock 0, .code (cd14 [1, 1])]) (us := []) (by kernel_rfl) ?_
      refine r_quiet hS36 (c := (cd14 [1, 0, 1, 0, 0, 1, 1, 0, 0, 1, 0])) (id := 4) (by kernel_rfl) (by kernel_rfl) (by kernel_rfl) (is := [0, 1, 2, 3, 4, 5, 6, 7, 8, 9, 10, 11, 12, 13, 14, 15, 16]) (by kernel_rfl) ?_
      refine q_load (c := (cd14 [1, 0, 1, 0, 0, 1, 1, 0, 0, 1, 0])) (i := 0) (d := (some 12)) (ty := 25) (t := 25) (x := (.tmp 4)) (p := ⟨b31, 0, none⟩) (v := .agg (enc_api_Final (gt a0 t11)).toArray) (by kernel_rfl) (by kernel_rfl) (by kernel_rfl) (fun w hC => (loads_agg (hC.blk 0 rfl) (by kernel_rfl) (lenK (len_api_Final _) (by kernel_rfl)))) ?_
      obtain ⟨t37, hr38, hp39⟩ := bind_some' hp26
      refine q_call1 (c := (cd14 [1, 0, 1, 0, 0, 1, 1, 0, 0, 1, 0])) (i := 1) (d := (some 13)) (v := .int .i64 t37) (g := 16) (args := #[.agg (enc_api_Final (gt a0 t11)).toArray]) (by kernel_rfl) (by kernel_rfl) (by kernel_rfl) (by kernel_rfl) (fun w hC => by
        refine (state_Check.ok (gt a0 t11) hC hr38).mono ?_
        rintro e w2 ⟨rfl, h2⟩
        exact ⟨rfl, h2⟩) ?_
      refine q_splitr 1 (is' := [3, 4, 5, 6, 7, 8, 9, 10, 11, 12, 13, 14, 15, 16]) (us := []) (d := 14) (t := (t37 != 0)) (by kernel_rfl) (fun h40 => ?_) (fun h41 => ?_)
      · skip
        have hp42 := ite_t hp39 h40
        refine q_run 14 (is' := []) (us := [(15, .bool true), (16, undef), (17, undef), (18, undef), (19, undef), (20, undef), (21, undef), (22, undef), (23, undef), (24, undef), (25, undef), (26, undef), (27, undef), (28, .bool true)]) (by kernel_rfl) ?_
        refine Qs.nil ?_
        intro w43 hS44
        refine sx_run 5 (todo' := [.code (cd14 [1, 0, 1, 0, 0, 1, 1, 0, 0, 1, 1, 0, 1]), .inBlock 1, .code (cd14 [1, 0, 1, 0, 0, 1, 1, 1]), .inLoop (cd14 [1, 0, 1, 0, 0]), .inBlock 0, .code (cd14 [1, 1])]) (us := [(2, .bool false)]) (by kernel_rfl) ?_
        have hS45 := hS44.drop
        refine runs_ret (fn := Try.f14) (v := .bool false) Try.func14 (by kernel_rfl) ?_
        have hr46 := (hq21 _ (Option.some.inj hp42))
        cases hr46
        exact hR _ _ ⟨rfl, hS45⟩
      · skip
        have hp47 := ite_f hp39 h41
        refine q_splitr 3 (is' := [6, 7, 8, 9, 10, 11, 12, 13, 14, 15, 16]) (us := [(15, .bool false), (16, .int .i64 t11)]) (d := 17) (t := (decide (t11 > 0))) (by kernel_rfl) (fun h48 => ?_) (fun h49 => ?_)
        · skip
          have hp50 := ite_t hp47 h48
          refine q_run 4 (is' := [10, 11, 12, 13, 14, 15, 16]) (us := [(18, .bool true), (19, .slice Aa0 a0.length ca0), (20, .int .i64 t11), (21, .int .i64 (IntKind.i64.wrap (t11 - 1)))]) (by kernel_rfl) ?_
          obtain ⟨g51, hp52⟩ := ite_some hp50
          obtain ⟨b53, p54, hA55, hc56⟩ := ha0.atF g51.1 g51.2
          refine q_indexAddr (c := (cd14 [1, 0, 1, 0, 0, 1, 1, 0, 0, 1, 0])) (i := 10) (d := (some 22)) (ty := 0) (t := 22) (e := 25) (n := a0.length) (cp := ca0) (sz := 49) (kk := .i64) (x := (.tmp 19)) (y := (.tmp 21)) (b := b53) (o' := p54) (j := (IntKind.i64.wrap (t11 - 1))) (by kernel_rfl) (by kernel_rfl) (slv (by kernel_rfl) hA55) (by kernel_rfl) (by kernel_rfl) (by kernel_rfl) g51.1 g51.2 ?_
          refine q_load (c := (cd14 [1, 0, 1, 0, 0, 1, 1, 0, 0, 1, 0])) (i := 11) (d := (some 23)) (ty := 25) (t := 25) (x := (.tmp 22)) (p := ⟨b53, p54 + (IntKind.i64.wrap (t11 - 1)).toNat * 49, none⟩) (v := .agg (enc_api_Final (gt a0 (IntKind.i64.wrap (t11 - 1)))).toArray) (by kernel_rfl) (by kernel_rfl) (by kernel_rfl) (fun w hC => (loads_agg (hc56.cells hC) (by kernel_rfl) (lenK (len_api_Final _) (by kernel_rfl)))) ?_
          refine q_load (c := (cd14 [1, 0, 1, 0, 0, 1, 1, 0, 0, 1, 0])) (i := 12) (d := (some 24)) (ty := 25) (t := 25) (x := (.tmp 4)) (p := ⟨b31, 0, none⟩) (v := .agg (enc_api_Final (gt a0 t11)).toArray) (by kernel_rfl) (by kernel_rfl) (by kernel_rfl) (fun w hC => (loads_agg (hC.blk 0 rfl) (by kernel_rfl) (lenK (len_api_Final _) (by kernel_rfl)))) ?_
          obtain ⟨t57, hr58, hp59⟩ := bind_some' hp52
          refine q_call1 (c := (cd14 [1, 0, 1, 0, 0, 1, 1, 0, 0, 1, 0])) (i := 13) (d := (some 25)) (v := .int .i64 t57) (g := 7) (args := #[.agg (enc_api_Final (gt a0 (IntKind.i64.wrap (t11 - 1)))).toArray, .agg (enc_api_Final (gt a0 t11)).toArray]) (by kernel_rfl) (by kernel_rfl) (by kernel_rfl) (by kernel_rfl) (fun w hC => by
            refine (state_Compare.ok (gt a0 (IntKind.i64.wrap (t11 - 1))) (gt a0 t11) hC hr58).mono ?_
            rintro e w2 ⟨rfl, h2⟩
            exact ⟨rfl, h2⟩) ?_
          refine q_splitr 1 (is' := [15, 16]) (us := []) (d := 26) (t := (decide (t57 ≥ 0))) (by kernel_rfl) (fun h60 => ?_) (fun h61 => ?_)
          · skip
            have hp62 := ite_t hp59 h60
            refine q_run 2 (is' := []) (us := [(27, .bool true), (28, .bool true)]) (by kernel_rfl) ?_
            refine Qs.nil ?_
            intro w63 hS64
            refine sx_run 5 (todo' := [.code (cd14 [1, 0, 1, 0, 0, 1, 1, 0, 0, 1, 1, 0, 1]), .inBlock 1, .code (cd14 [1, 0, 1, 0, 0, 1, 1, 1]), .inLoop (cd14 [1, 0, 1, 0, 0]), .inBlock 0, .code (cd14 [1, 1])]) (us := [(2, .bool false)]) (by kernel_rfl) ?_
            have hS65 := hS64.drop
            refine runs_ret (fn := Try.f14) (v := .bool false) Try.func14 (by kernel_rfl) ?_
            have hr66 := (hq21 _ (Option.some.inj hp62))
            cases hr66
            exact hR _ _ ⟨rfl, hS65⟩
          · skip
            have hp67 := ite_f hp59 h61
            refine q_run 2 (is' := []) (us := [(27, .bool false), (28, .bool false)]) (by kernel_rfl) ?_
            refine Qs.nil ?_
            intro w68 hS69
            refine sx_run 7 (todo' := [.inLoop (cd14 [1, 0, 1, 0, 0]), .inBlock 0, .code (cd14 [1, 1])]) (us := [(29, .int .i64 (IntKind.i64.wrap (t11 + 1))), (7, .int .i64 (IntKind.i64.wrap (t11 + 1)))]) (by kernel_rfl) ?_
            have hS70 := hS69.drop
            refine sx_run 1 (todo' := [.code (cd14 [1, 0, 1, 0, 0]), .inLoop (cd14 [1, 0, 1, 0, 0]), .inBlock 0, .code (cd14 [1, 1])]) (us := []) (by kernel_rfl) ?_
            refine Runs.fill (m := [some (.slice Aa0 a0.length ca0), none, none, none, none, some (.slice Aa0 a0.length ca0), some (.int .i64 (a0.length : Int)), some (.int .i64 (IntKind.i64.wrap (t11 + 1))), none, none, none, none, none, none, none, none, none, none, none, none, none, none, none, none, none, none, none, none, none, none]) (by kernel_rfl) ?_
            exact ih18 (IntKind.i64.wrap (t11 + 1)) _ hp67 he16 _ _ hS70
        · skip
          have hp71 := ite_f hp47 h49
          refine q_run 11 (is' := []) (us := [(18, .bool false), (19, undef), (20, undef), (21, undef), (22, undef), (23, undef), (24, undef), (25, undef), (26, undef), (27, .bool false), (28, .bool false)]) (by kernel_rfl) ?_
          refine Qs.nil ?_
          intro w72 hS73
          refine sx_run 7 (todo' := [.inLoop (cd14 [1, 0, 1, 0, 0]), .inBlock 0, .code (cd14 [1, 1])]) (us := [(29, .int .i64 (IntKind.i64.wrap (t11 + 1))), (7, .int .i64 (IntKind.i64.wrap (t11 + 1)))]) (by kernel_rfl) ?_
          have hS74 := hS73.drop
          refine sx_run 1 (todo' := [.code (cd14 [1, 0, 1, 0, 0]), .inLoop (cd14 [1, 0, 1, 0, 0]), .inBlock 0, .code (cd14 [1, 1])]) (us := []) (by kernel_rfl) ?_
          refine Runs.fill (m := [some (.slice Aa0 a0.length ca0), none, none, none, none, some (.slice Aa0 a0.length ca0), some (.int .i64 (a0.length : Int)), some (.int .i64 (IntKind.i64.wrap (t11 + 1))), none, none, none, none, none, none, none, none, none, none, none, none, none, none, none, none, none, none, none, none, none, none]) (by kernel_rfl) ?_
          exact ih18 (IntKind.i64.wrap (t11 + 1)) _ hp71 he16 _ _ hS74
    · skip
      have hp75 := ite_f hb17 h23
      refine sx_run 4 (todo' := [.code (cd14 [1, 1])]) (us := []) (by kernel_rfl) ?_
      refine Runs.fill (m := [none, none, none, none, none, none, none, none, none, none, none, none, none, none, none, none, none, none, none, none, none, none, none, none, none, none, none, none, none, none]) (by kernel_rfl) ?_
      exact J7 ((Option.some.inj hp75).trans he16) _ _ hS13
  refine Runs.fill (m := [some (.slice Aa0 a0.length ca0), none, none, none, none, some (.slice Aa0 a0.length ca0), some (.int .i64 (a0.length : Int)), some (.int .i64 0), none, none, none, none, none, none, none, none, none, none, none, none, none, none, none, none, none, none, none, none, none, none]) (by kernel_rfl) ?_
  exact L20 0 _ hv2 rfl _ _ hS0

noncomputable def cd11 (p : List Nat) : Code := sub (bodyOf Try.f11) p
def state_Minus_1.f (a0 : Bool) (a1 : Bool) : Option Bool :=
  (if (!a1) = true then some (true) else some (false))
set_option maxHeartbeats 16000000 in
theorem state_Minus_1.ok (a0 : Bool) (a1 : Bool) {w0 : World} {Z : Zm} {fs : List XObj} {w : World} (hS0 : St w0 Z (fs) w) {q0 : Bool} (hp0 : state_Minus_1.f a0 a1 = some q0) :
    Calls Try.prog 11 #[.bool a0, .bool a1] w (fun e w' => e = .returned (.bool q0) ∧ St w0 Z (fs) w') := by
  refine calls_abs ?_; intro R hR
  unfold state_Minus_1.f at hp0
  refine calls_of_runs (fn := Try.f11) (c := cd11 []) Try.func11 (by kernel_rfl) (al := [.bool a0, .bool a1]) rfl (n := 5) rfl ?_
  refine sx_split 8 (todo' := [.inRegion (opsOf (cd11 [1, 0])) [2], .code (cd11 [1, 1])]) (us := [(4, .bool false), (5, .bool a1)]) (d := 6) (t := (!a1)) (by kernel_rfl) (fun h1 => ?_) (fun h2 => ?_)
  · skip
    have hp3 := ite_t hp0 h1
    refine sx_run 2 (todo' := [.code (cd11 [1, 1])]) (us := [(4, .bool true)]) (by kernel_rfl) ?_
    refine runs_ret (fn := Try.f11) (v := .bool true) Try.func11 (by kernel_rfl) ?_
    have hr4 := (Option.some.inj hp3)
    cases hr4
    exact hR _ _ ⟨rfl, hS0⟩
  · skip
    have hp5 := ite_f hp0 h2
    refine sx_run 2 (todo' := [.code (cd11 [1, 1])]) (us := [(4, .bool false)]) (by kernel_rfl) ?_
    refine runs_ret (fn := Try.f11) (v := .bool false) Try.func11 (by kernel_rfl) ?_
    have hr6 := (Option.some.inj hp5)
    cases hr6
    exact hR _ _ ⟨rfl, hS0⟩

noncomputable def cd10 (p : List Nat) : Code := sub (bodyOf Try.f10) p
def state_walk.l0 (t38 : List api_Final) (t43 : List api_Final) (t48 : List api_Final) : Option (List api_Final) :=
  (((if (decide ((t38.length : Int) > 0)) = true then some (.inl ()) else (if (decide ((t43.length : Int) > 0)) = true then some (.inl ()) else some (.inr (t48)))) : Option (Sum Unit (List api_Final))) >>= (fun | .inl () => (((if ((t38.length : Int) == 0) = true then some (1) else (if (decide ((t43.length : Int) > 0)) = true then (if 0 ≤ (0 : Int) ∧ (0 : Int) < (t38.length : Int) then (if 0 ≤ (0 : Int) ∧ (0 : Int) < (t43.length : Int) then (state_Compare.f (gt t38 (0 : Int)) (gt t43 (0 : Int)) >>= (fun t284 => some (t284))) else none) else none) else some ((-1)))) : Option Int) >>= (fun t73 => (((if (decide (t73 ≤ 0)) = true then (if 0 ≤ (0 : Int) ∧ (0 : Int) < (t38.length : Int) then (if 0 ≤ (1 : Int) ∧ (1 : Int) ≤ (t38.length : Int) then some ((((t38.take t38.length).drop ((1 : Int).toNat)), (gt t38 (0 : Int)))) else none) else none) else some ((t38, (⟨0, (Vector.replicate 48 0)⟩ : api_Final)))) : Option ((List api_Final) × api_Final)) >>= (fun (t86, t91) => (((if (decide (t73 ≥ 0)) = true then (if 0 ≤ (0 : Int) ∧ (0 : Int) < (t43.length : Int) then (if 0 ≤ (1 : Int) ∧ (1 : Int) ≤ (t43.length : Int) then some ((((t43.take t43.length).drop ((1 : Int).toNat)), (gt t43 (0 : Int)))) else none) else none) else some ((t43, t91))) : Option ((List api_Final) × api_Final)) >>= (fun (t100, t105) => (if (decide (t73 ≤ 0)) = true then (if (decide (t73 ≥ 0)) = true then (state_Minus_1.f true true >>= (fun t117 => (if t117 = true then (if (t48.length + ([t105] : List api_Final).length) * 392 ≤ 140737488355328 then (state_walk.l0 t86 t100 (t48 ++ ([t105] : List api_Final))) else none) else (state_walk.l0 t86 t100 t48)))) else (state_Minus_1.f true false >>= (fun t143 => (if t143 = true then (if (t48.length + ([t105] : List api_Final).length) * 392 ≤ 140737488355328 then (state_walk.l0 t86 t100 (t48 ++ ([t105] : List api_Final))) else none) else (state_walk.l0 t86 t100 t48))))) else (if (decide (t73 ≥ 0)) = true then (state_Minus_1.f false true >>= (fun t172 => (if t172 = true then (if (t48.length + ([t105] : List api_Final).length) * 392 ≤ 140737488355328 then (state_walk.l0 t86 t100 (t48 ++ ([t105] : List api_Final))) else none) else (state_walk.l0 t86 t100 t48)))) else (state_Minus_1.f false false >>= (fun t198 => (if t198 = true then (if (t48.length + ([t105] : List api_Final).length) * 392 ≤ 140737488355328 then (state_walk.l0 t86 t100 (t48 ++ ([t105] : List api_Final))) else none) else (state_walk.l0 t86 t100 t48)))))))))))) | .inr e => some e))
 partial_fixpoint
def state_walk.f (a0 : List api_Final) (a1 : List api_Final) : Option ((List api_Final) × Int) :=
  (state_Rises.f a0 >>= (fun t1 => (if (!t1) = true then some (([], 100)) else (state_Rises.f a1 >>= (fun t13 => (if (!t13) = true then some (([], 100)) else (state_walk.l0 a0 a1 [] >>= (fun t28 => some ((t28, 0))))))))))
set_option maxHeartbeats 16000000 in
theorem state_walk.ok (a0 : List api_Final) (a1 : List api_Final) (Aa0 : Option Addr) (ca0 : Nat) (Aa1 : Option Addr) (ca1 : Nat) {w0 : World} {Z : Zm} {fs : List XObj} {w : World} (hS0 : St w0 Z (fs) w) (ha0 : SlZ (flat enc_api_Final) 49 Z Aa0 ca0 a0) (ha1 : SlZ (flat enc_api_Final) 49 Z Aa1 ca1 a1) {q0 : List api_Final} {q1 : Int} (hp0 : state_walk.f a0 a1 = some (q0, q1)) :
    Calls Try.prog 10 #[.slice Aa0 a0.length ca0, .slice Aa1 a1.length ca1, .func (.func 11) #[] #[]] w (fun e w' => ∃ (QA0 : Option Addr) (Qc0 : Nat), e = .returned (.tuple #[.slice QA0 q0.length Qc0, .int .i64 q1]) ∧ St w0 Z (xrow QA0 Qc0 25 49 (q0.flatMap enc_api_Final) :: fs) w') := by
  refine calls_abs ?_; intro R hR
  unfold state_walk.f at hp0
  refine calls_of_runs (fn := Try.f10) (c := cd10 []) Try.func10 (by kernel_rfl) (al := [.slice Aa0 a0.length ca0, .slice Aa1 a1.length ca1, .func (.func 11) #[] #[]]) rfl (n := 64) rfl ?_
  refine sx_run 9 (todo' := [.inRegion (opsOf (cd10 [1, 0, 0])) [1, 2, 3, 4, 5, 6, 7], .code (cd10 [1, 0, 1]), .code (cd10 [1, 1])]) (us := [(6, .slice none 0 0), (7, .int .i64 0), (11, .slice Aa0 a0.length ca0)]) (by kernel_rfl) ?_
  obtain ⟨t1, hr2, hp3⟩ := bind_some' hp0
  refine r_call1 (c := (cd10 [1, 0, 0])) (i := 1) (d := (some 12)) (g := 14) (args := #[.slice Aa0 a0.length ca0]) (by kernel_rfl) (by kernel_rfl) (by kernel_rfl) (by kernel_rfl) (state_Rises.ok a0 Aa0 ca0 hS0 ha0 hr2) ?_
  rintro _ w4 ⟨rfl, hS5⟩
  refine ⟨.bool t1, rfl, ?_⟩
  refine sx_split 1 (todo' := [.inRegion (opsOf (cd10 [1, 0, 0])) [3, 4, 5, 6, 7], .code (cd10 [1, 0, 1]), .code (cd10 [1, 1])]) (us := []) (d := 13) (t := (!t1)) (by kernel_rfl) (fun h6 => ?_) (fun h7 => ?_)
  · skip
    have hp8 := ite_t hp3 h6
    refine sx_run 12 (todo' := [.code (cd10 [1, 0, 1, 0, 1]), .code (cd10 [1, 1])]) (us := [(14, .bool true), (15, undef), (16, undef), (17, undef), (18, .bool true), (6, .slice none 0 0), (7, .int .i64 100)]) (by kernel_rfl) ?_
    have hS10 := hS5.nilrow none 25 49
    refine runs_ret (fn := Try.f10) (v := .tuple #[.slice none 0 0, .int .i64 100]) Try.func10 (by kernel_rfl) ?_
    have hr11 := (Option.some.inj hp8)
    cases hr11
    exact hR _ _ ⟨none, 0, rfl, hS10⟩
  · skip
    have hp12 := ite_f hp3 h7
    refine sx_run 2 (todo' := [.inRegion (opsOf (cd10 [1, 0, 0])) [5, 6, 7], .code (cd10 [1, 0, 1]), .code (cd10 [1, 1])]) (us := [(14, .bool false), (15, .slice Aa1 a1.length ca1)]) (by kernel_rfl) ?_
    obtain ⟨t13, hr14, hp15⟩ := bind_some' hp12
    refine r_call1 (c := (cd10 [1, 0, 0])) (i := 5) (d := (some 16)) (g := 14) (args := #[.slice Aa1 a1.length ca1]) (by kernel_rfl) (by kernel_rfl) (by kernel_rfl) (by kernel_rfl) (state_Rises.ok a1 Aa1 ca1 hS5 ha1 hr14) ?_
    rintro _ w16 ⟨rfl, hS17⟩
    refine ⟨.bool t13, rfl, ?_⟩
    refine sx_split 1 (todo' := [.inRegion (opsOf (cd10 [1, 0, 0])) [7], .code (cd10 [1, 0, 1]), .code (cd10 [1, 1])]) (us := []) (d := 17) (t := (!t13)) (by kernel_rfl) (fun h18 => ?_) (fun h19 => ?_)
    · skip
      have hp20 := ite_t hp15 h18
      refine sx_run 8 (todo' := [.code (cd10 [1, 0, 1, 0, 1]), .code (cd10 [1, 1])]) (us := [(18, .bool true), (6, .slice none 0 0), (7, .int .i64 100)]) (by kernel_rfl) ?_
      have hS22 := hS17.nilrow none 25 49
      refine runs_ret (fn := Try.f10) (v := .tuple #[.slice none 0 0, .int .i64 100]) Try.func10 (by kernel_rfl) ?_
      have hr23 := (Option.some.inj hp20)
      cases hr23
      exact hR _ _ ⟨none, 0, rfl, hS22⟩
    · skip
      have hp24 := ite_f hp15 h19
      refine sx_run 11 (todo' := [.code (cd10 [1, 1, 1, 0, 0, 0]), .inLoop (cd10 [1, 1, 1, 0, 0, 0]), .inBlock 0, .code (cd10 [1, 1, 1, 1])]) (us := [(18, .bool false), (8, .slice none 0 0)]) (by kernel_rfl) ?_
      obtain ⟨v25, hv26, hp27⟩ := bind_some' hp24
      have J34 : ∀ (t28 : List api_Final) (he36 : t28 = v25) (l35 : List Value) (A29 : Option Addr) (c30 : Nat) (w32 : World) (hS33 : St w0 Z (xrow A29 c30 25 49 (t28.flatMap enc_api_Final) :: fs) w32), Runs Try.prog 10 [.code (cd10 [1, 1, 1, 1])] (fill [none, none, none, none, none, none, none, none, some (.slice A29 t28.length c30), none, none, none, none, none, none, none, none, none, none, none, none, none, none, none, none, none, none, none, none, none, none, none, none, none, none, none, none, none, none, none, none, none, none, none, none, none, none, none, none, none, none, none, none, none, none, none, none, none, none, none, none, none, none, none, none, none, none] l35) w32 R := by
        intro t28 he36 l35 A29 c30 w32 hS33
        subst he36
        try dsimp only at hp27
        refine sx_run 6 (todo' := [.code (cd10 [1, 1, 1, 1, 1])]) (us := [(66, .slice A29 t28.length c30), (6, .slice A29 t28.length c30), (7, .int .i64 0)]) (by kernel_rfl) ?_
        refine runs_ret (fn := Try.f10) (v := .tuple #[.slice A29 t28.length c30, .int .i64 0]) Try.func10 (by kernel_rfl) ?_
        have hr37 := (Option.some.inj hp27)
        cases hr37
        exact hR _ _ ⟨A29, c30, rfl, hS33⟩
      have L60 : ∀ (t38 : List api_Final) (t43 : List api_Final) (t48 : List api_Final) (e55 : (List api_Final)), state_walk.l0 t38 t43 t48 = some e55 → e55 = v25 → ∀ (l54 : List Value) (A39 : Option Addr) (c40 : Nat) (A44 : Option Addr) (c45 : Nat) (A49 : Option Addr) (c50 : Nat) (w52 : World) (hS53 : St w0 Z (xrow A49 c50 25 49 (t48.flatMap enc_api_Final) :: fs) w52) (hs42 : SlZ (flat enc_api_Final) 49 Z A39 c40 t38) (hs47 : SlZ (flat enc_api_Final) 49 Z A44 c45 t43), Runs Try.prog 10 [.code (cd10 [1, 1, 1, 0, 0, 0]), .inLoop (cd10 [1, 1, 1, 0, 0, 0]), .inBlock 0, .code (cd10 [1, 1, 1, 1])] (fill [some (.slice A39 t38.length c40), some (.slice A44 t43.length c45), some (.func (.func 11) #[] #[]), none, none, none, none, none, some (.slice A49 t48.length c50), none, none, none, none, none, none, none, none, none, none, none, none, none, none, none, none, none, none, none, none, none, none, none, none, none, none, none, none, none, none, none, none, none, none, none, none, none, none, none, none, none, none, none, none, none, none, none, none, none, none, none, none, none, none, none, none, none, none] l54) w52 R := by
        refine state_walk.l0.partial_correctness (fun t38 t43 t48 e55 => e55 = v25 → ∀ (l54 : List Value) (A39 : Option Addr) (c40 : Nat) (A44 : Option Addr) (c45 : Nat) (A49 : Option Addr) (c50 : Nat) (w52 : World) (hS53 : St w0 Z (xrow A49 c50 25 49 (t48.flatMap enc_api_Final) :: fs) w52) (hs42 : SlZ (flat enc_api_Final) 49 Z A39 c40 t38) (hs47 : SlZ (flat enc_api_Final) 49 Z A44 c45 t43), Runs Try.prog 10 [.code (cd10 [1, 1, 1, 0, 0, 0]), .inLoop (cd10 [1, 1, 1, 0, 0, 0]), .inBlock 0, .code (cd10 [1, 1, 1, 1])] (fill [some (.slice A39 t38.length c40), some (.slice A44 t43.length c45), some (.func (.func 11) #[] #[]), none, none, none, none, none, some (.slice A49 t48.length c50), none, none, none, none, none, none, none, none, none, none, none, none, none, none, none, none, none, none, none, none, none, none, none, none, none, none, none, none, none, none, none, none, none, none, none, none, none, none, none, none, none, none, none, none, none, none, none, none, none, none, none, none, none, none, none, none, none, none] l54) w52 R) ?_
        intro rec59 ih58 t38 t43 t48 e55 hb57 he56 l54 A39 c40 A44 c45 A49 c50 w52 hS53 hs42 hs47
        obtain ⟨v61, hv62, hp63⟩ := bind_some' hb57
        have hq66 : ∀ x, Sum.inr x = v61 → x = e55 := by intro x hx; subst hx; simpa using hp63
        have J67 : ∀ (he69 : Sum.inl () = v61) (l68 : List Value) (w64 : World) (hS65 : St w0 Z (xrow A49 c50 25 49 (t48.flatMap enc_api_Final) :: fs) w64), Runs Try.prog 10 [.code (cd10 [1, 1, 1, 0, 0, 0, 1]), .inLoop (cd10 [1, 1, 1, 0, 0, 0]), .inBlock 0, .code (cd10 [1, 1, 1, 1])] (fill [some (.slice A39 t38.length c40), some (.slice A44 t43.length c45), some (.func (.func 11) #[] #[]), none, none, none, none, none, some (.slice A49 t48.length c50), none, none, none, none, none, none, none, none, none, none, none, none, none, none, none, none, none, none, none, none, none, none, none, none, none, none, none, none, none, none, none, none, none, none, none, none, none, none, none, none, none, none, none, none, none, none, none, none, none, none, none, none, none, none, none, none, none, none] l68) w64 R := by
          intro he69 l68 w64 hS65
          subst he69
          try dsimp only at hp63
          obtain ⟨v70, hv71, hp72⟩ := bind_some' hp63
          have J76 : ∀ (t73 : Int) (he78 : t73 = v70) (l77 : List Value) (w74 : World) (hS75 : St w0 Z (xrow A49 c50 25 49 (t48.flatMap enc_api_Final) :: fs) w74), Runs Try.prog 10 [.code (cd10 [1, 1, 1, 0, 0, 0, 1, 0, 1, 1]), .inBlock 1, .inLoop (cd10 [1, 1, 1, 0, 0, 0]), .inBlock 0, .code (cd10 [1, 1, 1, 1])] (fill [some (.slice A39 t38.length c40), some (.slice A44 t43.length c45), some (.func (.func 11) #[] #[]), none, none, none, none, none, some (.slice A49 t48.length c50), some (.int .i64 t73), none, none, none, none, none, none, none, none, none, none, none, none, none, none, none, none, none, none, none, none, none, none, none, none, none, none, none, none, none, none, none, none, none, none, none, none, none, none, none, none, none, none, none, none, none, none, none, none, none, none, none, none, none, none, none, none, none] l77) w74 R := by
            intro t73 he78 l77 w74 hS75
            subst he78
            try dsimp only at hp72
            refine sx_run 2 (todo' := [.inRegion (opsOf (cd10 [1, 1, 1, 0, 0, 0, 1, 0, 1, 1, 0])) [0], .code (cd10 [1, 1, 1, 0, 0, 0, 1, 0, 1, 1, 1]), .inBlock 1, .inLoop (cd10 [1, 1, 1, 0, 0, 0]), .inBlock 0, .code (cd10 [1, 1, 1, 1])]) (us := []) (by kernel_rfl) ?_
            refine r_alloc (c := (cd10 [1, 1, 1, 0, 0, 0, 1, 0, 1, 1, 0])) (i := 0) (d := (some 10)) (ty := 0) (z := .agg (enc_api_Final (⟨0, (Vector.replicate 48 0)⟩ : api_Final)).toArray) (t := 25) (cs := enc_api_Final (⟨0, (Vector.replicate 48 0)⟩ : api_Final)) hS75 (by kernel_rfl) (by kernel_rfl) (by kernel_rfl) (by kernel_rfl) ?_
            intro b79 w80 hS81
            obtain ⟨v83, hv84, hp85⟩ := bind_some' hp72
            have J94 : ∀ (t86 : List api_Final) (t91 : api_Final) (he96 : (t86, t91) = v83) (l95 : List Value) (A87 : Option Addr) (c88 : Nat) (w92 : World) (hS93 : St w0 Z (xrow A49 c50 25 49 (t48.flatMap enc_api_Final) :: xblk b79 25 (enc_api_Final t91) :: fs) w92) (hs90 : SlZ (flat enc_api_Final) 49 Z A87 c88 t86), Runs Try.prog 10 [.code (cd10 [1, 1, 1, 0, 0, 0, 1, 0, 1, 1, 1, 1]), .inBlock 1, .inLoop (cd10 [1, 1, 1, 0, 0, 0]), .inBlock 0, .code (cd10 [1, 1, 1, 1])] (fill [some (.slice A87 t86.length c88), some (.slice A44 t43.length c45), some (.func (.func 11) #[] #[]), none, none, none, none, none, some (.slice A49 t48.length c50), some (.int .i64 t73), some (.pointer (some ⟨b79, 0, none⟩)), none, none, none, none, none, none, none, none, none, none, none, none, none, none, none, none, none, none, none, none, none, none, none, none, none, none, none, none, none, none, none, none, none, none, none, none, none, none, none, none, none, none, none, none, none, none, none, none, none, none, none, none, none, none, none, none] l95) w92 R := by
              intro t86 t91 he96 l95 A87 c88 w92 hS93 hs90
              subst he96
              try dsimp only at hp85
              obtain ⟨v97, hv98, hp99⟩ := bind_some' hp85
              have J108 : ∀ (t100 : List api_Final) (t105 : api_Final) (he110 : (t100, t105) = v97) (l109 : List Value) (A101 : Option Addr) (c102 : Nat) (w106 : World) (hS107 : St w0 Z (xrow A49 c50 25 49 (t48.flatMap enc_api_Final) :: xblk b79 25 (enc_api_Final t105) :: fs) w106) (hs104 : SlZ (flat enc_api_Final) 49 Z A101 c102 t100), Runs Try.prog 10 [.code (cd10 [1, 1, 1, 0, 0, 0, 1, 0, 1, 1, 1, 1, 1]), .inBlock 1, .inLoop (cd10 [1, 1, 1, 0, 0, 0]), .inBlock 0, .code (cd10 [1, 1, 1, 1])] (fill [some (.slice A87 t86.length c88), some (.slice A101 t100.length c102), some (.func (.func 11) #[] #[]), none, none, none, none, none, some (.slice A49 t48.length c50), some (.int .i64 t73), some (.pointer (some ⟨b79, 0, none⟩)), none, none, none, none, none, none, none, none, none, none, none, none, none, none, none, none, none, none, none, none, none, none, none, none, none, none, none, none, none, none, none, none, none, none, none, none, none, none, none, none, none, none, none, none, none, none, none, none, none, none, none, none, none, none, none, none] l109) w106 R := by
                intro t100 t105 he110 l109 A101 c102 w106 hS107 hs104
                subst he110
                try dsimp only at hp99
                refine sx_split 5 (todo' := [.inRegion (opsOf (cd10 [1, 1, 1, 0, 0, 0, 1, 0, 1, 1, 1, 1, 1, 0])) [3, 4, 5], .code (cd10 [1, 1, 1, 0, 0, 0, 1, 0, 1, 1, 1, 1, 1, 1]), .inBlock 1, .inLoop (cd10 [1, 1, 1, 0, 0, 0]), .inBlock 0, .code (cd10 [1, 1, 1, 1])]) (us := [(56, .func (.func 11) #[] #[]), (57, .int .i64 t73)]) (d := 58) (t := (decide (t73 ≤ 0))) (by kernel_rfl) (fun h111 => ?_) (fun h112 => ?_)
                · skip
                  have hp113 := ite_t hp99 h111
                  refine sx_split 2 (todo' := [.inRegion (opsOf (cd10 [1, 1, 1, 0, 0, 0, 1, 0, 1, 1, 1, 1, 1, 0])) [5], .code (cd10 [1, 1, 1, 0, 0, 0, 1, 0, 1, 1, 1, 1, 1, 1]), .inBlock 1, .inLoop (cd10 [1, 1, 1, 0, 0, 0]), .inBlock 0, .code (cd10 [1, 1, 1, 1])]) (us := [(59, .int .i64 t73)]) (d := 60) (t := (decide (t73 ≥ 0))) (by kernel_rfl) (fun h114 => ?_) (fun h115 => ?_)
                  · skip
                    have hp116 := ite_t hp113 h114
                    obtain ⟨t117, hr118, hp119⟩ := bind_some' hp116
                    refine r_call1 (c := (cd10 [1, 1, 1, 0, 0, 0, 1, 0, 1, 1, 1, 1, 1, 0])) (i := 5) (d := (some 61)) (g := 11) (args := #[.bool true, .bool true]) (by kernel_rfl) (by kernel_rfl) (by kernel_rfl) (by kernel_rfl) (state_Minus_1.ok true true hS107 hr118) ?_
                    rintro _ w120 ⟨rfl, hS121⟩
                    refine ⟨.bool t117, rfl, ?_⟩
                    refine sx_run 1 (todo' := [.code (cd10 [1, 1, 1, 0, 0, 0, 1, 0, 1, 1, 1, 1, 1, 1]), .inBlock 1, .inLoop (cd10 [1, 1, 1, 0, 0, 0]), .inBlock 0, .code (cd10 [1, 1, 1, 1])]) (us := []) (by kernel_rfl) ?_
                    cases t117
                    · skip
                      have hp122 := ite_f hp119 rfl
                      refine sx_run 3 (todo' := [.inLoop (cd10 [1, 1, 1, 0, 0, 0]), .inBlock 0, .code (cd10 [1, 1, 1, 1])]) (us := []) (by kernel_rfl) ?_
                      have hS123 := hS121.pick1
                      have hS124 := hS123.drop
                      refine sx_run 1 (todo' := [.code (cd10 [1, 1, 1, 0, 0, 0]), .inLoop (cd10 [1, 1, 1, 0, 0, 0]), .inBlock 0, .code (cd10 [1, 1, 1, 1])]) (us := []) (by kernel_rfl) ?_
                      refine Runs.fill (m := [some (.slice A87 t86.length c88), some (.slice A101 t100.length c102), some (.func (.func 11) #[] #[]), none, none, none, none, none, some (.slice A49 t48.length c50), none, none, none, none, none, none, none, none, none, none, none, none, none, none, none, none, none, none, none, none, none, none, none, none, none, none, none, none, none, none, none, none, none, none, none, none, none, none, none, none, none, none, none, none, none, none, none, none, none, none, none, none, none, none, none, none, none, none]) (by kernel_rfl) ?_
                      exact ih58 t86 t100 t48 _ hp122 he56 _ A87 c88 A101 c102 A49 c50 _ hS124 hs90 hs104
                    · skip
                      have hp125 := ite_t hp119 rfl
                      refine sx_run 3 (todo' := [.inRegion (opsOf (cd10 [1, 1, 1, 0, 0, 0, 1, 0, 1, 1, 1, 1, 1, 1, 0])) [1, 2, 3, 4], .inBlock 1, .inLoop (cd10 [1, 1, 1, 0, 0, 0]), .inBlock 0, .code (cd10 [1, 1, 1, 1])]) (us := [(62, .slice A49 t48.length c50)]) (by kernel_rfl) ?_
                      refine r_load (c := (cd10 [1, 1, 1, 0, 0, 0, 1, 0, 1, 1, 1, 1, 1, 1, 0])) (i := 1) (d := (some 63)) (ty := 25) (t := 25) (x := (.tmp 10)) (p := ⟨b79, 0, none⟩) (v := .agg (enc_api_Final t105).toArray) (by kernel_rfl) (by kernel_rfl) (by kernel_rfl) (loads_agg (hS121.blk 1 rfl) (by kernel_rfl) (lenK (len_api_Final _) (by kernel_rfl))) ?_
                      refine r_lit (c := (cd10 [1, 1, 1, 0, 0, 0, 1, 0, 1, 1, 1, 1, 1, 1, 0])) (i := 2) (d := (some 64)) (ty := 22) (t := 22) (e := 25) (sz := 49) (n := 1) (parts := #[(0, (.tmp 63))]) (vs := [(0, .agg (enc_api_Final t105).toArray)]) (z := zeroOf Try.prog 25) (cs' := ([t105] : List api_Final).flatMap enc_api_Final) hS121 (by kernel_rfl) (by kernel_rfl) (by kernel_rfl) (by kernel_rfl) (by kernel_rfl) (by decide) (by decide) (by kernel_rfl) rfl (Parts.cons (c := enc_api_Final t105) (by kernel_rfl) (len_api_Final _) Parts.nil) rfl ?_
                      intro b127 w128 hS129
                      have hS130 := hS129.pick1
                      obtain ⟨g131, hp132⟩ := ite_some hp125
                      refine r_append (c := (cd10 [1, 1, 1, 0, 0, 0, 1, 0, 1, 1, 1, 1, 1, 1, 0])) (i := 3) (d := (some 65)) (ty := 22) (enc := enc_api_Final) (e := 25) (u := 25) (t := 22) (t2 := 22) (sz := 49) (cp := c50) (A := A49) (bytes := 392) (xs := t48) (ys := ([t105] : List api_Final)) (s := (.tmp 62)) (x := (.tmp 64)) (xv := .slice (some ⟨b127, 0, none⟩) ([t105] : List api_Final).length 1) (info := infoOf Try.prog 25) (z := zeroOf Try.prog 25) (ycs := ([t105] : List api_Final).flatMap enc_api_Final) hS130 (by kernel_rfl) (by kernel_rfl) (by kernel_rfl) (by kernel_rfl) (by kernel_rfl) (.inl (by kernel_rfl)) (by kernel_rfl) (by kernel_rfl) (by kernel_rfl) (by kernel_rfl) (by kernel_rfl) (by omega) len_api_Final one_api_Final (src_row (hS130.row 1 rfl) (by omega) len_api_Final) rfl g131 (by omega) ?_
                      intro A133 c134 w135 hS136
                      refine sx_run 3 (todo' := [.inLoop (cd10 [1, 1, 1, 0, 0, 0]), .inBlock 0, .code (cd10 [1, 1, 1, 1])]) (us := [(8, .slice A133 (t48 ++ ([t105] : List api_Final)).length c134)]) (by kernel_rfl) ?_
                      have hS138 := hS136.pick1
                      have hS139 := hS138.drop
                      have hS140 := hS139.pick1
                      have hS141 := hS140.drop
                      refine sx_run 1 (todo' := [.code (cd10 [1, 1, 1, 0, 0, 0]), .inLoop (cd10 [1, 1, 1, 0, 0, 0]), .inBlock 0, .code (cd10 [1, 1, 1, 1])]) (us := []) (by kernel_rfl) ?_
                      refine Runs.fill (m := [some (.slice A87 t86.length c88), some (.slice A101 t100.length c102), some (.func (.func 11) #[] #[]), none, none, none, none, none, some (.slice A133 (t48 ++ ([t105] : List api_Final)).length c134), none, none, none, none, none, none, none, none, none, none, none, none, none, none, none, none, none, none, none, none, none, none, none, none, none, none, none, none, none, none, none, none, none, none, none, none, none, none, none, none, none, none, none, none, none, none, none, none, none, none, none, none, none, none, none, none, none, none]) (by kernel_rfl) ?_
                      exact ih58 t86 t100 (t48 ++ ([t105] : List api_Final)) _ hp132 he56 _ A87 c88 A101 c102 A133 c134 _ hS141 hs90 hs104
                  · skip
                    have hp142 := ite_f hp113 h115
                    obtain ⟨t143, hr144, hp145⟩ := bind_some' hp142
                    refine r_call1 (c := (cd10 [1, 1, 1, 0, 0, 0, 1, 0, 1, 1, 1, 1, 1, 0])) (i := 5) (d := (some 61)) (g := 11) (args := #[.bool true, .bool false]) (by kernel_rfl) (by kernel_rfl) (by kernel_rfl) (by kernel_rfl) (state_Minus_1.ok true false hS107 hr144) ?_
                    rintro _ w146 ⟨rfl, hS147⟩
                    refine ⟨.bool t143, rfl, ?_⟩
                    refine sx_run 1 (todo' := [.code (cd10 [1, 1, 1, 0, 0, 0, 1, 0, 1, 1, 1, 1, 1, 1]), .inBlock 1, .inLoop (cd10 [1, 1, 1, 0, 0, 0]), .inBlock 0, .code (cd10 [1, 1, 1, 1])]) (us := []) (by kernel_rfl) ?_
                    cases t143
                    · skip
                      have hp148 := ite_f hp145 rfl
                      refine sx_run 3 (todo' := [.inLoop (cd10 [1, 1, 1, 0, 0, 0]), .inBlock 0, .code (cd10 [1, 1, 1, 1])]) (us := []) (by kernel_rfl) ?_
                      have hS149 := hS147.pick1
                      have hS150 := hS149.drop
                      refine sx_run 1 (todo' := [.code (cd10 [1, 1, 1, 0, 0, 0]), .inLoop (cd10 [1, 1, 1, 0, 0, 0]), .inBlock 0, .code (cd10 [1, 1, 1, 1])]) (us := []) (by kernel_rfl) ?_
                      refine Runs.fill (m := [some (.slice A87 t86.length c88), some (.slice A101 t100.length c102), some (.func (.func 11) #[] #[]), none, none, none, none, none, some (.slice A49 t48.length c50), none, none, none, none, none, none, none, none, none, none, none, none, none, none, none, none, none, none, none, none, none, none, none, none, none, none, none, none, none, none, none, none, none, none, none, none, none, none, none, none, none, none, none, none, none, none, none, none, none, none, none, none, none, none, none, none, none, none]) (by kernel_rfl) ?_
                      exact ih58 t86 t100 t48 _ hp148 he56 _ A87 c88 A101 c102 A49 c50 _ hS150 hs90 hs104
                    · skip
                      have hp151 := ite_t hp145 rfl
                      refine sx_run 3 (todo' := [.inRegion (opsOf (cd10 [1, 1, 1, 0, 0, 0, 1, 0, 1, 1, 1, 1, 1, 1, 0])) [1, 2, 3, 4], .inBlock 1, .inLoop (cd10 [1, 1, 1, 0, 0, 0]), .inBlock 0, .code (cd10 [1, 1, 1, 1])]) (us := [(62, .slice A49 t48.length c50)]) (by kernel_rfl) ?_
                      refine r_load (c := (cd10 [1, 1, 1, 0, 0, 0, 1, 0, 1, 1, 1, 1, 1, 1, 0])) (i := 1) (d := (some 63)) (ty := 25) (t := 25) (x := (.tmp 10)) (p := ⟨b79, 0, none⟩) (v := .agg (enc_api_Final t105).toArray) (by kernel_rfl) (by kernel_rfl) (by kernel_rfl) (loads_agg (hS147.blk 1 rfl) (by kernel_rfl) (lenK (len_api_Final _) (by kernel_rfl))) ?_
                      refine r_lit (c := (cd10 [1, 1, 1, 0, 0, 0, 1, 0, 1, 1, 1, 1, 1, 1, 0])) (i := 2) (d := (some 64)) (ty := 22) (t := 22) (e := 25) (sz := 49) (n := 1) (parts := #[(0, (.tmp 63))]) (vs := [(0, .agg (enc_api_Final t105).toArray)]) (z := zeroOf Try.prog 25) (cs' := ([t105] : List api_Final).flatMap enc_api_Final) hS147 (by kernel_rfl) (by kernel_rfl) (by kernel_rfl) (by kernel_rfl) (by kernel_rfl) (by decide) (by decide) (by kernel_rfl) rfl (Parts.cons (c := enc_api_Final t105) (by kernel_rfl) (len_api_Final _) Parts.nil) rfl ?_
                      intro b153 w154 hS155
                      have hS156 := hS155.pick1
                      obtain ⟨g157, hp158⟩ := ite_some hp151
                      refine r_append (c := (cd10 [1, 1, 1, 0, 0, 0, 1, 0, 1, 1, 1, 1, 1, 1, 0])) (i := 3) (d := (some 65)) (ty := 22) (enc := enc_api_Final) (e := 25) (u := 25) (t := 22) (t2 := 22) (sz := 49) (cp := c50) (A := A49) (bytes := 392) (xs := t48) (ys := ([t105] : List api_Final)) (s := (.tmp 62)) (x := (.tmp 64)) (xv := .slice (some ⟨b153, 0, none⟩) ([t105] : List api_Final).length 1) (info := infoOf Try.prog 25) (z := zeroOf Try.prog 25) (ycs := ([t105] : List api_Final).flatMap enc_api_Final) hS156 (by kernel_rfl) (by kernel_rfl) (by kernel_rfl) (by kernel_rfl) (by kernel_rfl) (.inl (by kernel_rfl)) (by kernel_rfl) (by kernel_rfl) (by kernel_rfl) (by kernel_rfl) (by kernel_rfl) (by omega) len_api_Final one_api_Final (src_row (hS156.row 1 rfl) (by omega) len_api_Final) rfl g157 (by omega) ?_
                      intro A159 c160 w161 hS162
                      refine sx_run 3 (todo' := [.inLoop (cd10 [1, 1, 1, 0, 0, 0]), .inBlock 0, .code (cd10 [1, 1, 1, 1])]) (us := [(8, .slice A159 (t48 ++ ([t105] : List api_Final)).length c160)]) (by kernel_rfl) ?_
                      have hS164 := hS162.pick1
                      have hS165 := hS164.drop
                      have hS166 := hS165.pick1
                      have hS167 := hS166.drop
                      refine sx_run 1 (todo' := [.code (cd10 [1, 1, 1, 0, 0, 0]), .inLoop (cd10 [1, 1, 1, 0, 0, 0]), .inBlock 0, .code (cd10 [1, 1, 1, 1])]) (us := []) (by kernel_rfl) ?_
                      refine Runs.fill (m := [some (.slice A87 t86.length c88), some (.slice A101 t100.length c102), some (.func (.func 11) #[] #[]), none, none, none, none, none, some (.slice A159 (t48 ++ ([t105] : List api_Final)).length c160), none, none, none, none, none, none, none, none, none, none, none, none, none, none, none, none, none, none, none, none, none, none, none, none, none, none, none, none, none, none, none, none, none, none, none, none, none, none, none, none, none, none, none, none, none, none, none, none, none, none, none, none, none, none, none, none, none, none]) (by kernel_rfl) ?_
                      exact ih58 t86 t100 (t48 ++ ([t105] : List api_Final)) _ hp158 he56 _ A87 c88 A101 c102 A159 c160 _ hS167 hs90 hs104
                · skip
                  have hp168 := ite_f hp99 h112
                  refine sx_split 2 (todo' := [.inRegion (opsOf (cd10 [1, 1, 1, 0, 0, 0, 1, 0, 1, 1, 1, 1, 1, 0])) [5], .code (cd10 [1, 1, 1, 0, 0, 0, 1, 0, 1, 1, 1, 1, 1, 1]), .inBlock 1, .inLoop (cd10 [1, 1, 1, 0, 0, 0]), .inBlock 0, .code (cd10 [1, 1, 1, 1])]) (us := [(59, .int .i64 t73)]) (d := 60) (t := (decide (t73 ≥ 0))) (by kernel_rfl) (fun h169 => ?_) (fun h170 => ?_)
                  · skip
                    have hp171 := ite_t hp168 h169
                    obtain ⟨t172, hr173, hp174⟩ := bind_some' hp171
                    refine r_call1 (c := (cd10 [1, 1, 1, 0, 0, 0, 1, 0, 1, 1, 1, 1, 1, 0])) (i := 5) (d := (some 61)) (g := 11) (args := #[.bool false, .bool true]) (by kernel_rfl) (by kernel_rfl) (by kernel_rfl) (by kernel_rfl) (state_Minus_1.ok false true hS107 hr173) ?_
                    rintro _ w175 ⟨rfl, hS176⟩
                    refine ⟨.bool t172, rfl, ?_⟩
                    refine sx_run 1 (todo' := [.code (cd10 [1, 1, 1, 0, 0, 0, 1, 0, 1, 1, 1, 1, 1, 1]), .inBlock 1, .inLoop (cd10 [1, 1, 1, 0, 0, 0]), .inBlock 0, .code (cd10 [1, 1, 1, 1])]) (us := []) (by kernel_rfl) ?_
                    cases t172
                    · skip
                      have hp177 := ite_f hp174 rfl
                      refine sx_run 3 (todo' := [.inLoop (cd10 [1, 1, 1, 0, 0, 0]), .inBlock 0, .code (cd10 [1, 1, 1, 1])]) (us := []) (by kernel_rfl) ?_
                      have hS178 := hS176.pick1
                      have hS179 := hS178.drop
                      refine sx_run 1 (todo' := [.code (cd10 [1, 1, 1, 0, 0, 0]), .inLoop (cd10 [1, 1, 1, 0, 0, 0]), .inBlock 0, .code (cd10 [1, 1, 1, 1])]) (us := []) (by kernel_rfl) ?_
                      refine Runs.fill (m := [some (.slice A87 t86.length c88), some (.slice A101 t100.length c102), some (.func (.func 11) #[] #[]), none, none, none, none, none, some (.slice A49 t48.length c50), none, none, none, none, none, none, none, none, none, none, none, none, none, none, none, none, none, none, none, none, none, none, none, none, none, none, none, none, none, none, none, none, none, none, none, none, none, none, none, none, none, none, none, none, none, none, none, none, none, none, none, none, none, none, none, none, none, none]) (by kernel_rfl) ?_
                      exact ih58 t86 t100 t48 _ hp177 he56 _ A87 c88 A101 c102 A49 c50 _ hS179 hs90 hs104
                    · skip
                      have hp180 := ite_t hp174 rfl
                      refine sx_run 3 (todo' := [.inRegion (opsOf (cd10 [1, 1, 1, 0, 0, 0, 1, 0, 1, 1, 1, 1, 1, 1, 0])) [1, 2, 3, 4], .inBlock 1, .inLoop (cd10 [1, 1, 1, 0, 0, 0]), .inBlock 0, .code (cd10 [1, 1, 1, 1])]) (us := [(62, .slice A49 t48.length c50)]) (by kernel_rfl) ?_
                      refine r_load (c := (cd10 [1, 1, 1, 0, 0, 0, 1, 0, 1, 1, 1, 1, 1, 1, 0])) (i := 1) (d := (some 63)) (ty := 25) (t := 25) (x := (.tmp 10)) (p := ⟨b79, 0, none⟩) (v := .agg (enc_api_Final t105).toArray) (by kernel_rfl) (by kernel_rfl) (by kernel_rfl) (loads_agg (hS176.blk 1 rfl) (by kernel_rfl) (lenK (len_api_Final _) (by kernel_rfl))) ?_
                      refine r_lit (c := (cd10 [1, 1, 1, 0, 0, 0, 1, 0, 1, 1, 1, 1, 1, 1, 0])) (i := 2) (d := (some 64)) (ty := 22) (t := 22) (e := 25) (sz := 49) (n := 1) (parts := #[(0, (.tmp 63))]) (vs := [(0, .agg (enc_api_Final t105).toArray)]) (z := zeroOf Try.prog 25) (cs' := ([t105] : List api_Final).flatMap enc_api_Final) hS176 (by kernel_rfl) (by kernel_rfl) (by kernel_rfl) (by kernel_rfl) (by kernel_rfl) (by decide) (by decide) (by kernel_rfl) rfl (Parts.cons (c := enc_api_Final t105) (by kernel_rfl) (len_api_Final _) Parts.nil) rfl ?_
                      intro b182 w183 hS184
                      have hS185 := hS184.pick1
                      obtain ⟨g186, hp187⟩ := ite_some hp180
                      refine r_append (c := (cd10 [1, 1, 1, 0, 0, 0, 1, 0, 1, 1, 1, 1, 1, 1, 0])) (i := 3) (d := (some 65)) (ty := 22) (enc := enc_api_Final) (e := 25) (u := 25) (t := 22) (t2 := 22) (sz := 49) (cp := c50) (A := A49) (bytes := 392) (xs := t48) (ys := ([t105] : List api_Final)) (s := (.tmp 62)) (x := (.tmp 64)) (xv := .slice (some ⟨b182, 0, none⟩) ([t105] : List api_Final).length 1) (info := infoOf Try.prog 25) (z := zeroOf Try.prog 25) (ycs := ([t105] : List api_Final).flatMap enc_api_Final) hS185 (by kernel_rfl) (by kernel_rfl) (by kernel_rfl) (by kernel_rfl) (by kernel_rfl) (.inl (by kernel_rfl)) (by kernel_rfl) (by kernel_rfl) (by kernel_rfl) (by kernel_rfl) (by kernel_rfl) (by omega) len_api_Final one_api_Final (src_row (hS185.row 1 rfl) (by omega) len_api_Final) rfl g186 (by omega) ?_
                      intro A188 c189 w190 hS191
                      refine sx_run 3 (todo' := [.inLoop (cd10 [1, 1, 1, 0, 0, 0]), .inBlock 0, .code (cd10 [1, 1, 1, 1])]) (us := [(8, .slice A188 (t48 ++ ([t105] : List api_Final)).length c189)]) (by kernel_rfl) ?_
                      have hS193 := hS191.pick1
                      have hS194 := hS193.drop
                      have hS195 := hS194.pick1
                      have hS196 := hS195.drop
                      refine sx_run 1 (todo' := [.code (cd10 [1, 1, 1, 0, 0, 0]), .inLoop (cd10 [1, 1, 1, 0, 0, 0]), .inBlock 0, .code (cd10 [1, 1, 1, 1])]) (us := []) (by kernel_rfl) ?_
                      refine Runs.fill (m := [some (.slice A87 t86.length c88), some (.slice A101 t100.length c102), some (.func (.func 11) #[] #[]), none, none, none, none, none, some (.slice A188 (t48 ++ ([t105] : List api_Final)).length c189), none, none, none, none, none, none, none, none, none, none, none, none, none, none, none, none, none, none, none, none, none, none, none, none, none, none, none, none, none, none, none, none, none, none, none, none, none, none, none, none, none, none, none, none, none, none, none, none, none, none, none, none, none, none, none, none, none, none]) (by kernel_rfl) ?_
                      exact ih58 t86 t100 (t48 ++ ([t105] : List api_Final)) _ hp187 he56 _ A87 c88 A101 c102 A188 c189 _ hS196 hs90 hs104
                  · skip
                    have hp197 := ite_f hp168 h170
                    obtain ⟨t198, hr199, hp200⟩ := bind_some' hp197
                    refine r_call1 (c := (cd10 [1, 1, 1, 0, 0, 0, 1, 0, 1, 1, 1, 1, 1, 0])) (i := 5) (d := (some 61)) (g := 11) (args := #[.bool false, .bool false]) (by kernel_rfl) (by kernel_rfl) (by kernel_rfl) (by kernel_rfl) (state_Minus_1.ok false false hS107 hr199) ?_
                    rintro _ w201 ⟨rfl, hS202⟩
                    refine ⟨.bool t198, rfl, ?_⟩
                    refine sx_run 1 (todo' := [.code (cd10 [1, 1, 1, 0, 0, 0, 1, 0, 1, 1, 1, 1, 1, 1]), .inBlock 1, .inLoop (cd10 [1, 1, 1, 0, 0, 0]), .inBlock 0, .code (cd10 [1, 1, 1, 1])]) (us := []) (by kernel_rfl) ?_
                    cases t198
                    · skip
                      have hp203 := ite_f hp200 rfl
                      refine sx_run 3 (todo' := [.inLoop (cd10 [1, 1, 1, 0, 0, 0]), .inBlock 0, .code (cd10 [1, 1, 1, 1])]) (us := []) (by kernel_rfl) ?_
                      have hS204 := hS202.pick1
                      have hS205 := hS204.drop
                      refine sx_run 1 (todo' := [.code (cd10 [1, 1, 1, 0, 0, 0]), .inLoop (cd10 [1, 1, 1, 0, 0, 0]), .inBlock 0, .code (cd10 [1, 1, 1, 1])]) (us := []) (by kernel_rfl) ?_
                      refine Runs.fill (m := [some (.slice A87 t86.length c88), some (.slice A101 t100.length c102), some (.func (.func 11) #[] #[]), none, none, none, none, none, some (.slice A49 t48.length c50), none, none, none, none, none, none, none, none, none, none, none, none, none, none, none, none, none, none, none, none, none, none, none, none, none, none, none, none, none, none, none, none, none, none, none, none, none, none, none, none, none, none, none, none, none, none, none, none, none, none, none, none, none, none, none, none, none, none]) (by kernel_rfl) ?_
                      exact ih58 t86 t100 t48 _ hp203 he56 _ A87 c88 A101 c102 A49 c50 _ hS205 hs90 hs104
                    · skip
                      have hp206 := ite_t hp200 rfl
                      refine sx_run 3 (todo' := [.inRegion (opsOf (cd10 [1, 1, 1, 0, 0, 0, 1, 0, 1, 1, 1, 1, 1, 1, 0])) [1, 2, 3, 4], .inBlock 1, .inLoop (cd10 [1, 1, 1, 0, 0, 0]), .inBlock 0, .code (cd10 [1, 1, 1, 1])]) (us := [(62, .slice A49 t48.length c50)]) (by kernel_rfl) ?_
                      refine r_load (c := (cd10 [1, 1, 1, 0, 0, 0, 1, 0, 1, 1, 1, 1, 1, 1, 0])) (i := 1) (d := (some 63)) (ty := 25) (t := 25) (x := (.tmp 10)) (p := ⟨b79, 0, none⟩) (v := .agg (enc_api_Final t105).toArray) (by kernel_rfl) (by kernel_rfl) (by kernel_rfl) (loads_agg (hS202.blk 1 rfl) (by kernel_rfl) (lenK (len_api_Final _) (by kernel_rfl))) ?_
                      refine r_lit (c := (cd10 [1, 1, 1, 0, 0, 0, 1, 0, 1, 1, 1, 1, 1, 1, 0])) (i := 2) (d := (some 64)) (ty := 22) (t := 22) (e := 25) (sz := 49) (n := 1) (parts := #[(0, (.tmp 63))]) (vs := [(0, .agg (enc_api_Final t105).toArray)]) (z := zeroOf Try.prog 25) (cs' := ([t105] : List api_Final).flatMap enc_api_Final) hS202 (by kernel_rfl) (by kernel_rfl) (by kernel_rfl) (by kernel_rfl) (by kernel_rfl) (by decide) (by decide) (by kernel_rfl) rfl (Parts.cons (c := enc_api_Final t105) (by kernel_rfl) (len_api_Final _) Parts.nil) rfl ?_
                      intro b208 w209 hS210
                      have hS211 := hS210.pick1
                      obtain ⟨g212, hp213⟩ := ite_some hp206
                      refine r_append (c := (cd10 [1, 1, 1, 0, 0, 0, 1, 0, 1, 1, 1, 1, 1, 1, 0])) (i := 3) (d := (some 65)) (ty := 22) (enc := enc_api_Final) (e := 25) (u := 25) (t := 22) (t2 := 22) (sz := 49) (cp := c50) (A := A49) (bytes := 392) (xs := t48) (ys := ([t105] : List api_Final)) (s := (.tmp 62)) (x := (.tmp 64)) (xv := .slice (some ⟨b208, 0, none⟩) ([t105] : List api_Final).length 1) (info := infoOf Try.prog 25) (z := zeroOf Try.prog 25) (ycs := ([t105] : List api_Final).flatMap enc_api_Final) hS211 (by kernel_rfl) (by kernel_rfl) (by kernel_rfl) (by kernel_rfl) (by kernel_rfl) (.inl (by kernel_rfl)) (by kernel_rfl) (by kernel_rfl) (by kernel_rfl) (by kernel_rfl) (by kernel_rfl) (by omega) len_api_Final one_api_Final (src_row (hS211.row 1 rfl) (by omega) len_api_Final) rfl g212 (by omega) ?_
                      intro A214 c215 w216 hS217
                      refine sx_run 3 (todo' := [.inLoop (cd10 [1, 1, 1, 0, 0, 0]), .inBlock 0, .code (cd10 [1, 1, 1, 1])]) (us := [(8, .slice A214 (t48 ++ ([t105] : List api_Final)).length c215)]) (by kernel_rfl) ?_
                      have hS219 := hS217.pick1
                      have hS220 := hS219.drop
                      have hS221 := hS220.pick1
                      have hS222 := hS221.drop
                      refine sx_run 1 (todo' := [.code (cd10 [1, 1, 1, 0, 0, 0]), .inLoop (cd10 [1, 1, 1, 0, 0, 0]), .inBlock 0, .code (cd10 [1, 1, 1, 1])]) (us := []) (by kernel_rfl) ?_
                      refine Runs.fill (m := [some (.slice A87 t86.length c88), some (.slice A101 t100.length c102), some (.func (.func 11) #[] #[]), none, none, none, none, none, some (.slice A214 (t48 ++ ([t105] : List api_Final)).length c215), none, none, none, none, none, none, none, none, none, none, none, none, none, none, none, none, none, none, none, none, none, none, none, none, none, none, none, none, none, none, none, none, none, none, none, none, none, none, none, none, none, none, none, none, none, none, none, none, none, none, none, none, none, none, none, none, none, none]) (by kernel_rfl) ?_
                      exact ih58 t86 t100 (t48 ++ ([t105] : List api_Final)) _ hp213 he56 _ A87 c88 A101 c102 A214 c215 _ hS222 hs90 hs104
              refine sx_split 5 (todo' := [.inRegion (opsOf (cd10 [1, 1, 1, 0, 0, 0, 1, 0, 1, 1, 1, 1, 0, 0])) [], .code (cd10 [1, 1, 1, 0, 0, 0, 1, 0, 1, 1, 1, 1, 0, 1]), .code (cd10 [1, 1, 1, 0, 0, 0, 1, 0, 1, 1, 1, 1, 1]), .inBlock 1, .inLoop (cd10 [1, 1, 1, 0, 0, 0]), .inBlock 0, .code (cd10 [1, 1, 1, 1])]) (us := [(49, .int .i64 t73)]) (d := 50) (t := (decide (t73 ≥ 0))) (by kernel_rfl) (fun h223 => ?_) (fun h224 => ?_)
              · skip
                have hp225 := ite_t hv98 h223
                refine sx_run 2 (todo' := [.code (cd10 [1, 1, 1, 0, 0, 0, 1, 0, 1, 1, 1, 1, 0, 1, 0]), .code (cd10 [1, 1, 1, 0, 0, 0, 1, 0, 1, 1, 1, 1, 1]), .inBlock 1, .inLoop (cd10 [1, 1, 1, 0, 0, 0]), .inBlock 0, .code (cd10 [1, 1, 1, 1])]) (us := []) (by kernel_rfl) ?_
                have hS226 := hS93.pick1
                obtain ⟨g227, hp228⟩ := ite_some hp225
                obtain ⟨b229, p230, hA231, hc232⟩ := hs47.atF g227.1 g227.2
                obtain ⟨g233, hp234⟩ := ite_some hp228
                obtain ⟨A237, c238, hr235, hs236⟩ := cutSlZ hs47 ((1 : Int).toNat) (t43.length) (by omega) (by omega)
                refine r_drawnF (X := Unit) (c := (cd10 [1, 1, 1, 0, 0, 0, 1, 0, 1, 1, 1, 1, 0, 1, 0])) (id := 14) (C0 := fun w' => St w0 Z (xblk b79 25 (enc_api_Final t91) :: xrow A49 c50 25 49 (t48.flatMap enc_api_Final) :: fs) w') (C1 := fun _ w' => St w0 Z (xblk b79 25 (enc_api_Final (gt t43 (0 : Int))) :: xrow A49 c50 25 49 (t48.flatMap enc_api_Final) :: fs) w') (vs := [.slice A44 t43.length c45, .pointer (some ⟨b229, p230 + (0 : Int).toNat * 49, none⟩), .agg (enc_api_Final (gt t43 (0 : Int))).toArray, .slice A44 t43.length c45, .slice A237 ((t43.take t43.length).drop ((1 : Int).toNat)).length c238, undef, undef]) (vx := fun _ => [.slice A44 t43.length c45, .pointer (some ⟨b229, p230 + (0 : Int).toNat * 49, none⟩), .agg (enc_api_Final (gt t43 (0 : Int))).toArray, .slice A44 t43.length c45, .slice A237 ((t43.take t43.length).drop ((1 : Int).toNat)).length c238, undef, .slice A237 ((t43.take t43.length).drop ((1 : Int).toNat)).length c238]) 5 7 [5, 6] [6] (by kernel_rfl) (by kernel_rfl) (by kernel_rfl) (by decide) (by kernel_rfl) (by kernel_rfl) (by kernel_rfl) rfl ?_ (fun _ => ⟨rfl, rfl⟩) hS226.drew ?_ ?_ ?_ ?_ ?_
                · intro x i hi hd
                  match i, hi, hd with
                  | 0, _, _ => exact rfl
                  | 1, _, _ => exact rfl
                  | 2, _, _ => exact rfl
                  | 3, _, _ => exact rfl
                  | 4, _, _ => exact rfl
                  | 5, _, hd => exact absurd hd (by decide)
                  | 6, _, hd => exact absurd hd (by decide)
                  | i + 7, hi, _ => exact absurd hi (by omega)
                · intro i hi hd w hC
                  match i, hi, hd with
                  | 0, _, _ => exact does_pure (v := .slice A44 t43.length c45) (by kernel_rfl) rfl hC
                  | 1, _, _ => exact does_run (x_indexAddr (t := 22) (e := 25) (x := (.tmp 51)) (y := (.const (.int .i64 0))) (b := b229) (o' := p230) (n := t43.length) (cp := c45) (sz := 49) (kk := .i64) (j := (0 : Int)) (slv (by kernel_rfl) hA231) (by kernel_rfl) (by kernel_rfl) (by kernel_rfl) g227.1 g227.2 (by kernel_rfl)) rfl hC
                  | 2, _, _ => exact does_run (x_load (t := 25) (x := (.tmp 52)) (p := ⟨b229, p230 + (0 : Int).toNat * 49, none⟩) (v := .agg (enc_api_Final (gt t43 (0 : Int))).toArray) (by kernel_rfl) (loads_agg (hc232.cells hC) (by kernel_rfl) (lenK (len_api_Final _) (by kernel_rfl))) (by kernel_rfl)) rfl hC
                  | 3, _, _ => exact does_pure (v := .slice A44 t43.length c45) (by kernel_rfl) rfl hC
                  | 4, _, _ => exact does_run (x_cutSl_sn (t := 22) (x := (.tmp 54)) (lo := (.const (.int .i64 1))) (e := 25) (sz := 49) (A := A44) (n := t43.length) (c := c45) (k := .i64) (by kernel_rfl) (by kernel_rfl) (by kernel_rfl) (by kernel_rfl) g233 hr235 (by kernel_rfl)) rfl hC
                  | 5, _, hd => exact absurd hd (by decide)
                  | 6, _, hd => exact absurd hd (by decide)
                  | i + 7, hi, _ => exact absurd hi (by omega)
                · intro i hi hd x w hC
                  match i, hi, hd with
                  | 0, _, _ => exact does_pure (v := .slice A44 t43.length c45) (by kernel_rfl) rfl hC
                  | 1, _, _ => exact does_run (x_indexAddr (t := 22) (e := 25) (x := (.tmp 51)) (y := (.const (.int .i64 0))) (b := b229) (o' := p230) (n := t43.length) (cp := c45) (sz := 49) (kk := .i64) (j := (0 : Int)) (slv (by kernel_rfl) hA231) (by kernel_rfl) (by kernel_rfl) (by kernel_rfl) g227.1 g227.2 (by kernel_rfl)) rfl hC
                  | 2, _, _ => exact does_run (x_load (t := 25) (x := (.tmp 52)) (p := ⟨b229, p230 + (0 : Int).toNat * 49, none⟩) (v := .agg (enc_api_Final (gt t43 (0 : Int))).toArray) (by kernel_rfl) (loads_agg (hc232.cells hC) (by kernel_rfl) (lenK (len_api_Final _) (by kernel_rfl))) (by kernel_rfl)) rfl hC
                  | 3, _, _ => exact does_pure (v := .slice A44 t43.length c45) (by kernel_rfl) rfl hC
                  | 4, _, _ => exact does_run (x_cutSl_sn (t := 22) (x := (.tmp 54)) (lo := (.const (.int .i64 1))) (e := 25) (sz := 49) (A := A44) (n := t43.length) (c := c45) (k := .i64) (by kernel_rfl) (by kernel_rfl) (by kernel_rfl) (by kernel_rfl) g233 hr235 (by kernel_rfl)) rfl hC
                  | 5, _, hd => exact absurd hd (by decide)
                  | 6, _, hd => exact absurd hd (by decide)
                  | i + 7, hi, _ => exact absurd hi (by omega)
                · intro w hC
                  exact does_store (ux := ()) (t := 25) (x := (.tmp 10)) (y := (.tmp 53)) (b := b79) (o := 0) (e := 25) (cs := enc_api_Final t91) (v := .agg (enc_api_Final (gt t43 (0 : Int))).toArray) (vs := enc_api_Final (gt t43 (0 : Int))) (cs' := enc_api_Final (gt t43 (0 : Int))) hC (by kernel_rfl) (by kernel_rfl) (by kernel_rfl) (by kernel_rfl) (by kernel_rfl) (lenK (len_api_Final _) (by kernel_rfl)) (one_api_Final _) (by simp only [len_api_Final, List.length_cons, List.length_nil, List.length_append]; omega) (over_all ((len_api_Final _).trans (len_api_Final _).symm)) (fun _ h => h)
                · intro i hi hd hne x w hC
                  match i, hi, hd, hne with
                  | 0, _, hd, _ => exact absurd hd (by decide)
                  | 1, _, hd, _ => exact absurd hd (by decide)
                  | 2, _, hd, _ => exact absurd hd (by decide)
                  | 3, _, hd, _ => exact absurd hd (by decide)
                  | 4, _, hd, _ => exact absurd hd (by decide)
                  | 5, _, _, hne => exact absurd rfl hne
                  | 6, _, _, _ => exact does_pure (v := .slice A237 ((t43.take t43.length).drop ((1 : Int).toNat)).length c238) (by kernel_rfl) rfl hC
                  | i + 7, hi, _, _ => exact absurd hi (by omega)
                intro _ w240 hS241
                have hS242 := hS241.pick1
                refine Runs.fill (m := [some (.slice A87 t86.length c88), some (.slice A237 ((t43.take t43.length).drop ((1 : Int).toNat)).length c238), some (.func (.func 11) #[] #[]), none, none, none, none, none, some (.slice A49 t48.length c50), some (.int .i64 t73), some (.pointer (some ⟨b79, 0, none⟩)), none, none, none, none, none, none, none, none, none, none, none, none, none, none, none, none, none, none, none, none, none, none, none, none, none, none, none, none, none, none, none, none, none, none, none, none, none, none, none, none, none, none, none, none, none, none, none, none, none, none, none, none, none, none, none, none]) (by kernel_rfl) ?_
                exact J108 ((t43.take t43.length).drop ((1 : Int).toNat)) (gt t43 (0 : Int)) (Option.some.inj hp234) _ A237 c238 _ hS242 hs236
              · skip
                have hp243 := ite_f hv98 h224
                refine sx_run 3 (todo' := [.code (cd10 [1, 1, 1, 0, 0, 0, 1, 0, 1, 1, 1, 1, 1]), .inBlock 1, .inLoop (cd10 [1, 1, 1, 0, 0, 0]), .inBlock 0, .code (cd10 [1, 1, 1, 1])]) (us := []) (by kernel_rfl) ?_
                refine Runs.fill (m := [some (.slice A87 t86.length c88), some (.slice A44 t43.length c45), some (.func (.func 11) #[] #[]), none, none, none, none, none, some (.slice A49 t48.length c50), some (.int .i64 t73), some (.pointer (some ⟨b79, 0, none⟩)), none, none, none, none, none, none, none, none, none, none, none, none, none, none, none, none, none, none, none, none, none, none, none, none, none, none, none, none, none, none, none, none, none, none, none, none, none, none, none, none, none, none, none, none, none, none, none, none, none, none, none, none, none, none, none, none]) (by kernel_rfl) ?_
                exact J108 t43 t91 (Option.some.inj hp243) _ A44 c45 _ hS93 hs47
            refine sx_split 6 (todo' := [.inRegion (opsOf (cd10 [1, 1, 1, 0, 0, 0, 1, 0, 1, 1, 1, 0, 0])) [], .code (cd10 [1, 1, 1, 0, 0, 0, 1, 0, 1, 1, 1, 0, 1]), .code (cd10 [1, 1, 1, 0, 0, 0, 1, 0, 1, 1, 1, 1]), .inBlock 1, .inLoop (cd10 [1, 1, 1, 0, 0, 0]), .inBlock 0, .code (cd10 [1, 1, 1, 1])]) (us := [(42, .int .i64 t73)]) (d := 43) (t := (decide (t73 ≤ 0))) (by kernel_rfl) (fun h244 => ?_) (fun h245 => ?_)
            · skip
              have hp246 := ite_t hv84 h244
              refine sx_run 2 (todo' := [.code (cd10 [1, 1, 1, 0, 0, 0, 1, 0, 1, 1, 1, 0, 1, 0]), .code (cd10 [1, 1, 1, 0, 0, 0, 1, 0, 1, 1, 1, 1]), .inBlock 1, .inLoop (cd10 [1, 1, 1, 0, 0, 0]), .inBlock 0, .code (cd10 [1, 1, 1, 1])]) (us := []) (by kernel_rfl) ?_
              obtain ⟨g247, hp248⟩ := ite_some hp246
              obtain ⟨b249, p250, hA251, hc252⟩ := hs42.atF g247.1 g247.2
              obtain ⟨g253, hp254⟩ := ite_some hp248
              obtain ⟨A257, c258, hr255, hs256⟩ := cutSlZ hs42 ((1 : Int).toNat) (t38.length) (by omega) (by omega)
              refine r_drawnF (X := Unit) (c := (cd10 [1, 1, 1, 0, 0, 0, 1, 0, 1, 1, 1, 0, 1, 0])) (id := 12) (C0 := fun w' => St w0 Z (xblk b79 25 (enc_api_Final (⟨0, (Vector.replicate 48 0)⟩ : api_Final)) :: xrow A49 c50 25 49 (t48.flatMap enc_api_Final) :: fs) w') (C1 := fun _ w' => St w0 Z (xblk b79 25 (enc_api_Final (gt t38 (0 : Int))) :: xrow A49 c50 25 49 (t48.flatMap enc_api_Final) :: fs) w') (vs := [.slice A39 t38.length c40, .pointer (some ⟨b249, p250 + (0 : Int).toNat * 49, none⟩), .agg (enc_api_Final (gt t38 (0 : Int))).toArray, .slice A39 t38.length c40, .slice A257 ((t38.take t38.length).drop ((1 : Int).toNat)).length c258, undef, undef]) (vx := fun _ => [.slice A39 t38.length c40, .pointer (some ⟨b249, p250 + (0 : Int).toNat * 49, none⟩), .agg (enc_api_Final (gt t38 (0 : Int))).toArray, .slice A39 t38.length c40, .slice A257 ((t38.take t38.length).drop ((1 : Int).toNat)).length c258, undef, .slice A257 ((t38.take t38.length).drop ((1 : Int).toNat)).length c258]) 5 7 [5, 6] [6] (by kernel_rfl) (by kernel_rfl) (by kernel_rfl) (by decide) (by kernel_rfl) (by kernel_rfl) (by kernel_rfl) rfl ?_ (fun _ => ⟨rfl, rfl⟩) hS81.drew ?_ ?_ ?_ ?_ ?_
              · intro x i hi hd
                match i, hi, hd with
                | 0, _, _ => exact rfl
                | 1, _, _ => exact rfl
                | 2, _, _ => exact rfl
                | 3, _, _ => exact rfl
                | 4, _, _ => exact rfl
                | 5, _, hd => exact absurd hd (by decide)
                | 6, _, hd => exact absurd hd (by decide)
                | i + 7, hi, _ => exact absurd hi (by omega)
              · intro i hi hd w hC
                match i, hi, hd with
                | 0, _, _ => exact does_pure (v := .slice A39 t38.length c40) (by kernel_rfl) rfl hC
                | 1, _, _ => exact does_run (x_indexAddr (t := 22) (e := 25) (x := (.tmp 44)) (y := (.const (.int .i64 0))) (b := b249) (o' := p250) (n := t38.length) (cp := c40) (sz := 49) (kk := .i64) (j := (0 : Int)) (slv (by kernel_rfl) hA251) (by kernel_rfl) (by kernel_rfl) (by kernel_rfl) g247.1 g247.2 (by kernel_rfl)) rfl hC
                | 2, _, _ => exact does_run (x_load (t := 25) (x := (.tmp 45)) (p := ⟨b249, p250 + (0 : Int).toNat * 49, none⟩) (v := .agg (enc_api_Final (gt t38 (0 : Int))).toArray) (by kernel_rfl) (loads_agg (hc252.cells hC) (by kernel_rfl) (lenK (len_api_Final _) (by kernel_rfl))) (by kernel_rfl)) rfl hC
                | 3, _, _ => exact does_pure (v := .slice A39 t38.length c40) (by kernel_rfl) rfl hC
                | 4, _, _ => exact does_run (x_cutSl_sn (t := 22) (x := (.tmp 47)) (lo := (.const (.int .i64 1))) (e := 25) (sz := 49) (A := A39) (n := t38.length) (c := c40) (k := .i64) (by kernel_rfl) (by kernel_rfl) (by kernel_rfl) (by kernel_rfl) g253 hr255 (by kernel_rfl)) rfl hC
                | 5, _, hd => exact absurd hd (by decide)
                | 6, _, hd => exact absurd hd (by decide)
                | i + 7, hi, _ => exact absurd hi (by omega)
              · intro i hi hd x w hC
                match i, hi, hd with
                | 0, _, _ => exact does_pure (v := .slice A39 t38.length c40) (by kernel_rfl) rfl hC
                | 1, _, _ => exact does_run (x_indexAddr (t := 22) (e := 25) (x := (.tmp 44)) (y := (.const (.int .i64 0))) (b := b249) (o' := p250) (n := t38.length) (cp := c40) (sz := 49) (kk := .i64) (j := (0 : Int)) (slv (by kernel_rfl) hA251) (by kernel_rfl) (by kernel_rfl) (by kernel_rfl) g247.1 g247.2 (by kernel_rfl)) rfl hC
                | 2, _, _ => exact does_run (x_load (t := 25) (x := (.tmp 45)) (p := ⟨b249, p250 + (0 : Int).toNat * 49, none⟩) (v := .agg (enc_api_Final (gt t38 (0 : Int))).toArray) (by kernel_rfl) (loads_agg (hc252.cells hC) (by kernel_rfl) (lenK (len_api_Final _) (by kernel_rfl))) (by kernel_rfl)) rfl hC
                | 3, _, _ => exact does_pure (v := .slice A39 t38.length c40) (by kernel_rfl) rfl hC
                | 4, _, _ => exact does_run (x_cutSl_sn (t := 22) (x := (.tmp 47)) (lo := (.const (.int .i64 1))) (e := 25) (sz := 49) (A := A39) (n := t38.length) (c := c40) (k := .i64) (by kernel_rfl) (by kernel_rfl) (by kernel_rfl) (by kernel_rfl) g253 hr255 (by kernel_rfl)) rfl hC
                | 5, _, hd => exact absurd hd (by decide)
                | 6, _, hd => exact absurd hd (by decide)
                | i + 7, hi, _ => exact absurd hi (by omega)
              · intro w hC
                exact does_store (ux := ()) (t := 25) (x := (.tmp 10)) (y := (.tmp 46)) (b := b79) (o := 0) (e := 25) (cs := enc_api_Final (⟨0, (Vector.replicate 48 0)⟩ : api_Final)) (v := .agg (enc_api_Final (gt t38 (0 : Int))).toArray) (vs := enc_api_Final (gt t38 (0 : Int))) (cs' := enc_api_Final (gt t38 (0 : Int))) hC (by kernel_rfl) (by kernel_rfl) (by kernel_rfl) (by kernel_rfl) (by kernel_rfl) (lenK (len_api_Final _) (by kernel_rfl)) (one_api_Final _) (by simp only [len_api_Final, List.length_cons, List.length_nil, List.length_append]; omega) (over_all ((len_api_Final _).trans (len_api_Final _).symm)) (fun _ h => h)
              · intro i hi hd hne x w hC
                match i, hi, hd, hne with
                | 0, _, hd, _ => exact absurd hd (by decide)
                | 1, _, hd, _ => exact absurd hd (by decide)
                | 2, _, hd, _ => exact absurd hd (by decide)
                | 3, _, hd, _ => exact absurd hd (by decide)
                | 4, _, hd, _ => exact absurd hd (by decide)
                | 5, _, _, hne => exact absurd rfl hne
                | 6, _, _, _ => exact does_pure (v := .slice A257 ((t38.take t38.length).drop ((1 : Int).toNat)).length c258) (by kernel_rfl) rfl hC
                | i + 7, hi, _, _ => exact absurd hi (by omega)
              intro _ w260 hS261
              have hS262 := hS261.pick1
              refine Runs.fill (m := [some (.slice A257 ((t38.take t38.length).drop ((1 : Int).toNat)).length c258), some (.slice A44 t43.length c45), some (.func (.func 11) #[] #[]), none, none, none, none, none, some (.slice A49 t48.length c50), some (.int .i64 t73), some (.pointer (some ⟨b79, 0, none⟩)), none, none, none, none, none, none, none, none, none, none, none, none, none, none, none, none, none, none, none, none, none, none, none, none, none, none, none, none, none, none, none, none, none, none, none, none, none, none, none, none, none, none, none, none, none, none, none, none, none, none, none, none, none, none, none, none]) (by kernel_rfl) ?_
              exact J94 ((t38.take t38.length).drop ((1 : Int).toNat)) (gt t38 (0 : Int)) (Option.some.inj hp254) _ A257 c258 _ hS262 hs256
            · skip
              have hp263 := ite_f hv84 h245
              refine sx_run 3 (todo' := [.code (cd10 [1, 1, 1, 0, 0, 0, 1, 0, 1, 1, 1, 1]), .inBlock 1, .inLoop (cd10 [1, 1, 1, 0, 0, 0]), .inBlock 0, .code (cd10 [1, 1, 1, 1])]) (us := []) (by kernel_rfl) ?_
              have hS264 := hS81.pick1
              refine Runs.fill (m := [some (.slice A39 t38.length c40), some (.slice A44 t43.length c45), some (.func (.func 11) #[] #[]), none, none, none, none, none, some (.slice A49 t48.length c50), some (.int .i64 t73), some (.pointer (some ⟨b79, 0, none⟩)), none, none, none, none, none, none, none, none, none, none, none, none, none, none, none, none, none, none, none, none, none, none, none, none, none, none, none, none, none, none, none, none, none, none, none, none, none, none, none, none, none, none, none, none, none, none, none, none, none, none, none, none, none, none, none, none]) (by kernel_rfl) ?_
              exact J94 t38 (⟨0, (Vector.replicate 48 0)⟩ : api_Final) (Option.some.inj hp263) _ A39 c40 _ hS264 hs42
          refine sx_split 12 (todo' := [.inRegion (opsOf (cd10 [1, 1, 1, 0, 0, 0, 1, 0, 1, 0, 0, 0])) [3], .code (cd10 [1, 1, 1, 0, 0, 0, 1, 0, 1, 0, 0, 1]), .inBlock 2, .code (cd10 [1, 1, 1, 0, 0, 0, 1, 0, 1, 1]), .inBlock 1, .inLoop (cd10 [1, 1, 1, 0, 0, 0]), .inBlock 0, .code (cd10 [1, 1, 1, 1])]) (us := [(9, .int .i64 (-1)), (28, .slice A39 t38.length c40), (29, .int .i64 (t38.length : Int))]) (d := 30) (t := ((t38.length : Int) == 0)) (by kernel_rfl) (fun h265 => ?_) (fun h266 => ?_)
          · skip
            have hp267 := ite_t hv71 h265
            refine sx_run 7 (todo' := [.code (cd10 [1, 1, 1, 0, 0, 0, 1, 0, 1, 1]), .inBlock 1, .inLoop (cd10 [1, 1, 1, 0, 0, 0]), .inBlock 0, .code (cd10 [1, 1, 1, 1])]) (us := [(27, .bool true), (9, .int .i64 1)]) (by kernel_rfl) ?_
            refine Runs.fill (m := [some (.slice A39 t38.length c40), some (.slice A44 t43.length c45), some (.func (.func 11) #[] #[]), none, none, none, none, none, some (.slice A49 t48.length c50), some (.int .i64 1), none, none, none, none, none, none, none, none, none, none, none, none, none, none, none, none, none, none, none, none, none, none, none, none, none, none, none, none, none, none, none, none, none, none, none, none, none, none, none, none, none, none, none, none, none, none, none, none, none, none, none, none, none, none, none, none, none]) (by kernel_rfl) ?_
            exact J76 1 (Option.some.inj hp267) _ _ hS65
          · skip
            have hp268 := ite_f hv71 h266
            refine sx_split 8 (todo' := [.inRegion (opsOf (cd10 [1, 1, 1, 0, 0, 0, 1, 0, 1, 0, 0, 1, 1, 0])) [3], .code (cd10 [1, 1, 1, 0, 0, 0, 1, 0, 1, 0, 0, 1, 1, 1]), .inBlock 2, .code (cd10 [1, 1, 1, 0, 0, 0, 1, 0, 1, 1]), .inBlock 1, .inLoop (cd10 [1, 1, 1, 0, 0, 0]), .inBlock 0, .code (cd10 [1, 1, 1, 1])]) (us := [(27, .bool false), (32, .slice A44 t43.length c45), (33, .int .i64 (t43.length : Int))]) (d := 34) (t := (decide ((t43.length : Int) > 0))) (by kernel_rfl) (fun h269 => ?_) (fun h270 => ?_)
            · skip
              have hp271 := ite_t hp268 h269
              refine sx_run 3 (todo' := [.code (cd10 [1, 1, 1, 0, 0, 0, 1, 0, 1, 0, 0, 1, 1, 1, 0]), .inBlock 2, .code (cd10 [1, 1, 1, 0, 0, 0, 1, 0, 1, 1]), .inBlock 1, .inLoop (cd10 [1, 1, 1, 0, 0, 0]), .inBlock 0, .code (cd10 [1, 1, 1, 1])]) (us := [(31, .bool true)]) (by kernel_rfl) ?_
              refine r_quiet hS65 (c := (cd10 [1, 1, 1, 0, 0, 0, 1, 0, 1, 0, 0, 1, 1, 1, 0])) (id := 9) (by kernel_rfl) (by kernel_rfl) (by kernel_rfl) (is := [0, 1, 2, 3, 4, 5, 6, 7]) (by kernel_rfl) ?_
              refine q_run 1 (is' := [1, 2, 3, 4, 5, 6, 7]) (us := [(35, .slice A39 t38.length c40)]) (by kernel_rfl) ?_
              obtain ⟨g272, hp273⟩ := ite_some hp271
              obtain ⟨b274, p275, hA276, hc277⟩ := hs42.atF g272.1 g272.2
              refine q_indexAddr (c := (cd10 [1, 1, 1, 0, 0, 0, 1, 0, 1, 0, 0, 1, 1, 1, 0])) (i := 1) (d := (some 36)) (ty := 0) (t := 22) (e := 25) (n := t38.length) (cp := c40) (sz := 49) (kk := .i64) (x := (.tmp 35)) (y := (.const (.int .i64 0))) (b := b274) (o' := p275) (j := (0 : Int)) (by kernel_rfl) (by kernel_rfl) (slv (by kernel_rfl) hA276) (by kernel_rfl) (by kernel_rfl) (by kernel_rfl) g272.1 g272.2 ?_
              refine q_load (c := (cd10 [1, 1, 1, 0, 0, 0, 1, 0, 1, 0, 0, 1, 1, 1, 0])) (i := 2) (d := (some 37)) (ty := 25) (t := 25) (x := (.tmp 36)) (p := ⟨b274, p275 + (0 : Int).toNat * 49, none⟩) (v := .agg (enc_api_Final (gt t38 (0 : Int))).toArray) (by kernel_rfl) (by kernel_rfl) (by kernel_rfl) (fun w hC => (loads_agg (hc277.cells hC) (by kernel_rfl) (lenK (len_api_Final _) (by kernel_rfl)))) ?_
              refine q_run 1 (is' := [4, 5, 6, 7]) (us := [(38, .slice A44 t43.length c45)]) (by kernel_rfl) ?_
              obtain ⟨g278, hp279⟩ := ite_some hp273
              obtain ⟨b280, p281, hA282, hc283⟩ := hs47.atF g278.1 g278.2
              refine q_indexAddr (c := (cd10 [1, 1, 1, 0, 0, 0, 1, 0, 1, 0, 0, 1, 1, 1, 0])) (i := 4) (d := (some 39)) (ty := 0) (t := 22) (e := 25) (n := t43.length) (cp := c45) (sz := 49) (kk := .i64) (x := (.tmp 38)) (y := (.const (.int .i64 0))) (b := b280) (o' := p281) (j := (0 : Int)) (by kernel_rfl) (by kernel_rfl) (slv (by kernel_rfl) hA282) (by kernel_rfl) (by kernel_rfl) (by kernel_rfl) g278.1 g278.2 ?_
              refine q_load (c := (cd10 [1, 1, 1, 0, 0, 0, 1, 0, 1, 0, 0, 1, 1, 1, 0])) (i := 5) (d := (some 40)) (ty := 25) (t := 25) (x := (.tmp 39)) (p := ⟨b280, p281 + (0 : Int).toNat * 49, none⟩) (v := .agg (enc_api_Final (gt t43 (0 : Int))).toArray) (by kernel_rfl) (by kernel_rfl) (by kernel_rfl) (fun w hC => (loads_agg (hc283.cells hC) (by kernel_rfl) (lenK (len_api_Final _) (by kernel_rfl)))) ?_
              obtain ⟨t284, hr285, hp286⟩ := bind_some' hp279
              refine q_call1 (c := (cd10 [1, 1, 1, 0, 0, 0, 1, 0, 1, 0, 0, 1, 1, 1, 0])) (i := 6) (d := (some 41)) (v := .int .i64 t284) (g := 7) (args := #[.agg (enc_api_Final (gt t38 (0 : Int))).toArray, .agg (enc_api_Final (gt t43 (0 : Int))).toArray]) (by kernel_rfl) (by kernel_rfl) (by kernel_rfl) (by kernel_rfl) (fun w hC => by
                refine (state_Compare.ok (gt t38 (0 : Int)) (gt t43 (0 : Int)) hC hr285).mono ?_
                rintro e w2 ⟨rfl, h2⟩
                exact ⟨rfl, h2⟩) ?_
              refine q_run 1 (is' := []) (us := [(9, .int .i64 t284)]) (by kernel_rfl) ?_
              refine Qs.nil ?_
              intro w287 hS288
              refine sx_run 1 (todo' := [.code (cd10 [1, 1, 1, 0, 0, 0, 1, 0, 1, 1]), .inBlock 1, .inLoop (cd10 [1, 1, 1, 0, 0, 0]), .inBlock 0, .code (cd10 [1, 1, 1, 1])]) (us := []) (by kernel_rfl) ?_
              refine Runs.fill (m := [some (.slice A39 t38.length c40), some (.slice A44 t43.length c45), some (.func (.func 11) #[] #[]), none, none, none, none, none, some (.slice A49 t48.length c50), some (.int .i64 t284), none, none, none, none, none, none, none, none, none, none, none, none, none, none, none, none, none, none, none, none, none, none, none, none, none, none, none, none, none, none, none, none, none, none, none, none, none, none, none, none, none, none, none, none, none, none, none, none, none, none, none, none, none, none, none, none, none]) (by kernel_rfl) ?_
              exact J76 t284 (Option.some.inj hp286) _ _ hS288
            · skip
              have hp289 := ite_f hp268 h270
              refine sx_run 5 (todo' := [.code (cd10 [1, 1, 1, 0, 0, 0, 1, 0, 1, 1]), .inBlock 1, .inLoop (cd10 [1, 1, 1, 0, 0, 0]), .inBlock 0, .code (cd10 [1, 1, 1, 1])]) (us := [(31, .bool false)]) (by kernel_rfl) ?_
              refine Runs.fill (m := [some (.slice A39 t38.length c40), some (.slice A44 t43.length c45), some (.func (.func 11) #[] #[]), none, none, none, none, none, some (.slice A49 t48.length c50), some (.int .i64 (-1)), none, none, none, none, none, none, none, none, none, none, none, none, none, none, none, none, none, none, none, none, none, none, none, none, none, none, none, none, none, none, none, none, none, none, none, none, none, none, none, none, none, none, none, none, none, none, none, none, none, none, none, none, none, none, none, none, none]) (by kernel_rfl) ?_
              exact J76 (-1) (Option.some.inj hp289) _ _ hS65
        refine sx_split 6 (todo' := [.inRegion (opsOf (cd10 [1, 1, 1, 0, 0, 0, 0, 0])) [3, 4, 5, 6, 7], .code (cd10 [1, 1, 1, 0, 0, 0, 0, 1]), .code (cd10 [1, 1, 1, 0, 0, 0, 1]), .inLoop (cd10 [1, 1, 1, 0, 0, 0]), .inBlock 0, .code (cd10 [1, 1, 1, 1])]) (us := [(19, .slice A39 t38.length c40), (20, .int .i64 (t38.length : Int))]) (d := 21) (t := (decide ((t38.length : Int) > 0))) (by kernel_rfl) (fun h290 => ?_) (fun h291 => ?_)
        · skip
          have hp292 := ite_t hv62 h290
          refine sx_run 8 (todo' := [.code (cd10 [1, 1, 1, 0, 0, 0, 1]), .inLoop (cd10 [1, 1, 1, 0, 0, 0]), .inBlock 0, .code (cd10 [1, 1, 1, 1])]) (us := [(22, .bool true), (23, undef), (24, undef), (25, undef), (26, .bool true)]) (by kernel_rfl) ?_
          refine Runs.fill (m := [some (.slice A39 t38.length c40), some (.slice A44 t43.length c45), some (.func (.func 11) #[] #[]), none, none, none, none, none, some (.slice A49 t48.length c50), none, none, none, none, none, none, none, none, none, none, none, none, none, none, none, none, none, none, none, none, none, none, none, none, none, none, none, none, none, none, none, none, none, none, none, none, none, none, none, none, none, none, none, none, none, none, none, none, none, none, none, none, none, none, none, none, none, none]) (by kernel_rfl) ?_
          exact J67 (Option.some.inj hp292) _ _ hS53
        · skip
          have hp293 := ite_f hv62 h291
          refine sx_split 4 (todo' := [.inRegion (opsOf (cd10 [1, 1, 1, 0, 0, 0, 0, 0])) [7], .code (cd10 [1, 1, 1, 0, 0, 0, 0, 1]), .code (cd10 [1, 1, 1, 0, 0, 0, 1]), .inLoop (cd10 [1, 1, 1, 0, 0, 0]), .inBlock 0, .code (cd10 [1, 1, 1, 1])]) (us := [(22, .bool false), (23, .slice A44 t43.length c45), (24, .int .i64 (t43.length : Int))]) (d := 25) (t := (decide ((t43.length : Int) > 0))) (by kernel_rfl) (fun h294 => ?_) (fun h295 => ?_)
          · skip
            have hp296 := ite_t hp293 h294
            refine sx_run 4 (todo' := [.code (cd10 [1, 1, 1, 0, 0, 0, 1]), .inLoop (cd10 [1, 1, 1, 0, 0, 0]), .inBlock 0, .code (cd10 [1, 1, 1, 1])]) (us := [(26, .bool true)]) (by kernel_rfl) ?_
            refine Runs.fill (m := [some (.slice A39 t38.length c40), some (.slice A44 t43.length c45), some (.func (.func 11) #[] #[]), none, none, none, none, none, some (.slice A49 t48.length c50), none, none, none, none, none, none, none, none, none, none, none, none, none, none, none, none, none, none, none, none, none, none, none, none, none, none, none, none, none, none, none, none, none, none, none, none, none, none, none, none, none, none, none, none, none, none, none, none, none, none, none, none, none, none, none, none, none, none]) (by kernel_rfl) ?_
            exact J67 (Option.some.inj hp296) _ _ hS53
          · skip
            have hp297 := ite_f hp293 h295
            refine sx_run 4 (todo' := [.code (cd10 [1, 1, 1, 1])]) (us := [(26, .bool false)]) (by kernel_rfl) ?_
            refine Runs.fill (m := [none, none, none, none, none, none, none, none, some (.slice A49 t48.length c50), none, none, none, none, none, none, none, none, none, none, none, none, none, none, none, none, none, none, none, none, none, none, none, none, none, none, none, none, none, none, none, none, none, none, none, none, none, none, none, none, none, none, none, none, none, none, none, none, none, none, none, none, none, none, none, none, none, none]) (by kernel_rfl) ?_
            exact J34 t48 ((hq66 _ (Option.some.inj hp297)).trans he56) _ A49 c50 _ hS53
      have hS299 := hS17.nilrow none 25 49
      refine Runs.fill (m := [some (.slice Aa0 a0.length ca0), some (.slice Aa1 a1.length ca1), some (.func (.func 11) #[] #[]), none, none, none, none, none, some (.slice none 0 0), none, none, none, none, none, none, none, none, none, none, none, none, none, none, none, none, none, none, none, none, none, none, none, none, none, none, none, none, none, none, none, none, none, none, none, none, none, none, none, none, none, none, none, none, none, none, none, none, none, none, none, none, none, none, none, none, none, none]) (by kernel_rfl) ?_
      exact L60 a0 a1 [] _ hv26 rfl _ Aa0 ca0 Aa1 ca1 none 0 _ hS299 ha0 ha1

noncomputable def cd6 (p : List Nat) : Code := sub (bodyOf Try.f6) p
def state_Minus.f (a0 : List api_Final) (a1 : List api_Final) : Option ((List api_Final) × Int) :=
  (state_walk.f a0 a1 >>= (fun (t1, t2) => some ((t1, t2))))
set_option maxHeartbeats 16000000 in
theorem state_Minus.ok (a0 : List api_Final) (a1 : List api_Final) (Aa0 : Option Addr) (ca0 : Nat) (Aa1 : Option Addr) (ca1 : Nat) {w0 : World} {Z : Zm} {fs : List XObj} {w : World} (hS0 : St w0 Z (fs) w) (ha0 : SlZ (flat enc_api_Final) 49 Z Aa0 ca0 a0) (ha1 : SlZ (flat enc_api_Final) 49 Z Aa1 ca1 a1) {q0 : List api_Final} {q1 : Int} (hp0 : state_Minus.f a0 a1 = some (q0, q1)) :
    Calls Try.prog 6 #[.slice Aa0 a0.length ca0, .slice Aa1 a1.length ca1] w (fun e w' => ∃ (QA0 : Option Addr) (Qc0 : Nat), e = .returned (.tuple #[.slice QA0 q0.length Qc0, .int .i64 q1]) ∧ St w0 Z (xrow QA0 Qc0 25 49 (q0.flatMap enc_api_Final) :: fs) w') := by
  refine calls_abs ?_; intro R hR
  unfold state_Minus.f at hp0
  refine calls_of_runs (fn := Try.f6) (c := cd6 []) Try.func6 (by kernel_rfl) (al := [.slice Aa0 a0.length ca0, .slice Aa1 a1.length ca1]) rfl (n := 9) rfl ?_
  refine sx_run 9 (todo' := [.inRegion (opsOf (cd6 [1, 0])) [2, 3, 4, 5, 6], .code (cd6 [1, 1])]) (us := [(4, .slice none 0 0), (5, .int .i64 0), (6, .slice Aa0 a0.length ca0), (7, .slice Aa1 a1.length ca1)]) (by kernel_rfl) ?_
  obtain ⟨⟨t1, t2⟩, hr5, hp6⟩ := bind_some' hp0
  try dsimp only at hp6
  refine r_call1 (c := (cd6 [1, 0])) (i := 2) (d := (some 8)) (g := 10) (args := #[.slice Aa0 a0.length ca0, .slice Aa1 a1.length ca1, .func (.func 11) #[] #[]]) (by kernel_rfl) (by kernel_rfl) (by kernel_rfl) (by kernel_rfl) (state_walk.ok a0 a1 Aa0 ca0 Aa1 ca1 hS0 ha0 ha1 hr5) ?_
  rintro _ w8 ⟨Q3, Q4, rfl, hS9⟩
  refine ⟨.tuple #[.slice Q3 t1.length Q4, .int .i64 t2], rfl, ?_⟩
  refine sx_run 5 (todo' := [.code (cd6 [1, 1])]) (us := [(9, .slice Q3 t1.length Q4), (10, .int .i64 t2), (4, .slice Q3 t1.length Q4), (5, .int .i64 t2)]) (by kernel_rfl) ?_
  refine runs_ret (fn := Try.f6) (v := .tuple #[.slice Q3 t1.length Q4, .int .i64 t2]) Try.func6 (by kernel_rfl) ?_
  have hr10 := (Option.some.inj hp6)
  cases hr10
  exact hR _ _ ⟨Q3, Q4, rfl, hS9⟩

noncomputable def cd4 (p : List Nat) : Code := sub (bodyOf Try.f4) p
def verdict_Cross.f (a0 : List api_Final) (a1 : List api_Final) : Option (api_Final × Int × Int) :=
  (state_Minus.f a0 a1 >>= (fun (t5, t6) => (if (t6 != 0) = true then some (((⟨0, (Vector.replicate 48 0)⟩ : api_Final), 0, t6)) else (state_Minus.f a1 a0 >>= (fun (t24, t25) => (if (decide ((t5.length : Int) > 0)) = true then (if ((t24.length : Int) == 0) = true then (if 0 ≤ (0 : Int) ∧ (0 : Int) < (t5.length : Int) then some (((gt t5 (0 : Int)), 1, 0)) else none) else (if 0 ≤ (0 : Int) ∧ (0 : Int) < (t5.length : Int) then (if 0 ≤ (0 : Int) ∧ (0 : Int) < (t24.length : Int) then (state_Compare.f (gt t5 (0 : Int)) (gt t24 (0 : Int)) >>= (fun t67 => (if (decide (t67 < 0)) = true then (if 0 ≤ (0 : Int) ∧ (0 : Int) < (t5.length : Int) then some (((gt t5 (0 : Int)), 1, 0)) else none) else (if (decide ((t24.length : Int) > 0)) = true then (if 0 ≤ (0 : Int) ∧ (0 : Int) < (t24.length : Int) then some (((gt t24 (0 : Int)), 2, 0)) else none) else some (((⟨0, (Vector.replicate 48 0)⟩ : api_Final), 0, 0)))))) else none) else none)) else (if (decide ((t24.length : Int) > 0)) = true then (if 0 ≤ (0 : Int) ∧ (0 : Int) < (t24.length : Int) then some (((gt t24 (0 : Int)), 2, 0)) else none) else some (((⟨0, (Vector.replicate 48 0)⟩ : api_Final), 0, 0)))))))))
set_option maxHeartbeats 16000000 in
theorem verdict_Cross.ok (a0 : List api_Final) (a1 : List api_Final) (Aa0 : Option Addr) (ca0 : Nat) (Aa1 : Option Addr) (ca1 : Nat) {w0 : World} {Z : Zm} {fs : List XObj} {w : World} (hS0 : St w0 Z (fs) w) (ha0 : SlZ (flat enc_api_Final) 49 Z Aa0 ca0 a0) (ha1 : SlZ (flat enc_api_Final) 49 Z Aa1 ca1 a1) {q0 : api_Final} {q1 : Int} {q2 : Int} (hp0 : verdict_Cross.f a0 a1 = some (q0, q1, q2)) :
    Calls Try.prog 4 #[.slice Aa0 a0.length ca0, .slice Aa1 a1.length ca1] w (fun e w' => e = .returned (.tuple #[.agg (enc_api_Final q0).toArray, .int .i64 q1, .int .i64 q2]) ∧ St w0 Z (fs) w') := by
  refine calls_abs ?_; intro R hR
  unfold verdict_Cross.f at hp0
  refine calls_of_runs (fn := Try.f4) (c := cd4 []) Try.func4 (by kernel_rfl) (al := [.slice Aa0 a0.length ca0, .slice Aa1 a1.length ca1]) rfl (n := 55) rfl ?_
  refine sx_run 2 (todo' := [.inRegion (opsOf (cd4 [0])) [0, 1, 2], .code (cd4 [1])]) (us := []) (by kernel_rfl) ?_
  refine r_alloc (c := (cd4 [0])) (i := 0) (d := (some 4)) (ty := 0) (z := .agg (enc_api_Final (⟨0, (Vector.replicate 48 0)⟩ : api_Final)).toArray) (t := 25) (cs := enc_api_Final (⟨0, (Vector.replicate 48 0)⟩ : api_Final)) hS0 (by kernel_rfl) (by kernel_rfl) (by kernel_rfl) (by kernel_rfl) ?_
  intro b1 w2 hS3
  refine sx_run 7 (todo' := [.inRegion (opsOf (cd4 [1, 0])) [2, 3, 4, 5, 6, 7], .code (cd4 [1, 1])]) (us := [(5, .int .i64 0), (6, .int .i64 0), (12, .slice Aa0 a0.length ca0), (13, .slice Aa1 a1.length ca1)]) (by kernel_rfl) ?_
  obtain ⟨⟨t5, t6⟩, hr9, hp10⟩ := bind_some' hp0
  try dsimp only at hp10
  refine r_call1 (c := (cd4 [1, 0])) (i := 2) (d := (some 14)) (g := 6) (args := #[.slice Aa0 a0.length ca0, .slice Aa1 a1.length ca1]) (by kernel_rfl) (by kernel_rfl) (by kernel_rfl) (by kernel_rfl) (state_Minus.ok a0 a1 Aa0 ca0 Aa1 ca1 hS3 ha0 ha1 hr9) ?_
  rintro _ w12 ⟨Q7, Q8, rfl, hS13⟩
  refine ⟨.tuple #[.slice Q7 t5.length Q8, .int .i64 t6], rfl, ?_⟩
  refine sx_split 11 (todo' := [.inRegion (opsOf (cd4 [1, 1, 0, 0])) [], .code (cd4 [1, 1, 0, 1]), .code (cd4 [1, 1, 1])]) (us := [(11, .tuple #[.slice Q7 t5.length Q8, .int .i64 t6]), (15, .slice Q7 t5.length Q8), (16, .int .i64 t6), (7, .slice Q7 t5.length Q8), (8, .int .i64 t6), (17, .int .i64 t6)]) (d := 18) (t := (t6 != 0)) (by kernel_rfl) (fun h14 => ?_) (fun h15 => ?_)
  · skip
    have hp16 := ite_t hp10 h14
    refine sx_run 6 (todo' := [.inRegion (opsOf (cd4 [1, 1, 0, 1, 0, 0])) [2, 3, 4], .code (cd4 [1, 1, 0, 1, 0, 1]), .code (cd4 [1, 1, 1])]) (us := [(19, .agg (enc_api_Final (⟨0, (Vector.replicate 48 0)⟩ : api_Final)).toArray), (20, .int .i64 t6)]) (by kernel_rfl) ?_
    have hS17 := hS13.pick1
    refine r_store (c := (cd4 [1, 1, 0, 1, 0, 0])) (i := 2) (d := none) (ty := 0) (t := 25) (x := (.tmp 4)) (y := (.tmp 19)) (b := b1) (o := 0) (e := 25) (cs := enc_api_Final (⟨0, (Vector.replicate 48 0)⟩ : api_Final)) (v := .agg (enc_api_Final (⟨0, (Vector.replicate 48 0)⟩ : api_Final)).toArray) (vs := enc_api_Final (⟨0, (Vector.replicate 48 0)⟩ : api_Final)) (cs' := enc_api_Final (⟨0, (Vector.replicate 48 0)⟩ : api_Final)) hS17 (by kernel_rfl) (by kernel_rfl) (by kernel_rfl) (by kernel_rfl) (by kernel_rfl) (lenK (len_api_Final _) (by kernel_rfl)) (one_api_Final _) (by simp only [len_api_Final, List.length_cons, List.length_nil, List.length_append]; omega) (over_all ((len_api_Final _).trans (len_api_Final _).symm)) ?_
    intro w18 hS19
    refine sx_run 3 (todo' := [.code (cd4 [1, 1, 0, 1, 0, 1]), .code (cd4 [1, 1, 1])]) (us := [(5, .int .i64 0), (6, .int .i64 t6)]) (by kernel_rfl) ?_
    have hS20 := hS19.drop
    have hS21 := hS20.drop
    refine runs_ret (fn := Try.f4) (v := .tuple #[.agg (enc_api_Final (⟨0, (Vector.replicate 48 0)⟩ : api_Final)).toArray, .int .i64 0, .int .i64 t6]) Try.func4 (resl_run (fn := Try.f4) (by kernel_rfl) (.cell (t := 4) (ty := 25) (by kernel_rfl) (loads_agg (hS19.blk 0 rfl) (by kernel_rfl) (lenK (len_api_Final _) (by kernel_rfl))) (.tmp (t := 5) (by kernel_rfl) (.tmp (t := 6) (by kernel_rfl) .nil)))) ?_
    have hr22 := (Option.some.inj hp16)
    cases hr22
    exact hR _ _ ⟨rfl, hS21⟩
  · skip
    have hp23 := ite_f hp10 h15
    refine sx_run 7 (todo' := [.inRegion (opsOf (cd4 [1, 1, 1, 0])) [2, 3, 4, 5, 6, 7], .code (cd4 [1, 1, 1, 1])]) (us := [(22, .slice Aa1 a1.length ca1), (23, .slice Aa0 a0.length ca0)]) (by kernel_rfl) ?_
    obtain ⟨⟨t24, t25⟩, hr28, hp29⟩ := bind_some' hp23
    try dsimp only at hp29
    refine r_call1 (c := (cd4 [1, 1, 1, 0])) (i := 2) (d := (some 24)) (g := 6) (args := #[.slice Aa1 a1.length ca1, .slice Aa0 a0.length ca0]) (by kernel_rfl) (by kernel_rfl) (by kernel_rfl) (by kernel_rfl) (state_Minus.ok a1 a0 Aa1 ca1 Aa0 ca0 hS13 ha1 ha0 hr28) ?_
    rintro _ w31 ⟨Q26, Q27, rfl, hS32⟩
    refine ⟨.tuple #[.slice Q26 t24.length Q27, .int .i64 t25], rfl, ?_⟩
    refine sx_run 9 (todo' := [.code (cd4 [1, 1, 1, 1, 0, 0, 0]), .code (cd4 [1, 1, 1, 1, 0, 0, 1]), .inBlock 0, .code (cd4 [1, 1, 1, 1, 1])]) (us := [(21, .tuple #[.slice Q26 t24.length Q27, .int .i64 t25]), (25, .slice Q26 t24.length Q27), (26, .int .i64 t25), (9, .slice Q26 t24.length Q27), (10, .int .i64 t25)]) (by kernel_rfl) ?_
    refine r_quiet hS32 (c := (cd4 [1, 1, 1, 1, 0, 0, 0])) (id := 5) (by kernel_rfl) (by kernel_rfl) (by kernel_rfl) (is := [0, 1, 2, 3, 4, 5, 6, 7, 8, 9, 10, 11, 12, 13, 14, 15, 16, 17, 18]) (by kernel_rfl) ?_
    refine q_splitr 3 (is' := [3, 4, 5, 6, 7, 8, 9, 10, 11, 12, 13, 14, 15, 16, 17, 18]) (us := [(28, .slice Q7 t5.length Q8), (29, .int .i64 (t5.length : Int))]) (d := 30) (t := (decide ((t5.length : Int) > 0))) (by kernel_rfl) (fun h33 => ?_) (fun h34 => ?_)
    · skip
      have hp35 := ite_t hp29 h33
      refine q_splitr 4 (is' := [7, 8, 9, 10, 11, 12, 13, 14, 15, 16, 17, 18]) (us := [(31, .bool true), (32, .slice Q26 t24.length Q27), (33, .int .i64 (t24.length : Int))]) (d := 34) (t := ((t24.length : Int) == 0)) (by kernel_rfl) (fun h36 => ?_) (fun h37 => ?_)
      · skip
        have hp38 := ite_t hp35 h36
        refine q_run 12 (is' := []) (us := [(35, .bool true), (36, undef), (37, undef), (38, undef), (39, undef), (40, undef), (41, undef), (42, undef), (43, undef), (44, .bool true), (45, .bool true), (27, .bool true)]) (by kernel_rfl) ?_
        refine Qs.nil ?_
        intro w39 hS40
        refine sx_run 4 (todo' := [.inRegion (opsOf (cd4 [1, 1, 1, 1, 0, 0, 1, 0, 0])) [1, 2, 3, 4, 5], .code (cd4 [1, 1, 1, 1, 0, 0, 1, 0, 1]), .inBlock 0, .code (cd4 [1, 1, 1, 1, 1])]) (us := [(46, .slice Q7 t5.length Q8)]) (by kernel_rfl) ?_
        obtain ⟨g41, hp42⟩ := ite_some hp38
        obtain ⟨b43, p44, hA45, -⟩ := (hS40.row 1 rfl).at_ len_api_Final (by omega) g41.1 g41.2
        refine r_indexAddr (c := (cd4 [1, 1, 1, 1, 0, 0, 1, 0, 0])) (i := 1) (d := (some 47)) (ty := 0) (t := 22) (e := 25) (n := t5.length) (cp := Q8) (sz := 49) (kk := .i64) (x := (.tmp 46)) (y := (.const (.int .i64 0))) (b := b43) (o' := p44) (j := (0 : Int)) (by kernel_rfl) (by kernel_rfl) (slv (by kernel_rfl) hA45) (by kernel_rfl) (by kernel_rfl) (by kernel_rfl) g41.1 g41.2 ?_
        refine r_load (c := (cd4 [1, 1, 1, 1, 0, 0, 1, 0, 0])) (i := 2) (d := (some 48)) (ty := 25) (t := 25) (x := (.tmp 47)) (p := ⟨b43, p44 + (0 : Int).toNat * 49, none⟩) (v := .agg (enc_api_Final (gt t5 (0 : Int))).toArray) (by kernel_rfl) (by kernel_rfl) (by kernel_rfl) (loads_agg ((hS40.row 1 rfl).at2 hA45 len_api_Final (by omega) g41.1 g41.2) (by kernel_rfl) (lenK (len_api_Final _) (by kernel_rfl))) ?_
        have hS47 := hS40.pick2
        refine r_store (c := (cd4 [1, 1, 1, 1, 0, 0, 1, 0, 0])) (i := 3) (d := none) (ty := 0) (t := 25) (x := (.tmp 4)) (y := (.tmp 48)) (b := b1) (o := 0) (e := 25) (cs := enc_api_Final (⟨0, (Vector.replicate 48 0)⟩ : api_Final)) (v := .agg (enc_api_Final (gt t5 (0 : Int))).toArray) (vs := enc_api_Final (gt t5 (0 : Int))) (cs' := enc_api_Final (gt t5 (0 : Int))) hS47 (by kernel_rfl) (by kernel_rfl) (by kernel_rfl) (by kernel_rfl) (by kernel_rfl) (lenK (len_api_Final _) (by kernel_rfl)) (one_api_Final _) (by simp only [len_api_Final, List.length_cons, List.length_nil, List.length_append]; omega) (over_all ((len_api_Final _).trans (len_api_Final _).symm)) ?_
        intro w48 hS49
        refine sx_run 3 (todo' := [.code (cd4 [1, 1, 1, 1, 0, 0, 1, 0, 1]), .inBlock 0, .code (cd4 [1, 1, 1, 1, 1])]) (us := [(5, .int .i64 1), (6, .int .i64 0)]) (by kernel_rfl) ?_
        have hS50 := hS49.drop
        have hS51 := hS50.drop
        have hS52 := hS51.drop
        refine runs_ret (fn := Try.f4) (v := .tuple #[.agg (enc_api_Final (gt t5 (0 : Int))).toArray, .int .i64 1, .int .i64 0]) Try.func4 (resl_run (fn := Try.f4) (by kernel_rfl) (.cell (t := 4) (ty := 25) (by kernel_rfl) (loads_agg (hS49.blk 0 rfl) (by kernel_rfl) (lenK (len_api_Final _) (by kernel_rfl))) (.tmp (t := 5) (by kernel_rfl) (.tmp (t := 6) (by kernel_rfl) .nil)))) ?_
        have hr53 := (Option.some.inj hp42)
        cases hr53
        exact hR _ _ ⟨rfl, hS52⟩
      · skip
        have hp54 := ite_f hp35 h37
        refine q_run 2 (is' := [9, 10, 11, 12, 13, 14, 15, 16, 17, 18]) (us := [(35, .bool false), (36, .slice Q7 t5.length Q8)]) (by kernel_rfl) ?_
        obtain ⟨g55, hp56⟩ := ite_some hp54
        obtain ⟨b57, p58, hA59, -⟩ := (hS32.row 1 rfl).at_ len_api_Final (by omega) g55.1 g55.2
        refine q_indexAddr (c := (cd4 [1, 1, 1, 1, 0, 0, 0])) (i := 9) (d := (some 37)) (ty := 0) (t := 22) (e := 25) (n := t5.length) (cp := Q8) (sz := 49) (kk := .i64) (x := (.tmp 36)) (y := (.const (.int .i64 0))) (b := b57) (o' := p58) (j := (0 : Int)) (by kernel_rfl) (by kernel_rfl) (slv (by kernel_rfl) hA59) (by kernel_rfl) (by kernel_rfl) (by kernel_rfl) g55.1 g55.2 ?_
        refine q_load (c := (cd4 [1, 1, 1, 1, 0, 0, 0])) (i := 10) (d := (some 38)) (ty := 25) (t := 25) (x := (.tmp 37)) (p := ⟨b57, p58 + (0 : Int).toNat * 49, none⟩) (v := .agg (enc_api_Final (gt t5 (0 : Int))).toArray) (by kernel_rfl) (by kernel_rfl) (by kernel_rfl) (fun w hC => (loads_agg ((hC.row 1 rfl).at2 hA59 len_api_Final (by omega) g55.1 g55.2) (by kernel_rfl) (lenK (len_api_Final _) (by kernel_rfl)))) ?_
        refine q_run 1 (is' := [12, 13, 14, 15, 16, 17, 18]) (us := [(39, .slice Q26 t24.length Q27)]) (by kernel_rfl) ?_
        obtain ⟨g61, hp62⟩ := ite_some hp56
        obtain ⟨b63, p64, hA65, -⟩ := (hS32.row 0 rfl).at_ len_api_Final (by omega) g61.1 g61.2
        refine q_indexAddr (c := (cd4 [1, 1, 1, 1, 0, 0, 0])) (i := 12) (d := (some 40)) (ty := 0) (t := 22) (e := 25) (n := t24.length) (cp := Q27) (sz := 49) (kk := .i64) (x := (.tmp 39)) (y := (.const (.int .i64 0))) (b := b63) (o' := p64) (j := (0 : Int)) (by kernel_rfl) (by kernel_rfl) (slv (by kernel_rfl) hA65) (by kernel_rfl) (by kernel_rfl) (by kernel_rfl) g61.1 g61.2 ?_
        refine q_load (c := (cd4 [1, 1, 1, 1, 0, 0, 0])) (i := 13) (d := (some 41)) (ty := 25) (t := 25) (x := (.tmp 40)) (p := ⟨b63, p64 + (0 : Int).toNat * 49, none⟩) (v := .agg (enc_api_Final (gt t24 (0 : Int))).toArray) (by kernel_rfl) (by kernel_rfl) (by kernel_rfl) (fun w hC => (loads_agg ((hC.row 0 rfl).at2 hA65 len_api_Final (by omega) g61.1 g61.2) (by kernel_rfl) (lenK (len_api_Final _) (by kernel_rfl)))) ?_
        obtain ⟨t67, hr68, hp69⟩ := bind_some' hp62
        refine q_call1 (c := (cd4 [1, 1, 1, 1, 0, 0, 0])) (i := 14) (d := (some 42)) (v := .int .i64 t67) (g := 7) (args := #[.agg (enc_api_Final (gt t5 (0 : Int))).toArray, .agg (enc_api_Final (gt t24 (0 : Int))).toArray]) (by kernel_rfl) (by kernel_rfl) (by kernel_rfl) (by kernel_rfl) (fun w hC => by
          refine (state_Compare.ok (gt t5 (0 : Int)) (gt t24 (0 : Int)) hC hr68).mono ?_
          rintro e w2 ⟨rfl, h2⟩
          have hS70 := h2.pick2
          have hS71 := hS70.pick2
          have hS72 := hS71.pick2
          exact ⟨rfl, hS72⟩) ?_
        refine q_splitr 1 (is' := [16, 17, 18]) (us := []) (d := 43) (t := (decide (t67 < 0))) (by kernel_rfl) (fun h73 => ?_) (fun h74 => ?_)
        · skip
          have hp75 := ite_t hp69 h73
          refine q_run 3 (is' := []) (us := [(44, .bool true), (45, .bool true), (27, .bool true)]) (by kernel_rfl) ?_
          refine Qs.nil ?_
          intro w76 hS77
          refine sx_run 4 (todo' := [.inRegion (opsOf (cd4 [1, 1, 1, 1, 0, 0, 1, 0, 0])) [1, 2, 3, 4, 5], .code (cd4 [1, 1, 1, 1, 0, 0, 1, 0, 1]), .inBlock 0, .code (cd4 [1, 1, 1, 1, 1])]) (us := [(46, .slice Q7 t5.length Q8)]) (by kernel_rfl) ?_
          obtain ⟨g78, hp79⟩ := ite_some hp75
          obtain ⟨b80, p81, hA82, -⟩ := (hS77.row 1 rfl).at_ len_api_Final (by omega) g78.1 g78.2
          refine r_indexAddr (c := (cd4 [1, 1, 1, 1, 0, 0, 1, 0, 0])) (i := 1) (d := (some 47)) (ty := 0) (t := 22) (e := 25) (n := t5.length) (cp := Q8) (sz := 49) (kk := .i64) (x := (.tmp 46)) (y := (.const (.int .i64 0))) (b := b80) (o' := p81) (j := (0 : Int)) (by kernel_rfl) (by kernel_rfl) (slv (by kernel_rfl) hA82) (by kernel_rfl) (by kernel_rfl) (by kernel_rfl) g78.1 g78.2 ?_
          refine r_load (c := (cd4 [1, 1, 1, 1, 0, 0, 1, 0, 0])) (i := 2) (d := (some 48)) (ty := 25) (t := 25) (x := (.tmp 47)) (p := ⟨b80, p81 + (0 : Int).toNat * 49, none⟩) (v := .agg (enc_api_Final (gt t5 (0 : Int))).toArray) (by kernel_rfl) (by kernel_rfl) (by kernel_rfl) (loads_agg ((hS77.row 1 rfl).at2 hA82 len_api_Final (by omega) g78.1 g78.2) (by kernel_rfl) (lenK (len_api_Final _) (by kernel_rfl))) ?_
          have hS84 := hS77.pick2
          refine r_store (c := (cd4 [1, 1, 1, 1, 0, 0, 1, 0, 0])) (i := 3) (d := none) (ty := 0) (t := 25) (x := (.tmp 4)) (y := (.tmp 48)) (b := b1) (o := 0) (e := 25) (cs := enc_api_Final (⟨0, (Vector.replicate 48 0)⟩ : api_Final)) (v := .agg (enc_api_Final (gt t5 (0 : Int))).toArray) (vs := enc_api_Final (gt t5 (0 : Int))) (cs' := enc_api_Final (gt t5 (0 : Int))) hS84 (by kernel_rfl) (by kernel_rfl) (by kernel_rfl) (by kernel_rfl) (by kernel_rfl) (lenK (len_api_Final _) (by kernel_rfl)) (one_api_Final _) (by simp only [len_api_Final, List.length_cons, List.length_nil, List.length_append]; omega) (over_all ((len_api_Final _).trans (len_api_Final _).symm)) ?_
          intro w85 hS86
          refine sx_run 3 (todo' := [.code (cd4 [1, 1, 1, 1, 0, 0, 1, 0, 1]), .inBlock 0, .code (cd4 [1, 1, 1, 1, 1])]) (us := [(5, .int .i64 1), (6, .int .i64 0)]) (by kernel_rfl) ?_
          have hS87 := hS86.drop
          have hS88 := hS87.drop
          have hS89 := hS88.drop
          refine runs_ret (fn := Try.f4) (v := .tuple #[.agg (enc_api_Final (gt t5 (0 : Int))).toArray, .int .i64 1, .int .i64 0]) Try.func4 (resl_run (fn := Try.f4) (by kernel_rfl) (.cell (t := 4) (ty := 25) (by kernel_rfl) (loads_agg (hS86.blk 0 rfl) (by kernel_rfl) (lenK (len_api_Final _) (by kernel_rfl))) (.tmp (t := 5) (by kernel_rfl) (.tmp (t := 6) (by kernel_rfl) .nil)))) ?_
          have hr90 := (Option.some.inj hp79)
          cases hr90
          exact hR _ _ ⟨rfl, hS89⟩
        · skip
          have hp91 := ite_f hp69 h74
          refine q_run 3 (is' := []) (us := [(44, .bool false), (45, .bool false), (27, .bool false)]) (by kernel_rfl) ?_
          refine Qs.nil ?_
          intro w92 hS93
          refine sx_split 6 (todo' := [.inRegion (opsOf (cd4 [1, 1, 1, 1, 0, 0, 1, 1, 0])) [3], .code (cd4 [1, 1, 1, 1, 0, 0, 1, 1, 1]), .inBlock 0, .code (cd4 [1, 1, 1, 1, 1])]) (us := [(50, .slice Q26 t24.length Q27), (51, .int .i64 (t24.length : Int))]) (d := 52) (t := (decide ((t24.length : Int) > 0))) (by kernel_rfl) (fun h94 => ?_) (fun h95 => ?_)
          · skip
            have hp96 := ite_t hp91 h94
            refine sx_run 6 (todo' := [.inRegion (opsOf (cd4 [1, 1, 1, 1, 0, 0, 1, 1, 1, 0, 0])) [1, 2, 3, 4, 5], .code (cd4 [1, 1, 1, 1, 0, 0, 1, 1, 1, 0, 1]), .inBlock 0, .code (cd4 [1, 1, 1, 1, 1])]) (us := [(49, .bool true), (53, .slice Q26 t24.length Q27)]) (by kernel_rfl) ?_
            obtain ⟨g97, hp98⟩ := ite_some hp96
            obtain ⟨b99, p100, hA101, -⟩ := (hS93.row 0 rfl).at_ len_api_Final (by omega) g97.1 g97.2
            refine r_indexAddr (c := (cd4 [1, 1, 1, 1, 0, 0, 1, 1, 1, 0, 0])) (i := 1) (d := (some 54)) (ty := 0) (t := 22) (e := 25) (n := t24.length) (cp := Q27) (sz := 49) (kk := .i64) (x := (.tmp 53)) (y := (.const (.int .i64 0))) (b := b99) (o' := p100) (j := (0 : Int)) (by kernel_rfl) (by kernel_rfl) (slv (by kernel_rfl) hA101) (by kernel_rfl) (by kernel_rfl) (by kernel_rfl) g97.1 g97.2 ?_
            refine r_load (c := (cd4 [1, 1, 1, 1, 0, 0, 1, 1, 1, 0, 0])) (i := 2) (d := (some 55)) (ty := 25) (t := 25) (x := (.tmp 54)) (p := ⟨b99, p100 + (0 : Int).toNat * 49, none⟩) (v := .agg (enc_api_Final (gt t24 (0 : Int))).toArray) (by kernel_rfl) (by kernel_rfl) (by kernel_rfl) (loads_agg ((hS93.row 0 rfl).at2 hA101 len_api_Final (by omega) g97.1 g97.2) (by kernel_rfl) (lenK (len_api_Final _) (by kernel_rfl))) ?_
            have hS103 := hS93.pick2
            refine r_store (c := (cd4 [1, 1, 1, 1, 0, 0, 1, 1, 1, 0, 0])) (i := 3) (d := none) (ty := 0) (t := 25) (x := (.tmp 4)) (y := (.tmp 55)) (b := b1) (o := 0) (e := 25) (cs := enc_api_Final (⟨0, (Vector.replicate 48 0)⟩ : api_Final)) (v := .agg (enc_api_Final (gt t24 (0 : Int))).toArray) (vs := enc_api_Final (gt t24 (0 : Int))) (cs' := enc_api_Final (gt t24 (0 : Int))) hS103 (by kernel_rfl) (by kernel_rfl) (by kernel_rfl) (by kernel_rfl) (by kernel_rfl) (lenK (len_api_Final _) (by kernel_rfl)) (one_api_Final _) (by simp only [len_api_Final, List.length_cons, List.length_nil, List.length_append]; omega) (over_all ((len_api_Final _).trans (len_api_Final _).symm)) ?_
            intro w104 hS105
            refine sx_run 3 (todo' := [.code (cd4 [1, 1, 1, 1, 0, 0, 1, 1, 1, 0, 1]), .inBlock 0, .code (cd4 [1, 1, 1, 1, 1])]) (us := [(5, .int .i64 2), (6, .int .i64 0)]) (by kernel_rfl) ?_
            have hS106 := hS105.drop
            have hS107 := hS106.drop
            have hS108 := hS107.drop
            refine runs_ret (fn := Try.f4) (v := .tuple #[.agg (enc_api_Final (gt t24 (0 : Int))).toArray, .int .i64 2, .int .i64 0]) Try.func4 (resl_run (fn := Try.f4) (by kernel_rfl) (.cell (t := 4) (ty := 25) (by kernel_rfl) (loads_agg (hS105.blk 0 rfl) (by kernel_rfl) (lenK (len_api_Final _) (by kernel_rfl))) (.tmp (t := 5) (by kernel_rfl) (.tmp (t := 6) (by kernel_rfl) .nil)))) ?_
            have hr109 := (Option.some.inj hp98)
            cases hr109
            exact hR _ _ ⟨rfl, hS108⟩
          · skip
            have hp110 := ite_f hp91 h95
            refine sx_run 8 (todo' := [.inRegion (opsOf (cd4 [1, 1, 1, 1, 1, 0])) [1, 2, 3], .code (cd4 [1, 1, 1, 1, 1, 1])]) (us := [(49, .bool false), (56, .agg (enc_api_Final (⟨0, (Vector.replicate 48 0)⟩ : api_Final)).toArray)]) (by kernel_rfl) ?_
            have hS111 := hS93.pick2
            refine r_store (c := (cd4 [1, 1, 1, 1, 1, 0])) (i := 1) (d := none) (ty := 0) (t := 25) (x := (.tmp 4)) (y := (.tmp 56)) (b := b1) (o := 0) (e := 25) (cs := enc_api_Final (⟨0, (Vector.replicate 48 0)⟩ : api_Final)) (v := .agg (enc_api_Final (⟨0, (Vector.replicate 48 0)⟩ : api_Final)).toArray) (vs := enc_api_Final (⟨0, (Vector.replicate 48 0)⟩ : api_Final)) (cs' := enc_api_Final (⟨0, (Vector.replicate 48 0)⟩ : api_Final)) hS111 (by kernel_rfl) (by kernel_rfl) (by kernel_rfl) (by kernel_rfl) (by kernel_rfl) (lenK (len_api_Final _) (by kernel_rfl)) (one_api_Final _) (by simp only [len_api_Final, List.length_cons, List.length_nil, List.length_append]; omega) (over_all ((len_api_Final _).trans (len_api_Final _).symm)) ?_
            intro w112 hS113
            refine sx_run 3 (todo' := [.code (cd4 [1, 1, 1, 1, 1, 1])]) (us := [(5, .int .i64 0), (6, .int .i64 0)]) (by kernel_rfl) ?_
            have hS114 := hS113.drop
            have hS115 := hS114.drop
            have hS116 := hS115.drop
            refine runs_ret (fn := Try.f4) (v := .tuple #[.agg (enc_api_Final (⟨0, (Vector.replicate 48 0)⟩ : api_Final)).toArray, .int .i64 0, .int .i64 0]) Try.func4 (resl_run (fn := Try.f4) (by kernel_rfl) (.cell (t := 4) (ty := 25) (by kernel_rfl) (loads_agg (hS113.blk 0 rfl) (by kernel_rfl) (lenK (len_api_Final _) (by kernel_rfl))) (.tmp (t := 5) (by kernel_rfl) (.tmp (t := 6) (by kernel_rfl) .nil)))) ?_
            have hr117 := (Option.some.inj hp110)
            cases hr117
            exact hR _ _ ⟨rfl, hS116⟩
    · skip
      have hp118 := ite_f hp29 h34
      refine q_run 16 (is' := []) (us := [(31, .bool false), (32, undef), (33, undef), (34, undef), (35, undef), (36, undef), (37, undef), (38, undef), (39, undef), (40, undef), (41, undef), (42, undef), (43, undef), (44, undef), (45, .bool false), (27, .bool false)]) (by kernel_rfl) ?_
      refine Qs.nil ?_
      intro w119 hS120
      refine sx_split 6 (todo' := [.inRegion (opsOf (cd4 [1, 1, 1, 1, 0, 0, 1, 1, 0])) [3], .code (cd4 [1, 1, 1, 1, 0, 0, 1, 1, 1]), .inBlock 0, .code (cd4 [1, 1, 1, 1, 1])]) (us := [(50, .slice Q26 t24.length Q27), (51, .int .i64 (t24.length : Int))]) (d := 52) (t := (decide ((t24.length : Int) > 0))) (by kernel_rfl) (fun h121 => ?_) (fun h122 => ?_)
      · skip
        have hp123 := ite_t hp118 h121
        refine sx_run 6 (todo' := [.inRegion (opsOf (cd4 [1, 1, 1, 1, 0, 0, 1, 1, 1, 0, 0])) [1, 2, 3, 4, 5], .code (cd4 [1, 1, 1, 1, 0, 0, 1, 1, 1, 0, 1]), .inBlock 0, .code (cd4 [1, 1, 1, 1, 1])]) (us := [(49, .bool true), (53, .slice Q26 t24.length Q27)]) (by kernel_rfl) ?_
        obtain ⟨g124, hp125⟩ := ite_some hp123
        obtain ⟨b126, p127, hA128, -⟩ := (hS120.row 0 rfl).at_ len_api_Final (by omega) g124.1 g124.2
        refine r_indexAddr (c := (cd4 [1, 1, 1, 1, 0, 0, 1, 1, 1, 0, 0])) (i := 1) (d := (some 54)) (ty := 0) (t := 22) (e := 25) (n := t24.length) (cp := Q27) (sz := 49) (kk := .i64) (x := (.tmp 53)) (y := (.const (.int .i64 0))) (b := b126) (o' := p127) (j := (0 : Int)) (by kernel_rfl) (by kernel_rfl) (slv (by kernel_rfl) hA128) (by kernel_rfl) (by kernel_rfl) (by kernel_rfl) g124.1 g124.2 ?_
        refine r_load (c := (cd4 [1, 1, 1, 1, 0, 0, 1, 1, 1, 0, 0])) (i := 2) (d := (some 55)) (ty := 25) (t := 25) (x := (.tmp 54)) (p := ⟨b126, p127 + (0 : Int).toNat * 49, none⟩) (v := .agg (enc_api_Final (gt t24 (0 : Int))).toArray) (by kernel_rfl) (by kernel_rfl) (by kernel_rfl) (loads_agg ((hS120.row 0 rfl).at2 hA128 len_api_Final (by omega) g124.1 g124.2) (by kernel_rfl) (lenK (len_api_Final _) (by kernel_rfl))) ?_
        have hS130 := hS120.pick2
        refine r_store (c := (cd4 [1, 1, 1, 1, 0, 0, 1, 1, 1, 0, 0])) (i := 3) (d := none) (ty := 0) (t := 25) (x := (.tmp 4)) (y := (.tmp 55)) (b := b1) (o := 0) (e := 25) (cs := enc_api_Final (⟨0, (Vector.replicate 48 0)⟩ : api_Final)) (v := .agg (enc_api_Final (gt t24 (0 : Int))).toArray) (vs := enc_api_Final (gt t24 (0 : Int))) (cs' := enc_api_Final (gt t24 (0 : Int))) hS130 (by kernel_rfl) (by kernel_rfl) (by kernel_rfl) (by kernel_rfl) (by kernel_rfl) (lenK (len_api_Final _) (by kernel_rfl)) (one_api_Final _) (by simp only [len_api_Final, List.length_cons, List.length_nil, List.length_append]; omega) (over_all ((len_api_Final _).trans (len_api_Final _).symm)) ?_
        intro w131 hS132
        refine sx_run 3 (todo' := [.code (cd4 [1, 1, 1, 1, 0, 0, 1, 1, 1, 0, 1]), .inBlock 0, .code (cd4 [1, 1, 1, 1, 1])]) (us := [(5, .int .i64 2), (6, .int .i64 0)]) (by kernel_rfl) ?_
        have hS133 := hS132.drop
        have hS134 := hS133.drop
        have hS135 := hS134.drop
        refine runs_ret (fn := Try.f4) (v := .tuple #[.agg (enc_api_Final (gt t24 (0 : Int))).toArray, .int .i64 2, .int .i64 0]) Try.func4 (resl_run (fn := Try.f4) (by kernel_rfl) (.cell (t := 4) (ty := 25) (by kernel_rfl) (loads_agg (hS132.blk 0 rfl) (by kernel_rfl) (lenK (len_api_Final _) (by kernel_rfl))) (.tmp (t := 5) (by kernel_rfl) (.tmp (t := 6) (by kernel_rfl) .nil)))) ?_
        have hr136 := (Option.some.inj hp125)
        cases hr136
        exact hR _ _ ⟨rfl, hS135⟩
      · skip
        have hp137 := ite_f hp118 h122
        refine sx_run 8 (todo' := [.inRegion (opsOf (cd4 [1, 1, 1, 1, 1, 0])) [1, 2, 3], .code (cd4 [1, 1, 1, 1, 1, 1])]) (us := [(49, .bool false), (56, .agg (enc_api_Final (⟨0, (Vector.replicate 48 0)⟩ : api_Final)).toArray)]) (by kernel_rfl) ?_
        have hS138 := hS120.pick2
        refine r_store (c := (cd4 [1, 1, 1, 1, 1, 0])) (i := 1) (d := none) (ty := 0) (t := 25) (x := (.tmp 4)) (y := (.tmp 56)) (b := b1) (o := 0) (e := 25) (cs := enc_api_Final (⟨0, (Vector.replicate 48 0)⟩ : api_Final)) (v := .agg (enc_api_Final (⟨0, (Vector.replicate 48 0)⟩ : api_Final)).toArray) (vs := enc_api_Final (⟨0, (Vector.replicate 48 0)⟩ : api_Final)) (cs' := enc_api_Final (⟨0, (Vector.replicate 48 0)⟩ : api_Final)) hS138 (by kernel_rfl) (by kernel_rfl) (by kernel_rfl) (by kernel_rfl) (by kernel_rfl) (lenK (len_api_Final _) (by kernel_rfl)) (one_api_Final _) (by simp only [len_api_Final, List.length_cons, List.length_nil, List.length_append]; omega) (over_all ((len_api_Final _).trans (len_api_Final _).symm)) ?_
        intro w139 hS140
        refine sx_run 3 (todo' := [.code (cd4 [1, 1, 1, 1, 1, 1])]) (us := [(5, .int .i64 0), (6, .int .i64 0)]) (by kernel_rfl) ?_
        have hS141 := hS140.drop
        have hS142 := hS141.drop
        have hS143 := hS142.drop
        refine runs_ret (fn := Try.f4) (v := .tuple #[.agg (enc_api_Final (⟨0, (Vector.replicate 48 0)⟩ : api_Final)).toArray, .int .i64 0, .int .i64 0]) Try.func4 (resl_run (fn := Try.f4) (by kernel_rfl) (.cell (t := 4) (ty := 25) (by kernel_rfl) (loads_agg (hS140.blk 0 rfl) (by kernel_rfl) (lenK (len_api_Final _) (by kernel_rfl))) (.tmp (t := 5) (by kernel_rfl) (.tmp (t := 6) (by kernel_rfl) .nil)))) ?_
        have hr144 := (Option.some.inj hp137)
        cases hr144
        exact hR _ _ ⟨rfl, hS143⟩

noncomputable def cd13 (p : List Nat) : Code := sub (bodyOf Try.f13) p
def weirref10_Check.l0 (a0 : api_Final) (t27 : Int) : Option (Sum Unit Int) :=
  (if (decide (t27 < 48)) = true then (if 0 ≤ t27 ∧ t27 < 48 then (if ((vget a0.V t27) != 0) = true then some (.inr (4)) else (weirref10_Check.l0 a0 (IntKind.i64.wrap (t27 + 1)))) else none) else some (.inl ()))
 partial_fixpoint
def weirref10_Check.f (a0 : api_Final) : Option Int :=
  (if (decide (a0.N < 0)) = true then some (4) else (if (decide (a0.N > 48)) = true then some (4) else (weirref10_Check.l0 a0 a0.N >>= (fun | .inl () => some (0) | .inr e => some e))))
set_option maxHeartbeats 16000000 in
theorem weirref10_Check.ok (a0 : api_Final) {w0 : World} {Z : Zm} {fs : List XObj} {w : World} (hS0 : St w0 Z (fs) w) {q0 : Int} (hp0 : weirref10_Check.f a0 = some q0) :
    Calls Try.prog 13 #[.agg (enc_api_Final a0).toArray] w (fun e w' => e = .returned (.int .i64 q0) ∧ St w0 Z (fs) w') := by
  refine calls_abs ?_; intro R hR
  unfold weirref10_Check.f at hp0
  refine calls_of_runs (fn := Try.f13) (c := cd13 []) Try.func13 (by kernel_rfl) (al := [.agg (enc_api_Final a0).toArray]) rfl (n := 22) rfl ?_
  refine sx_run 2 (todo' := [.inRegion (opsOf (cd13 [0])) [0, 1], .code (cd13 [1])]) (us := []) (by kernel_rfl) ?_
  refine r_box (c := (cd13 [0])) (i := 0) (d := (some 1)) (ty := 0) (x := (.tmp 0)) (v := .agg (enc_api_Final a0).toArray) (t := 25) (cs := enc_api_Final a0) hS0 (by kernel_rfl) (by kernel_rfl) (by kernel_rfl) (by kernel_rfl) ?_
  intro b1 w2 hS3
  refine sx_run 6 (todo' := [.inRegion (opsOf (cd13 [1, 0, 0])) [1, 2, 3, 4, 5, 6, 7], .code (cd13 [1, 0, 1]), .code (cd13 [1, 1])]) (us := [(2, .int .i64 0), (4, .pointer (some ⟨b1, 0, none⟩))]) (by kernel_rfl) ?_
  refine r_load (c := (cd13 [1, 0, 0])) (i := 1) (d := (some 5)) (ty := 3) (t := 3) (x := (.tmp 4)) (p := ⟨b1, 0, none⟩) (v := .int .i64 a0.N) (by kernel_rfl) (by kernel_rfl) (by kernel_rfl) (loads_at 0 (hS3.blk 0 rfl) (by kernel_rfl) (by kernel_rfl)) ?_
  refine sx_split 1 (todo' := [.inRegion (opsOf (cd13 [1, 0, 0])) [3, 4, 5, 6, 7], .code (cd13 [1, 0, 1]), .code (cd13 [1, 1])]) (us := []) (d := 6) (t := (decide (a0.N < 0))) (by kernel_rfl) (fun h5 => ?_) (fun h6 => ?_)
  · skip
    have hp7 := ite_t hp0 h5
    refine sx_run 11 (todo' := [.code (cd13 [1, 0, 1, 0, 1]), .code (cd13 [1, 1])]) (us := [(7, .bool true), (8, undef), (9, undef), (10, undef), (11, .bool true), (2, .int .i64 4)]) (by kernel_rfl) ?_
    have hS8 := hS3.drop
    refine runs_ret (fn := Try.f13) (v := .int .i64 4) Try.func13 (by kernel_rfl) ?_
    have hr9 := (Option.some.inj hp7)
    cases hr9
    exact hR _ _ ⟨rfl, hS8⟩
  · skip
    have hp10 := ite_f hp0 h6
    refine sx_run 2 (todo' := [.inRegion (opsOf (cd13 [1, 0, 0])) [5, 6, 7], .code (cd13 [1, 0, 1]), .code (cd13 [1, 1])]) (us := [(7, .bool false), (8, .pointer (some ⟨b1, 0, none⟩))]) (by kernel_rfl) ?_
    refine r_load (c := (cd13 [1, 0, 0])) (i := 5) (d := (some 9)) (ty := 3) (t := 3) (x := (.tmp 8)) (p := ⟨b1, 0, none⟩) (v := .int .i64 a0.N) (by kernel_rfl) (by kernel_rfl) (by kernel_rfl) (loads_at 0 (hS3.blk 0 rfl) (by kernel_rfl) (by kernel_rfl)) ?_
    refine sx_split 1 (todo' := [.inRegion (opsOf (cd13 [1, 0, 0])) [7], .code (cd13 [1, 0, 1]), .code (cd13 [1, 1])]) (us := []) (d := 10) (t := (decide (a0.N > 48))) (by kernel_rfl) (fun h11 => ?_) (fun h12 => ?_)
    · skip
      have hp13 := ite_t hp10 h11
      refine sx_run 7 (todo' := [.code (cd13 [1, 0, 1, 0, 1]), .code (cd13 [1, 1])]) (us := [(11, .bool true), (2, .int .i64 4)]) (by kernel_rfl) ?_
      have hS14 := hS3.drop
      refine runs_ret (fn := Try.f13) (v := .int .i64 4) Try.func13 (by kernel_rfl) ?_
      have hr15 := (Option.some.inj hp13)
      cases hr15
      exact hR _ _ ⟨rfl, hS14⟩
    · skip
      have hp16 := ite_f hp10 h12
      refine sx_run 8 (todo' := [.inRegion (opsOf (cd13 [1, 1, 0, 0])) [1, 2], .code (cd13 [1, 1, 0, 1]), .code (cd13 [1, 1, 1])]) (us := [(11, .bool false), (12, .pointer (some ⟨b1, 0, none⟩))]) (by kernel_rfl) ?_
      refine r_load (c := (cd13 [1, 1, 0, 0])) (i := 1) (d := (some 13)) (ty := 3) (t := 3) (x := (.tmp 12)) (p := ⟨b1, 0, none⟩) (v := .int .i64 a0.N) (by kernel_rfl) (by kernel_rfl) (by kernel_rfl) (loads_at 0 (hS3.blk 0 rfl) (by kernel_rfl) (by kernel_rfl)) ?_
      refine sx_run 4 (todo' := [.code (cd13 [1, 1, 0, 1, 0, 0]), .inLoop (cd13 [1, 1, 0, 1, 0, 0]), .inBlock 0, .code (cd13 [1, 1, 1])]) (us := [(3, .int .i64 a0.N)]) (by kernel_rfl) ?_
      obtain ⟨v17, hv18, hp19⟩ := bind_some' hp16
      have hq22 : ∀ x, Sum.inr x = v17 → x = q0 := by intro x hx; subst hx; simpa using hp19
      have J23 : ∀ (he25 : Sum.inl () = v17) (l24 : List Value) (w20 : World) (hS21 : St w0 Z (fs) w20), Runs Try.prog 13 [.code (cd13 [1, 1, 1])] (fill [none, none, none, none, none, none, none, none, none, none, none, none, none, none, none, none, none, none, none, none, none, none, none] l24) w20 R := by
        intro he25 l24 w20 hS21
        subst he25
        try dsimp only at hp19
        refine sx_run 4 (todo' := [.code (cd13 [1, 1, 1, 1])]) (us := [(2, .int .i64 0)]) (by kernel_rfl) ?_
        refine runs_ret (fn := Try.f13) (v := .int .i64 0) Try.func13 (by kernel_rfl) ?_
        have hr26 := (Option.some.inj hp19)
        cases hr26
        exact hR _ _ ⟨rfl, hS21⟩
      have L36 : ∀ (t27 : Int) (e31 : Sum Unit Int), weirref10_Check.l0 a0 t27 = some e31 → e31 = v17 → ∀ (l30 : List Value) (w28 : World) (hS29 : St w0 Z (xblk b1 25 (enc_api_Final a0) :: fs) w28), Runs Try.prog 13 [.code (cd13 [1, 1, 0, 1, 0, 0]), .inLoop (cd13 [1, 1, 0, 1, 0, 0]), .inBlock 0, .code (cd13 [1, 1, 1])] (fill [none, some (.pointer (some ⟨b1, 0, none⟩)), none, some (.int .i64 t27), none, none, none, none, none, none, none, none, none, none, none, none, none, none, none, none, none, none, none] l30) w28 R := by
        refine weirref10_Check.l0.partial_correctness a0 (fun t27 e31 => e31 = v17 → ∀ (l30 : List Value) (w28 : World) (hS29 : St w0 Z (xblk b1 25 (enc_api_Final a0) :: fs) w28), Runs Try.prog 13 [.code (cd13 [1, 1, 0, 1, 0, 0]), .inLoop (cd13 [1, 1, 0, 1, 0, 0]), .inBlock 0, .code (cd13 [1, 1, 1])] (fill [none, some (.pointer (some ⟨b1, 0, none⟩)), none, some (.int .i64 t27), none, none, none, none, none, none, none, none, none, none, none, none, none, none, none, none, none, none, none] l30) w28 R) ?_
        intro rec35 ih34 t27 e31 hb33 he32 l30 w28 hS29
        have hq37 : ∀ x, Sum.inr x = e31 → x = q0 := fun x hx => hq22 x (hx.trans he32)
        refine sx_split 5 (todo' := [.inRegion (opsOf (cd13 [1, 1, 0, 1, 0, 0, 0, 0])) [], .code (cd13 [1, 1, 0, 1, 0, 0, 0, 1]), .code (cd13 [1, 1, 0, 1, 0, 0, 1]), .inLoop (cd13 [1, 1, 0, 1, 0, 0]), .inBlock 0, .code (cd13 [1, 1, 1])]) (us := [(14, .int .i64 t27)]) (d := 15) (t := (decide (t27 < 48))) (by kernel_rfl) (fun h38 => ?_) (fun h39 => ?_)
        · skip
          have hp40 := ite_t hb33 h38
          refine sx_run 9 (todo' := [.inRegion (opsOf (cd13 [1, 1, 0, 1, 0, 0, 1, 0, 0, 0])) [2, 3, 4], .code (cd13 [1, 1, 0, 1, 0, 0, 1, 0, 0, 1]), .inBlock 1, .code (cd13 [1, 1, 0, 1, 0, 0, 1, 1]), .inLoop (cd13 [1, 1, 0, 1, 0, 0]), .inBlock 0, .code (cd13 [1, 1, 1])]) (us := [(18, .int .i64 t27), (19, .pointer (some ⟨b1, 1, none⟩))]) (by kernel_rfl) ?_
          obtain ⟨g41, hp42⟩ := ite_some hp40
          refine r_indexArr (c := (cd13 [1, 1, 0, 1, 0, 0, 1, 0, 0, 0])) (i := 2) (d := (some 20)) (ty := 0) (t := 23) (e := 2) (sz := 1) (kk := .i64) (x := (.tmp 19)) (y := (.tmp 18)) (b := b1) (o' := 1) (n := 48) (j := t27) (by kernel_rfl) (by kernel_rfl) (by kernel_rfl) (by kernel_rfl) (by kernel_rfl) (by kernel_rfl) g41.1 g41.2 ?_
          refine r_load (c := (cd13 [1, 1, 0, 1, 0, 0, 1, 0, 0, 0])) (i := 3) (d := (some 21)) (ty := 2) (t := 2) (x := (.tmp 20)) (p := ⟨b1, 1 + t27.toNat * 1, none⟩) (v := .int .i64 (vget a0.V t27)) (by kernel_rfl) (by kernel_rfl) (by kernel_rfl) (loads_at 0 (cells_vget (sub_api_Final_V (hS29.blk 0 rfl)) (len_encI .i64) g41.1 g41.2) (by kernel_rfl) (by kernel_rfl)) ?_
          refine sx_split 1 (todo' := [.inRegion (opsOf (cd13 [1, 1, 0, 1, 0, 0, 1, 0, 0, 0])) [], .code (cd13 [1, 1, 0, 1, 0, 0, 1, 0, 0, 1]), .inBlock 1, .code (cd13 [1, 1, 0, 1, 0, 0, 1, 1]), .inLoop (cd13 [1, 1, 0, 1, 0, 0]), .inBlock 0, .code (cd13 [1, 1, 1])]) (us := []) (d := 22) (t := ((vget a0.V t27) != 0)) (by kernel_rfl) (fun h43 => ?_) (fun h44 => ?_)
          · skip
            have hp45 := ite_t hp42 h43
            refine sx_run 6 (todo' := [.code (cd13 [1, 1, 0, 1, 0, 0, 1, 0, 0, 1, 0, 1]), .inBlock 1, .code (cd13 [1, 1, 0, 1, 0, 0, 1, 1]), .inLoop (cd13 [1, 1, 0, 1, 0, 0]), .inBlock 0, .code (cd13 [1, 1, 1])]) (us := [(2, .int .i64 4)]) (by kernel_rfl) ?_
            have hS46 := hS29.drop
            refine runs_ret (fn := Try.f13) (v := .int .i64 4) Try.func13 (by kernel_rfl) ?_
            have hr47 := (hq37 _ (Option.some.inj hp45))
            cases hr47
            exact hR _ _ ⟨rfl, hS46⟩
          · skip
            have hp48 := ite_f hp42 h44
            refine sx_run 9 (todo' := [.inLoop (cd13 [1, 1, 0, 1, 0, 0]), .inBlock 0, .code (cd13 [1, 1, 1])]) (us := [(16, .int .i64 t27), (17, .int .i64 (IntKind.i64.wrap (t27 + 1))), (3, .int .i64 (IntKind.i64.wrap (t27 + 1)))]) (by kernel_rfl) ?_
            refine sx_run 1 (todo' := [.code (cd13 [1, 1, 0, 1, 0, 0]), .inLoop (cd13 [1, 1, 0, 1, 0, 0]), .inBlock 0, .code (cd13 [1, 1, 1])]) (us := []) (by kernel_rfl) ?_
            refine Runs.fill (m := [none, some (.pointer (some ⟨b1, 0, none⟩)), none, some (.int .i64 (IntKind.i64.wrap (t27 + 1))), none, none, none, none, none, none, none, none, none, none, none, none, none, none, none, none, none, none, none]) (by kernel_rfl) ?_
            exact ih34 (IntKind.i64.wrap (t27 + 1)) _ hp48 he32 _ _ hS29
        · skip
          have hp49 := ite_f hb33 h39
          refine sx_run 3 (todo' := [.code (cd13 [1, 1, 1])]) (us := []) (by kernel_rfl) ?_
          have hS50 := hS29.drop
          refine Runs.fill (m := [none, none, none, none, none, none, none, none, none, none, none, none, none, none, none, none, none, none, none, none, none, none, none]) (by kernel_rfl) ?_
          exact J23 ((Option.some.inj hp49).trans he32) _ _ hS50
      refine Runs.fill (m := [none, some (.pointer (some ⟨b1, 0, none⟩)), none, some (.int .i64 a0.N), none, none, none, none, none, none, none, none, none, none, none, none, none, none, none, none, none, none, none]) (by kernel_rfl) ?_
      exact L36 a0.N _ hv18 rfl _ _ hS3

noncomputable def cd9 (p : List Nat) : Code := sub (bodyOf Try.f9) p
def weirref10_Compare.l0 (a0 : api_Final) (a1 : api_Final) (t33 : Int) : Option (Sum Unit Int) :=
  (if (decide (t33 < 48)) = true then (if 0 ≤ t33 ∧ t33 < 48 then (if 0 ≤ t33 ∧ t33 < 48 then (if (decide ((vget a0.V t33) < (vget a1.V t33))) = true then some (.inr ((-1))) else (if 0 ≤ t33 ∧ t33 < 48 then (if 0 ≤ t33 ∧ t33 < 48 then (if (decide ((vget a0.V t33) > (vget a1.V t33))) = true then some (.inr (1)) else (weirref10_Compare.l0 a0 a1 (IntKind.i64.wrap (t33 + 1)))) else none) else none)) else none) else none) else some (.inl ()))
 partial_fixpoint
def weirref10_Compare.f (a0 : api_Final) (a1 : api_Final) : Option Int :=
  (if (a0.N != a1.N) = true then (if (decide (a0.N < a1.N)) = true then some ((-1)) else some (1)) else (weirref10_Compare.l0 a0 a1 0 >>= (fun | .inl () => some (0) | .inr e => some e)))
set_option maxHeartbeats 16000000 in
theorem weirref10_Compare.ok (a0 : api_Final) (a1 : api_Final) {w0 : World} {Z : Zm} {fs : List XObj} {w : World} (hS0 : St w0 Z (fs) w) {q0 : Int} (hp0 : weirref10_Compare.f a0 a1 = some q0) :
    Calls Try.prog 9 #[.agg (enc_api_Final a0).toArray, .agg (enc_api_Final a1).toArray] w (fun e w' => e = .returned (.int .i64 q0) ∧ St w0 Z (fs) w') := by
  refine calls_abs ?_; intro R hR
  unfold weirref10_Compare.f at hp0
  refine calls_of_runs (fn := Try.f9) (c := cd9 []) Try.func9 (by kernel_rfl) (al := [.agg (enc_api_Final a0).toArray, .agg (enc_api_Final a1).toArray]) rfl (n := 36) rfl ?_
  refine sx_run 2 (todo' := [.inRegion (opsOf (cd9 [0])) [0, 1, 2], .code (cd9 [1])]) (us := []) (by kernel_rfl) ?_
  refine r_box (c := (cd9 [0])) (i := 0) (d := (some 2)) (ty := 0) (x := (.tmp 0)) (v := .agg (enc_api_Final a0).toArray) (t := 25) (cs := enc_api_Final a0) hS0 (by kernel_rfl) (by kernel_rfl) (by kernel_rfl) (by kernel_rfl) ?_
  intro b1 w2 hS3
  refine r_box (c := (cd9 [0])) (i := 1) (d := (some 3)) (ty := 0) (x := (.tmp 1)) (v := .agg (enc_api_Final a1).toArray) (t := 25) (cs := enc_api_Final a1) hS3 (by kernel_rfl) (by kernel_rfl) (by kernel_rfl) (by kernel_rfl) ?_
  intro b5 w6 hS7
  refine sx_run 6 (todo' := [.inRegion (opsOf (cd9 [1, 0, 0])) [1, 2, 3, 4], .code (cd9 [1, 0, 1]), .code (cd9 [1, 1])]) (us := [(4, .int .i64 0), (6, .pointer (some ⟨b1, 0, none⟩))]) (by kernel_rfl) ?_
  refine r_load (c := (cd9 [1, 0, 0])) (i := 1) (d := (some 7)) (ty := 3) (t := 3) (x := (.tmp 6)) (p := ⟨b1, 0, none⟩) (v := .int .i64 a0.N) (by kernel_rfl) (by kernel_rfl) (by kernel_rfl) (loads_at 0 (hS7.blk 1 rfl) (by kernel_rfl) (by kernel_rfl)) ?_
  refine sx_run 1 (todo' := [.inRegion (opsOf (cd9 [1, 0, 0])) [3, 4], .code (cd9 [1, 0, 1]), .code (cd9 [1, 1])]) (us := [(8, .pointer (some ⟨b5, 0, none⟩))]) (by kernel_rfl) ?_
  refine r_load (c := (cd9 [1, 0, 0])) (i := 3) (d := (some 9)) (ty := 3) (t := 3) (x := (.tmp 8)) (p := ⟨b5, 0, none⟩) (v := .int .i64 a1.N) (by kernel_rfl) (by kernel_rfl) (by kernel_rfl) (loads_at 0 (hS7.blk 0 rfl) (by kernel_rfl) (by kernel_rfl)) ?_
  refine sx_split 1 (todo' := [.inRegion (opsOf (cd9 [1, 0, 0])) [], .code (cd9 [1, 0, 1]), .code (cd9 [1, 1])]) (us := []) (d := 10) (t := (a0.N != a1.N)) (by kernel_rfl) (fun h9 => ?_) (fun h10 => ?_)
  · skip
    have hp11 := ite_t hp0 h9
    refine sx_run 6 (todo' := [.inRegion (opsOf (cd9 [1, 0, 1, 0, 0, 0])) [1, 2, 3, 4], .code (cd9 [1, 0, 1, 0, 0, 1]), .code (cd9 [1, 0, 1, 0, 1]), .code (cd9 [1, 1])]) (us := [(11, .pointer (some ⟨b1, 0, none⟩))]) (by kernel_rfl) ?_
    refine r_load (c := (cd9 [1, 0, 1, 0, 0, 0])) (i := 1) (d := (some 12)) (ty := 3) (t := 3) (x := (.tmp 11)) (p := ⟨b1, 0, none⟩) (v := .int .i64 a0.N) (by kernel_rfl) (by kernel_rfl) (by kernel_rfl) (loads_at 0 (hS7.blk 1 rfl) (by kernel_rfl) (by kernel_rfl)) ?_
    refine sx_run 1 (todo' := [.inRegion (opsOf (cd9 [1, 0, 1, 0, 0, 0])) [3, 4], .code (cd9 [1, 0, 1, 0, 0, 1]), .code (cd9 [1, 0, 1, 0, 1]), .code (cd9 [1, 1])]) (us := [(13, .pointer (some ⟨b5, 0, none⟩))]) (by kernel_rfl) ?_
    refine r_load (c := (cd9 [1, 0, 1, 0, 0, 0])) (i := 3) (d := (some 14)) (ty := 3) (t := 3) (x := (.tmp 13)) (p := ⟨b5, 0, none⟩) (v := .int .i64 a1.N) (by kernel_rfl) (by kernel_rfl) (by kernel_rfl) (loads_at 0 (hS7.blk 0 rfl) (by kernel_rfl) (by kernel_rfl)) ?_
    refine sx_split 1 (todo' := [.inRegion (opsOf (cd9 [1, 0, 1, 0, 0, 0])) [], .code (cd9 [1, 0, 1, 0, 0, 1]), .code (cd9 [1, 0, 1, 0, 1]), .code (cd9 [1, 1])]) (us := []) (d := 15) (t := (decide (a0.N < a1.N))) (by kernel_rfl) (fun h12 => ?_) (fun h13 => ?_)
    · skip
      have hp14 := ite_t hp11 h12
      refine sx_run 6 (todo' := [.code (cd9 [1, 0, 1, 0, 0, 1, 0, 1]), .code (cd9 [1, 0, 1, 0, 1]), .code (cd9 [1, 1])]) (us := [(4, .int .i64 (-1))]) (by kernel_rfl) ?_
      have hS15 := hS7.drop
      have hS16 := hS15.drop
      refine runs_ret (fn := Try.f9) (v := .int .i64 (-1)) Try.func9 (by kernel_rfl) ?_
      have hr17 := (Option.some.inj hp14)
      cases hr17
      exact hR _ _ ⟨rfl, hS16⟩
    · skip
      have hp18 := ite_f hp11 h13
      refine sx_run 7 (todo' := [.code (cd9 [1, 0, 1, 0, 1, 1]), .code (cd9 [1, 1])]) (us := [(4, .int .i64 1)]) (by kernel_rfl) ?_
      have hS19 := hS7.drop
      have hS20 := hS19.drop
      refine runs_ret (fn := Try.f9) (v := .int .i64 1) Try.func9 (by kernel_rfl) ?_
      have hr21 := (Option.some.inj hp18)
      cases hr21
      exact hR _ _ ⟨rfl, hS20⟩
  · skip
    have hp22 := ite_f hp0 h10
    refine sx_run 10 (todo' := [.code (cd9 [1, 1, 0, 1, 0, 0]), .inLoop (cd9 [1, 1, 0, 1, 0, 0]), .inBlock 0, .code (cd9 [1, 1, 1])]) (us := [(5, .int .i64 0)]) (by kernel_rfl) ?_
    obtain ⟨v23, hv24, hp25⟩ := bind_some' hp22
    have hq28 : ∀ x, Sum.inr x = v23 → x = q0 := by intro x hx; subst hx; simpa using hp25
    have J29 : ∀ (he31 : Sum.inl () = v23) (l30 : List Value) (w26 : World) (hS27 : St w0 Z (fs) w26), Runs Try.prog 9 [.code (cd9 [1, 1, 1])] (fill [none, none, none, none, none, none, none, none, none, none, none, none, none, none, none, none, none, none, none, none, none, none, none, none, none, none, none, none, none, none, none, none, none, none, none, none, none, none] l30) w26 R := by
      intro he31 l30 w26 hS27
      subst he31
      try dsimp only at hp25
      refine sx_run 4 (todo' := [.code (cd9 [1, 1, 1, 1])]) (us := [(4, .int .i64 0)]) (by kernel_rfl) ?_
      refine runs_ret (fn := Try.f9) (v := .int .i64 0) Try.func9 (by kernel_rfl) ?_
      have hr32 := (Option.some.inj hp25)
      cases hr32
      exact hR _ _ ⟨rfl, hS27⟩
    have L42 : ∀ (t33 : Int) (e37 : Sum Unit Int), weirref10_Compare.l0 a0 a1 t33 = some e37 → e37 = v23 → ∀ (l36 : List Value) (w34 : World) (hS35 : St w0 Z (xblk b1 25 (enc_api_Final a0) :: xblk b5 25 (enc_api_Final a1) :: fs) w34), Runs Try.prog 9 [.code (cd9 [1, 1, 0, 1, 0, 0]), .inLoop (cd9 [1, 1, 0, 1, 0, 0]), .inBlock 0, .code (cd9 [1, 1, 1])] (fill [none, none, some (.pointer (some ⟨b1, 0, none⟩)), some (.pointer (some ⟨b5, 0, none⟩)), none, some (.int .i64 t33), none, none, none, none, none, none, none, none, none, none, none, none, none, none, none, none, none, none, none, none, none, none, none, none, none, none, none, none, none, none, none, none] l36) w34 R := by
      refine weirref10_Compare.l0.partial_correctness a0 a1 (fun t33 e37 => e37 = v23 → ∀ (l36 : List Value) (w34 : World) (hS35 : St w0 Z (xblk b1 25 (enc_api_Final a0) :: xblk b5 25 (enc_api_Final a1) :: fs) w34), Runs Try.prog 9 [.code (cd9 [1, 1, 0, 1, 0, 0]), .inLoop (cd9 [1, 1, 0, 1, 0, 0]), .inBlock 0, .code (cd9 [1, 1, 1])] (fill [none, none, some (.pointer (some ⟨b1, 0, none⟩)), some (.pointer (some ⟨b5, 0, none⟩)), none, some (.int .i64 t33), none, none, none, none, none, none, none, none, none, none, none, none, none, none, none, none, none, none, none, none, none, none, none, none, none, none, none, none, none, none, none, none] l36) w34 R) ?_
      intro rec41 ih40 t33 e37 hb39 he38 l36 w34 hS35
      have hq43 : ∀ x, Sum.inr x = e37 → x = q0 := fun x hx => hq28 x (hx.trans he38)
      refine sx_split 5 (todo' := [.inRegion (opsOf (cd9 [1, 1, 0, 1, 0, 0, 0, 0])) [], .code (cd9 [1, 1, 0, 1, 0, 0, 0, 1]), .code (cd9 [1, 1, 0, 1, 0, 0, 1]), .inLoop (cd9 [1, 1, 0, 1, 0, 0]), .inBlock 0, .code (cd9 [1, 1, 1])]) (us := [(16, .int .i64 t33)]) (d := 17) (t := (decide (t33 < 48))) (by kernel_rfl) (fun h44 => ?_) (fun h45 => ?_)
      · skip
        have hp46 := ite_t hb39 h44
        refine sx_run 7 (todo' := [.code (cd9 [1, 1, 0, 1, 0, 0, 1, 0, 0, 0, 0]), .code (cd9 [1, 1, 0, 1, 0, 0, 1, 0, 0, 0, 1]), .code (cd9 [1, 1, 0, 1, 0, 0, 1, 0, 0, 1]), .inBlock 1, .code (cd9 [1, 1, 0, 1, 0, 0, 1, 1]), .inLoop (cd9 [1, 1, 0, 1, 0, 0]), .inBlock 0, .code (cd9 [1, 1, 1])]) (us := []) (by kernel_rfl) ?_
        refine r_quiet hS35 (c := (cd9 [1, 1, 0, 1, 0, 0, 1, 0, 0, 0, 0])) (id := 8) (by kernel_rfl) (by kernel_rfl) (by kernel_rfl) (is := [0, 1, 2, 3, 4, 5, 6, 7, 8]) (by kernel_rfl) ?_
        refine q_run 2 (is' := [2, 3, 4, 5, 6, 7, 8]) (us := [(20, .int .i64 t33), (21, .pointer (some ⟨b1, 1, none⟩))]) (by kernel_rfl) ?_
        obtain ⟨g47, hp48⟩ := ite_some hp46
        refine q_indexArr (c := (cd9 [1, 1, 0, 1, 0, 0, 1, 0, 0, 0, 0])) (i := 2) (d := (some 22)) (ty := 0) (t := 23) (e := 2) (sz := 1) (kk := .i64) (x := (.tmp 21)) (y := (.tmp 20)) (b := b1) (o' := 1) (n := 48) (j := t33) (by kernel_rfl) (by kernel_rfl) (by kernel_rfl) (by kernel_rfl) (by kernel_rfl) (by kernel_rfl) g47.1 g47.2 ?_
        refine q_load (c := (cd9 [1, 1, 0, 1, 0, 0, 1, 0, 0, 0, 0])) (i := 3) (d := (some 23)) (ty := 2) (t := 2) (x := (.tmp 22)) (p := ⟨b1, 1 + t33.toNat * 1, none⟩) (v := .int .i64 (vget a0.V t33)) (by kernel_rfl) (by kernel_rfl) (by kernel_rfl) (fun w hC => (loads_at 0 (cells_vget (sub_api_Final_V (hC.blk 0 rfl)) (len_encI .i64) g47.1 g47.2) (by kernel_rfl) (by kernel_rfl))) ?_
        refine q_run 2 (is' := [6, 7, 8]) (us := [(24, .int .i64 t33), (25, .pointer (some ⟨b5, 1, none⟩))]) (by kernel_rfl) ?_
        obtain ⟨g49, hp50⟩ := ite_some hp48
        refine q_indexArr (c := (cd9 [1, 1, 0, 1, 0, 0, 1, 0, 0, 0, 0])) (i := 6) (d := (some 26)) (ty := 0) (t := 23) (e := 2) (sz := 1) (kk := .i64) (x := (.tmp 25)) (y := (.tmp 24)) (b := b5) (o' := 1) (n := 48) (j := t33) (by kernel_rfl) (by kernel_rfl) (by kernel_rfl) (by kernel_rfl) (by kernel_rfl) (by kernel_rfl) g49.1 g49.2 ?_
        refine q_load (c := (cd9 [1, 1, 0, 1, 0, 0, 1, 0, 0, 0, 0])) (i := 7) (d := (some 27)) (ty := 2) (t := 2) (x := (.tmp 26)) (p := ⟨b5, 1 + t33.toNat * 1, none⟩) (v := .int .i64 (vget a1.V t33)) (by kernel_rfl) (by kernel_rfl) (by kernel_rfl) (fun w hC => (loads_at 0 (cells_vget (sub_api_Final_V (hC.blk 1 rfl)) (len_encI .i64) g49.1 g49.2) (by kernel_rfl) (by kernel_rfl))) ?_
        refine q_splitr 1 (is' := []) (us := []) (d := 28) (t := (decide ((vget a0.V t33) < (vget a1.V t33)))) (by kernel_rfl) (fun h51 => ?_) (fun h52 => ?_)
        · skip
          have hp53 := ite_t hp50 h51
          refine Qs.nil ?_
          intro w54 hS55
          refine sx_run 5 (todo' := [.code (cd9 [1, 1, 0, 1, 0, 0, 1, 0, 0, 0, 1, 0, 1]), .code (cd9 [1, 1, 0, 1, 0, 0, 1, 0, 0, 1]), .inBlock 1, .code (cd9 [1, 1, 0, 1, 0, 0, 1, 1]), .inLoop (cd9 [1, 1, 0, 1, 0, 0]), .inBlock 0, .code (cd9 [1, 1, 1])]) (us := [(4, .int .i64 (-1))]) (by kernel_rfl) ?_
          have hS56 := hS55.drop
          have hS57 := hS56.drop
          refine runs_ret (fn := Try.f9) (v := .int .i64 (-1)) Try.func9 (by kernel_rfl) ?_
          have hr58 := (hq43 _ (Option.some.inj hp53))
          cases hr58
          exact hR _ _ ⟨rfl, hS57⟩
        · skip
          have hp59 := ite_f hp50 h52
          refine Qs.nil ?_
          intro w60 hS61
          refine sx_run 3 (todo' := [.code (cd9 [1, 1, 0, 1, 0, 0, 1, 0, 0, 1, 0]), .code (cd9 [1, 1, 0, 1, 0, 0, 1, 0, 0, 1, 1]), .inBlock 1, .code (cd9 [1, 1, 0, 1, 0, 0, 1, 1]), .inLoop (cd9 [1, 1, 0, 1, 0, 0]), .inBlock 0, .code (cd9 [1, 1, 1])]) (us := []) (by kernel_rfl) ?_
          refine r_quiet hS61 (c := (cd9 [1, 1, 0, 1, 0, 0, 1, 0, 0, 1, 0])) (id := 10) (by kernel_rfl) (by kernel_rfl) (by kernel_rfl) (is := [0, 1, 2, 3, 4, 5, 6, 7, 8]) (by kernel_rfl) ?_
          refine q_run 2 (is' := [2, 3, 4, 5, 6, 7, 8]) (us := [(29, .int .i64 t33), (30, .pointer (some ⟨b1, 1, none⟩))]) (by kernel_rfl) ?_
          obtain ⟨g62, hp63⟩ := ite_some hp59
          refine q_indexArr (c := (cd9 [1, 1, 0, 1, 0, 0, 1, 0, 0, 1, 0])) (i := 2) (d := (some 31)) (ty := 0) (t := 23) (e := 2) (sz := 1) (kk := .i64) (x := (.tmp 30)) (y := (.tmp 29)) (b := b1) (o' := 1) (n := 48) (j := t33) (by kernel_rfl) (by kernel_rfl) (by kernel_rfl) (by kernel_rfl) (by kernel_rfl) (by kernel_rfl) g62.1 g62.2 ?_
          refine q_load (c := (cd9 [1, 1, 0, 1, 0, 0, 1, 0, 0, 1, 0])) (i := 3) (d := (some 32)) (ty := 2) (t := 2) (x := (.tmp 31)) (p := ⟨b1, 1 + t33.toNat * 1, none⟩) (v := .int .i64 (vget a0.V t33)) (by kernel_rfl) (by kernel_rfl) (by kernel_rfl) (fun w hC => (loads_at 0 (cells_vget (sub_api_Final_V (hC.blk 0 rfl)) (len_encI .i64) g62.1 g62.2) (by kernel_rfl) (by kernel_rfl))) ?_
          refine q_run 2 (is' := [6, 7, 8]) (us := [(33, .int .i64 t33), (34, .pointer (some ⟨b5, 1, none⟩))]) (by kernel_rfl) ?_
          obtain ⟨g64, hp65⟩ := ite_some hp63
          refine q_indexArr (c := (cd9 [1, 1, 0, 1, 0, 0, 1, 0, 0, 1, 0])) (i := 6) (d := (some 35)) (ty := 0) (t := 23) (e := 2) (sz := 1) (kk := .i64) (x := (.tmp 34)) (y := (.tmp 33)) (b := b5) (o' := 1) (n := 48) (j := t33) (by kernel_rfl) (by kernel_rfl) (by kernel_rfl) (by kernel_rfl) (by kernel_rfl) (by kernel_rfl) g64.1 g64.2 ?_
          refine q_load (c := (cd9 [1, 1, 0, 1, 0, 0, 1, 0, 0, 1, 0])) (i := 7) (d := (some 36)) (ty := 2) (t := 2) (x := (.tmp 35)) (p := ⟨b5, 1 + t33.toNat * 1, none⟩) (v := .int .i64 (vget a1.V t33)) (by kernel_rfl) (by kernel_rfl) (by kernel_rfl) (fun w hC => (loads_at 0 (cells_vget (sub_api_Final_V (hC.blk 1 rfl)) (len_encI .i64) g64.1 g64.2) (by kernel_rfl) (by kernel_rfl))) ?_
          refine q_splitr 1 (is' := []) (us := []) (d := 37) (t := (decide ((vget a0.V t33) > (vget a1.V t33)))) (by kernel_rfl) (fun h66 => ?_) (fun h67 => ?_)
          · skip
            have hp68 := ite_t hp65 h66
            refine Qs.nil ?_
            intro w69 hS70
            refine sx_run 5 (todo' := [.code (cd9 [1, 1, 0, 1, 0, 0, 1, 0, 0, 1, 1, 0, 1]), .inBlock 1, .code (cd9 [1, 1, 0, 1, 0, 0, 1, 1]), .inLoop (cd9 [1, 1, 0, 1, 0, 0]), .inBlock 0, .code (cd9 [1, 1, 1])]) (us := [(4, .int .i64 1)]) (by kernel_rfl) ?_
            have hS71 := hS70.drop
            have hS72 := hS71.drop
            refine runs_ret (fn := Try.f9) (v := .int .i64 1) Try.func9 (by kernel_rfl) ?_
            have hr73 := (hq43 _ (Option.some.inj hp68))
            cases hr73
            exact hR _ _ ⟨rfl, hS72⟩
          · skip
            have hp74 := ite_f hp65 h67
            refine Qs.nil ?_
            intro w75 hS76
            refine sx_run 8 (todo' := [.inLoop (cd9 [1, 1, 0, 1, 0, 0]), .inBlock 0, .code (cd9 [1, 1, 1])]) (us := [(18, .int .i64 t33), (19, .int .i64 (IntKind.i64.wrap (t33 + 1))), (5, .int .i64 (IntKind.i64.wrap (t33 + 1)))]) (by kernel_rfl) ?_
            refine sx_run 1 (todo' := [.code (cd9 [1, 1, 0, 1, 0, 0]), .inLoop (cd9 [1, 1, 0, 1, 0, 0]), .inBlock 0, .code (cd9 [1, 1, 1])]) (us := []) (by kernel_rfl) ?_
            refine Runs.fill (m := [none, none, some (.pointer (some ⟨b1, 0, none⟩)), some (.pointer (some ⟨b5, 0, none⟩)), none, some (.int .i64 (IntKind.i64.wrap (t33 + 1))), none, none, none, none, none, none, none, none, none, none, none, none, none, none, none, none, none, none, none, none, none, none, none, none, none, none, none, none, none, none, none, none]) (by kernel_rfl) ?_
            exact ih40 (IntKind.i64.wrap (t33 + 1)) _ hp74 he38 _ _ hS76
      · skip
        have hp77 := ite_f hb39 h45
        refine sx_run 3 (todo' := [.code (cd9 [1, 1, 1])]) (us := []) (by kernel_rfl) ?_
        have hS78 := hS35.drop
        have hS79 := hS78.drop
        refine Runs.fill (m := [none, none, none, none, none, none, none, none, none, none, none, none, none, none, none, none, none, none, none, none, none, none, none, none, none, none, none, none, none, none, none, none, none, none, none, none, none, none]) (by kernel_rfl) ?_
        exact J29 ((Option.some.inj hp77).trans he38) _ _ hS79
    have hS80 := hS7.pick1
    refine Runs.fill (m := [none, none, some (.pointer (some ⟨b1, 0, none⟩)), some (.pointer (some ⟨b5, 0, none⟩)), none, some (.int .i64 0), none, none, none, none, none, none, none, none, none, none, none, none, none, none, none, none, none, none, none, none, none, none, none, none, none, none, none, none, none, none, none, none]) (by kernel_rfl) ?_
    exact L42 0 _ hv24 rfl _ _ hS80

noncomputable def cd8 (p : List Nat) : Code := sub (bodyOf Try.f8) p
def weirref10_Rises.l0 (a0 : List api_Final) (t11 : Int) : Option (Sum Unit Bool) :=
  (if (decide (t11 < (a0.length : Int))) = true then (if 0 ≤ t11 ∧ t11 < (a0.length : Int) then (weirref10_Check.f (gt a0 t11) >>= (fun t31 => (if (t31 != 0) = true then some (.inr (false)) else (if (decide (t11 > 0)) = true then (if 0 ≤ (IntKind.i64.wrap (t11 - 1)) ∧ (IntKind.i64.wrap (t11 - 1)) < (a0.length : Int) then (if 0 ≤ t11 ∧ t11 < (a0.length : Int) then (weirref10_Compare.f (gt a0 (IntKind.i64.wrap (t11 - 1))) (gt a0 t11) >>= (fun t56 => (if (decide (t56 ≥ 0)) = true then some (.inr (false)) else (weirref10_Rises.l0 a0 (IntKind.i64.wrap (t11 + 1)))))) else none) else none) else (weirref10_Rises.l0 a0 (IntKind.i64.wrap (t11 + 1))))))) else none) else some (.inl ()))
 partial_fixpoint
def weirref10_Rises.f (a0 : List api_Final) : Option Bool :=
  (weirref10_Rises.l0 a0 0 >>= (fun | .inl () => some (true) | .inr e => some e))
set_option maxHeartbeats 16000000 in
theorem weirref10_Rises.ok (a0 : List api_Final) (Aa0 : Option Addr) (ca0 : Nat) {w0 : World} {Z : Zm} {fs : List XObj} {w : World} (hS0 : St w0 Z (fs) w) (ha0 : SlZ (flat enc_api_Final) 49 Z Aa0 ca0 a0) {q0 : Bool} (hp0 : weirref10_Rises.f a0 = some q0) :
    Calls Try.prog 8 #[.slice Aa0 a0.length ca0] w (fun e w' => e = .returned (.bool q0) ∧ St w0 Z (fs) w') := by
  refine calls_abs ?_; intro R hR
  unfold weirref10_Rises.f at hp0
  refine calls_of_runs (fn := Try.f8) (c := cd8 []) Try.func8 (by kernel_rfl) (al := [.slice Aa0 a0.length ca0]) rfl (n := 32) rfl ?_
  refine sx_run 11 (todo' := [.code (cd8 [1, 0, 1, 0, 0]), .inLoop (cd8 [1, 0, 1, 0, 0]), .inBlock 0, .code (cd8 [1, 1])]) (us := [(2, .bool false), (3, .int .i64 0)]) (by kernel_rfl) ?_
  obtain ⟨v1, hv2, hp3⟩ := bind_some' hp0
  have hq6 : ∀ x, Sum.inr x = v1 → x = q0 := by intro x hx; subst hx; simpa using hp3
  have J7 : ∀ (he9 : Sum.inl () = v1) (l8 : List Value) (w4 : World) (hS5 : St w0 Z (fs) w4), Runs Try.prog 8 [.code (cd8 [1, 1])] (fill [none, none, none, none, none, none, none, none, none, none, none, none, none, none, none, none, none, none, none, none, none, none, none, none, none, none, none, none, none, none, none, none, none] l8) w4 R := by
    intro he9 l8 w4 hS5
    subst he9
    try dsimp only at hp3
    refine sx_run 4 (todo' := [.code (cd8 [1, 1, 1])]) (us := [(2, .bool true)]) (by kernel_rfl) ?_
    refine runs_ret (fn := Try.f8) (v := .bool true) Try.func8 (by kernel_rfl) ?_
    have hr10 := (Option.some.inj hp3)
    cases hr10
    exact hR _ _ ⟨rfl, hS5⟩
  have L20 : ∀ (t11 : Int) (e15 : Sum Unit Bool), weirref10_Rises.l0 a0 t11 = some e15 → e15 = v1 → ∀ (l14 : List Value) (w12 : World) (hS13 : St w0 Z (fs) w12), Runs Try.prog 8 [.code (cd8 [1, 0, 1, 0, 0]), .inLoop (cd8 [1, 0, 1, 0, 0]), .inBlock 0, .code (cd8 [1, 1])] (fill [some (.slice Aa0 a0.length ca0), none, none, some (.int .i64 t11), none, none, none, none, none, none, none, none, none, none, none, none, none, none, none, none, none, none, none, none, none, none, none, none, none, none, none, none, none] l14) w12 R := by
    refine weirref10_Rises.l0.partial_correctness a0 (fun t11 e15 => e15 = v1 → ∀ (l14 : List Value) (w12 : World) (hS13 : St w0 Z (fs) w12), Runs Try.prog 8 [.code (cd8 [1, 0, 1, 0, 0]), .inLoop (cd8 [1, 0, 1, 0, 0]), .inBlock 0, .code (cd8 [1, 1])] (fill [some (.slice Aa0 a0.length ca0), none, none, some (.int .i64 t11), none, none, none, none, none, none, none, none, none, none, none, none, none, none, none, none, none, none, none, none, none, none, none, none, none, none, none, none, none] l14) w12 R) ?_
    intro rec19 ih18 t11 e15 hb17 he16 l14 w12 hS13
    have hq21 : ∀ x, Sum.inr x = e15 → x = q0 := fun x hx => hq6 x (hx.trans he16)
    refine sx_split 7 (todo' := [.inRegion (opsOf (cd8 [1, 0, 1, 0, 0, 0, 0])) [], .code (cd8 [1, 0, 1, 0, 0, 0, 1]), .code (cd8 [1, 0, 1, 0, 0, 1]), .inLoop (cd8 [1, 0, 1, 0, 0]), .inBlock 0, .code (cd8 [1, 1])]) (us := [(4, .int .i64 t11), (5, .slice Aa0 a0.length ca0), (6, .int .i64 (a0.length : Int))]) (d := 7) (t := (decide (t11 < (a0.length : Int)))) (by kernel_rfl) (fun h22 => ?_) (fun h23 => ?_)
    · skip
      have hp24 := ite_t hb17 h22
      refine sx_run 6 (todo' := [.code (cd8 [1, 0, 1, 0, 0, 1, 0, 0, 0]), .code (cd8 [1, 0, 1, 0, 0, 1, 0, 0, 1]), .inBlock 1, .code (cd8 [1, 0, 1, 0, 0, 1, 1]), .inLoop (cd8 [1, 0, 1, 0, 0]), .inBlock 0, .code (cd8 [1, 1])]) (us := []) (by kernel_rfl) ?_
      refine r_quiet hS13 (c := (cd8 [1, 0, 1, 0, 0, 1, 0, 0, 0])) (id := 4) (by kernel_rfl) (by kernel_rfl) (by kernel_rfl) (is := [0, 1, 2, 3, 4, 5, 6, 7, 8, 9, 10, 11, 12, 13, 14, 15, 16, 17, 18, 19, 20, 21, 22]) (by kernel_rfl) ?_
      refine q_run 2 (is' := [2, 3, 4, 5, 6, 7, 8, 9, 10, 11, 12, 13, 14, 15, 16, 17, 18, 19, 20, 21, 22]) (us := [(10, .slice Aa0 a0.length ca0), (11, .int .i64 t11)]) (by kernel_rfl) ?_
      obtain ⟨g25, hp26⟩ := ite_some hp24
      obtain ⟨b27, p28, hA29, hc30⟩ := ha0.atF g25.1 g25.2
      refine q_indexAddr (c := (cd8 [1, 0, 1, 0, 0, 1, 0, 0, 0])) (i := 2) (d := (some 12)) (ty := 0) (t := 22) (e := 25) (n := a0.length) (cp := ca0) (sz := 49) (kk := .i64) (x := (.tmp 10)) (y := (.tmp 11)) (b := b27) (o' := p28) (j := t11) (by kernel_rfl) (by kernel_rfl) (slv (by kernel_rfl) hA29) (by kernel_rfl) (by kernel_rfl) (by kernel_rfl) g25.1 g25.2 ?_
      refine q_load (c := (cd8 [1, 0, 1, 0, 0, 1, 0, 0, 0])) (i := 3) (d := (some 13)) (ty := 25) (t := 25) (x := (.tmp 12)) (p := ⟨b27, p28 + t11.toNat * 49, none⟩) (v := .agg (enc_api_Final (gt a0 t11)).toArray) (by kernel_rfl) (by kernel_rfl) (by kernel_rfl) (fun w hC => (loads_agg (hc30.cells hC) (by kernel_rfl) (lenK (len_api_Final _) (by kernel_rfl)))) ?_
      obtain ⟨t31, hr32, hp33⟩ := bind_some' hp26
      refine q_call1 (c := (cd8 [1, 0, 1, 0, 0, 1, 0, 0, 0])) (i := 4) (d := (some 14)) (v := .int .i64 t31) (g := 13) (args := #[.agg (enc_api_Final (gt a0 t11)).toArray]) (by kernel_rfl) (by kernel_rfl) (by kernel_rfl) (by kernel_rfl) (fun w hC => by
        refine (weirref10_Check.ok (gt a0 t11) hC hr32).mono ?_
        rintro e w2 ⟨rfl, h2⟩
        exact ⟨rfl, h2⟩) ?_
      refine q_splitr 1 (is' := [6, 7, 8, 9, 10, 11, 12, 13, 14, 15, 16, 17, 18, 19, 20, 21, 22]) (us := []) (d := 15) (t := (t31 != 0)) (by kernel_rfl) (fun h34 => ?_) (fun h35 => ?_)
      · skip
        have hp36 := ite_t hp33 h34
        refine q_run 17 (is' := []) (us := [(16, .bool true), (17, undef), (18, undef), (19, undef), (20, undef), (21, undef), (22, undef), (23, undef), (24, undef), (25, undef), (26, undef), (27, undef), (28, undef), (29, undef), (30, undef), (31, undef), (32, .bool true)]) (by kernel_rfl) ?_
        refine Qs.nil ?_
        intro w37 hS38
        refine sx_run 5 (todo' := [.code (cd8 [1, 0, 1, 0, 0, 1, 0, 0, 1, 0, 1]), .inBlock 1, .code (cd8 [1, 0, 1, 0, 0, 1, 1]), .inLoop (cd8 [1, 0, 1, 0, 0]), .inBlock 0, .code (cd8 [1, 1])]) (us := [(2, .bool false)]) (by kernel_rfl) ?_
        refine runs_ret (fn := Try.f8) (v := .bool false) Try.func8 (by kernel_rfl) ?_
        have hr39 := (hq21 _ (Option.some.inj hp36))
        cases hr39
        exact hR _ _ ⟨rfl, hS38⟩
      · skip
        have hp40 := ite_f hp33 h35
        refine q_splitr 3 (is' := [9, 10, 11, 12, 13, 14, 15, 16, 17, 18, 19, 20, 21, 22]) (us := [(16, .bool false), (17, .int .i64 t11)]) (d := 18) (t := (decide (t11 > 0))) (by kernel_rfl) (fun h41 => ?_) (fun h42 => ?_)
        · skip
          have hp43 := ite_t hp40 h41
          refine q_run 4 (is' := [13, 14, 15, 16, 17, 18, 19, 20, 21, 22]) (us := [(19, .bool true), (20, .slice Aa0 a0.length ca0), (21, .int .i64 t11), (22, .int .i64 (IntKind.i64.wrap (t11 - 1)))]) (by kernel_rfl) ?_
          obtain ⟨g44, hp45⟩ := ite_some hp43
          obtain ⟨b46, p47, hA48, hc49⟩ := ha0.atF g44.1 g44.2
          refine q_indexAddr (c := (cd8 [1, 0, 1, 0, 0, 1, 0, 0, 0])) (i := 13) (d := (some 23)) (ty := 0) (t := 22) (e := 25) (n := a0.length) (cp := ca0) (sz := 49) (kk := .i64) (x := (.tmp 20)) (y := (.tmp 22)) (b := b46) (o' := p47) (j := (IntKind.i64.wrap (t11 - 1))) (by kernel_rfl) (by kernel_rfl) (slv (by kernel_rfl) hA48) (by kernel_rfl) (by kernel_rfl) (by kernel_rfl) g44.1 g44.2 ?_
          refine q_load (c := (cd8 [1, 0, 1, 0, 0, 1, 0, 0, 0])) (i := 14) (d := (some 24)) (ty := 25) (t := 25) (x := (.tmp 23)) (p := ⟨b46, p47 + (IntKind.i64.wrap (t11 - 1)).toNat * 49, none⟩) (v := .agg (enc_api_Final (gt a0 (IntKind.i64.wrap (t11 - 1)))).toArray) (by kernel_rfl) (by kernel_rfl) (by kernel_rfl) (fun w hC => (loads_agg (hc49.cells hC) (by kernel_rfl) (lenK (len_api_Final _) (by kernel_rfl)))) ?_
          refine q_run 2 (is' := [17, 18, 19, 20, 21, 22]) (us := [(25, .slice Aa0 a0.length ca0), (26, .int .i64 t11)]) (by kernel_rfl) ?_
          obtain ⟨g50, hp51⟩ := ite_some hp45
          obtain ⟨b52, p53, hA54, hc55⟩ := ha0.atF g50.1 g50.2
          refine q_indexAddr (c := (cd8 [1, 0, 1, 0, 0, 1, 0, 0, 0])) (i := 17) (d := (some 27)) (ty := 0) (t := 22) (e := 25) (n := a0.length) (cp := ca0) (sz := 49) (kk := .i64) (x := (.tmp 25)) (y := (.tmp 26)) (b := b52) (o' := p53) (j := t11) (by kernel_rfl) (by kernel_rfl) (slv (by kernel_rfl) hA54) (by kernel_rfl) (by kernel_rfl) (by kernel_rfl) g50.1 g50.2 ?_
          refine q_load (c := (cd8 [1, 0, 1, 0, 0, 1, 0, 0, 0])) (i := 18) (d := (some 28)) (ty := 25) (t := 25) (x := (.tmp 27)) (p := ⟨b52, p53 + t11.toNat * 49, none⟩) (v := .agg (enc_api_Final (gt a0 t11)).toArray) (by kernel_rfl) (by kernel_rfl) (by kernel_rfl) (fun w hC => (loads_agg (hc55.cells hC) (by kernel_rfl) (lenK (len_api_Final _) (by kernel_rfl)))) ?_
          obtain ⟨t56, hr57, hp58⟩ := bind_some' hp51
          refine q_call1 (c := (cd8 [1, 0, 1, 0, 0, 1, 0, 0, 0])) (i := 19) (d := (some 29)) (v := .int .i64 t56) (g := 9) (args := #[.agg (enc_api_Final (gt a0 (IntKind.i64.wrap (t11 - 1)))).toArray, .agg (enc_api_Final (gt a0 t11)).toArray]) (by kernel_rfl) (by kernel_rfl) (by kernel_rfl) (by kernel_rfl) (fun w hC => by
            refine (weirref10_Compare.ok (gt a0 (IntKind.i64.wrap (t11 - 1))) (gt a0 t11) hC hr57).mono ?_
            rintro e w2 ⟨rfl, h2⟩
            exact ⟨rfl, h2⟩) ?_
          refine q_splitr 1 (is' := [21, 22]) (us := []) (d := 30) (t := (decide (t56 ≥ 0))) (by kernel_rfl) (fun h59 => ?_) (fun h60 => ?_)
          · skip
            have hp61 := ite_t hp58 h59
            refine q_run 2 (is' := []) (us := [(31, .bool true), (32, .bool true)]) (by kernel_rfl) ?_
            refine Qs.nil ?_
            intro w62 hS63
            refine sx_run 5 (todo' := [.code (cd8 [1, 0, 1, 0, 0, 1, 0, 0, 1, 0, 1]), .inBlock 1, .code (cd8 [1, 0, 1, 0, 0, 1, 1]), .inLoop (cd8 [1, 0, 1, 0, 0]), .inBlock 0, .code (cd8 [1, 1])]) (us := [(2, .bool false)]) (by kernel_rfl) ?_
            refine runs_ret (fn := Try.f8) (v := .bool false) Try.func8 (by kernel_rfl) ?_
            have hr64 := (hq21 _ (Option.some.inj hp61))
            cases hr64
            exact hR _ _ ⟨rfl, hS63⟩
          · skip
            have hp65 := ite_f hp58 h60
            refine q_run 2 (is' := []) (us := [(31, .bool false), (32, .bool false)]) (by kernel_rfl) ?_
            refine Qs.nil ?_
            intro w66 hS67
            refine sx_run 8 (todo' := [.inLoop (cd8 [1, 0, 1, 0, 0]), .inBlock 0, .code (cd8 [1, 1])]) (us := [(8, .int .i64 t11), (9, .int .i64 (IntKind.i64.wrap (t11 + 1))), (3, .int .i64 (IntKind.i64.wrap (t11 + 1)))]) (by kernel_rfl) ?_
            refine sx_run 1 (todo' := [.code (cd8 [1, 0, 1, 0, 0]), .inLoop (cd8 [1, 0, 1, 0, 0]), .inBlock 0, .code (cd8 [1, 1])]) (us := []) (by kernel_rfl) ?_
            refine Runs.fill (m := [some (.slice Aa0 a0.length ca0), none, none, some (.int .i64 (IntKind.i64.wrap (t11 + 1))), none, none, none, none, none, none, none, none, none, none, none, none, none, none, none, none, none, none, none, none, none, none, none, none, none, none, none, none, none]) (by kernel_rfl) ?_
            exact ih18 (IntKind.i64.wrap (t11 + 1)) _ hp65 he16 _ _ hS67
        · skip
          have hp68 := ite_f hp40 h42
          refine q_run 14 (is' := []) (us := [(19, .bool false), (20, undef), (21, undef), (22, undef), (23, undef), (24, undef), (25, undef), (26, undef), (27, undef), (28, undef), (29, undef), (30, undef), (31, .bool false), (32, .bool false)]) (by kernel_rfl) ?_
          refine Qs.nil ?_
          intro w69 hS70
          refine sx_run 8 (todo' := [.inLoop (cd8 [1, 0, 1, 0, 0]), .inBlock 0, .code (cd8 [1, 1])]) (us := [(8, .int .i64 t11), (9, .int .i64 (IntKind.i64.wrap (t11 + 1))), (3, .int .i64 (IntKind.i64.wrap (t11 + 1)))]) (by kernel_rfl) ?_
          refine sx_run 1 (todo' := [.code (cd8 [1, 0, 1, 0, 0]), .inLoop (cd8 [1, 0, 1, 0, 0]), .inBlock 0, .code (cd8 [1, 1])]) (us := []) (by kernel_rfl) ?_
          refine Runs.fill (m := [some (.slice Aa0 a0.length ca0), none, none, some (.int .i64 (IntKind.i64.wrap (t11 + 1))), none, none, none, none, none, none, none, none, none, none, none, none, none, none, none, none, none, none, none, none, none, none, none, none, none, none, none, none, none]) (by kernel_rfl) ?_
          exact ih18 (IntKind.i64.wrap (t11 + 1)) _ hp68 he16 _ _ hS70
    · skip
      have hp71 := ite_f hb17 h23
      refine sx_run 3 (todo' := [.code (cd8 [1, 1])]) (us := []) (by kernel_rfl) ?_
      refine Runs.fill (m := [none, none, none, none, none, none, none, none, none, none, none, none, none, none, none, none, none, none, none, none, none, none, none, none, none, none, none, none, none, none, none, none, none]) (by kernel_rfl) ?_
      exact J7 ((Option.some.inj hp71).trans he16) _ _ hS13
  refine Runs.fill (m := [some (.slice Aa0 a0.length ca0), none, none, some (.int .i64 0), none, none, none, none, none, none, none, none, none, none, none, none, none, none, none, none, none, none, none, none, none, none, none, none, none, none, none, none, none]) (by kernel_rfl) ?_
  exact L20 0 _ hv2 rfl _ _ hS0

noncomputable def cd5 (p : List Nat) : Code := sub (bodyOf Try.f5) p
def weirref23_Cross.l0 (a0 : List api_Final) (a1 : List api_Final) (t44 : Int) : Option (Sum Unit (api_Final × Int × Int)) :=
  (((if (decide (t44 < (a0.length : Int))) = true then some (.inl ()) else (if (decide (t44 < (a1.length : Int))) = true then some (.inl ()) else some (.inr (.inl ())))) : Option (Sum Unit (Sum Unit (api_Final × Int × Int)))) >>= (fun | .inl () => (if (t44 == (a0.length : Int)) = true then (if 0 ≤ t44 ∧ t44 < (a1.length : Int) then some (.inr (((gt a1 t44), 2, 0))) else none) else (if (t44 == (a1.length : Int)) = true then (if 0 ≤ t44 ∧ t44 < (a0.length : Int) then some (.inr (((gt a0 t44), 1, 0))) else none) else (if 0 ≤ t44 ∧ t44 < (a0.length : Int) then (if 0 ≤ t44 ∧ t44 < (a1.length : Int) then (weirref10_Compare.f (gt a0 t44) (gt a1 t44) >>= (fun t104 => (if (decide (t104 < 0)) = true then (if 0 ≤ t44 ∧ t44 < (a0.length : Int) then some (.inr (((gt a0 t44), 1, 0))) else none) else (if (decide (t104 > 0)) = true then (if 0 ≤ t44 ∧ t44 < (a1.length : Int) then some (.inr (((gt a1 t44), 2, 0))) else none) else (weirref23_Cross.l0 a0 a1 (IntKind.i64.wrap (t44 + 1))))))) else none) else none))) | .inr e => some e))
 partial_fixpoint
def weirref23_Cross.f (a0 : List api_Final) (a1 : List api_Final) : Option (api_Final × Int × Int) :=
  (weirref10_Rises.f a0 >>= (fun t5 => (if (!t5) = true then some (((⟨0, (Vector.replicate 48 0)⟩ : api_Final), 0, 100)) else (weirref10_Rises.f a1 >>= (fun t18 => (if (!t18) = true then some (((⟨0, (Vector.replicate 48 0)⟩ : api_Final), 0, 100)) else (weirref23_Cross.l0 a0 a1 0 >>= (fun | .inl () => some (((⟨0, (Vector.replicate 48 0)⟩ : api_Final), 0, 0)) | .inr e => some e))))))))
set_option maxHeartbeats 16000000 in
theorem weirref23_Cross.ok (a0 : List api_Final) (a1 : List api_Final) (Aa0 : Option Addr) (ca0 : Nat) (Aa1 : Option Addr) (ca1 : Nat) {w0 : World} {Z : Zm} {fs : List XObj} {w : World} (hS0 : St w0 Z (fs) w) (ha0 : SlZ (flat enc_api_Final) 49 Z Aa0 ca0 a0) (ha1 : SlZ (flat enc_api_Final) 49 Z Aa1 ca1 a1) {q0 : api_Final} {q1 : Int} {q2 : Int} (hp0 : weirref23_Cross.f a0 a1 = some (q0, q1, q2)) :
    Calls Try.prog 5 #[.slice Aa0 a0.length ca0, .slice Aa1 a1.length ca1] w (fun e w' => e = .returned (.tuple #[.agg (enc_api_Final q0).toArray, .int .i64 q1, .int .i64 q2]) ∧ St w0 Z (fs) w') := by
  refine calls_abs ?_; intro R hR
  unfold weirref23_Cross.f at hp0
  refine calls_of_runs (fn := Try.f5) (c := cd5 []) Try.func5 (by kernel_rfl) (al := [.slice Aa0 a0.length ca0, .slice Aa1 a1.length ca1]) rfl (n := 68) rfl ?_
  refine sx_run 2 (todo' := [.inRegion (opsOf (cd5 [0])) [0, 1, 2], .code (cd5 [1])]) (us := []) (by kernel_rfl) ?_
  refine r_alloc (c := (cd5 [0])) (i := 0) (d := (some 4)) (ty := 0) (z := .agg (enc_api_Final (⟨0, (Vector.replicate 48 0)⟩ : api_Final)).toArray) (t := 25) (cs := enc_api_Final (⟨0, (Vector.replicate 48 0)⟩ : api_Final)) hS0 (by kernel_rfl) (by kernel_rfl) (by kernel_rfl) (by kernel_rfl) ?_
  intro b1 w2 hS3
  refine sx_run 7 (todo' := [.inRegion (opsOf (cd5 [1, 0, 0])) [1, 2, 3, 4, 5, 6, 7], .code (cd5 [1, 0, 1]), .code (cd5 [1, 1])]) (us := [(5, .int .i64 0), (6, .int .i64 0), (9, .slice Aa0 a0.length ca0)]) (by kernel_rfl) ?_
  obtain ⟨t5, hr6, hp7⟩ := bind_some' hp0
  refine r_call1 (c := (cd5 [1, 0, 0])) (i := 1) (d := (some 10)) (g := 8) (args := #[.slice Aa0 a0.length ca0]) (by kernel_rfl) (by kernel_rfl) (by kernel_rfl) (by kernel_rfl) (weirref10_Rises.ok a0 Aa0 ca0 hS3 ha0 hr6) ?_
  rintro _ w8 ⟨rfl, hS9⟩
  refine ⟨.bool t5, rfl, ?_⟩
  refine sx_split 1 (todo' := [.inRegion (opsOf (cd5 [1, 0, 0])) [3, 4, 5, 6, 7], .code (cd5 [1, 0, 1]), .code (cd5 [1, 1])]) (us := []) (d := 11) (t := (!t5)) (by kernel_rfl) (fun h10 => ?_) (fun h11 => ?_)
  · skip
    have hp12 := ite_t hp7 h10
    refine sx_run 10 (todo' := [.inRegion (opsOf (cd5 [1, 0, 1, 0, 0])) [1, 2, 3], .code (cd5 [1, 0, 1, 0, 1]), .code (cd5 [1, 1])]) (us := [(12, .bool true), (13, undef), (14, undef), (15, undef), (16, .bool true), (17, .agg (enc_api_Final (⟨0, (Vector.replicate 48 0)⟩ : api_Final)).toArray)]) (by kernel_rfl) ?_
    refine r_store (c := (cd5 [1, 0, 1, 0, 0])) (i := 1) (d := none) (ty := 0) (t := 25) (x := (.tmp 4)) (y := (.tmp 17)) (b := b1) (o := 0) (e := 25) (cs := enc_api_Final (⟨0, (Vector.replicate 48 0)⟩ : api_Final)) (v := .agg (enc_api_Final (⟨0, (Vector.replicate 48 0)⟩ : api_Final)).toArray) (vs := enc_api_Final (⟨0, (Vector.replicate 48 0)⟩ : api_Final)) (cs' := enc_api_Final (⟨0, (Vector.replicate 48 0)⟩ : api_Final)) hS9 (by kernel_rfl) (by kernel_rfl) (by kernel_rfl) (by kernel_rfl) (by kernel_rfl) (lenK (len_api_Final _) (by kernel_rfl)) (one_api_Final _) (by simp only [len_api_Final, List.length_cons, List.length_nil, List.length_append]; omega) (over_all ((len_api_Final _).trans (len_api_Final _).symm)) ?_
    intro w13 hS14
    refine sx_run 3 (todo' := [.code (cd5 [1, 0, 1, 0, 1]), .code (cd5 [1, 1])]) (us := [(5, .int .i64 0), (6, .int .i64 100)]) (by kernel_rfl) ?_
    have hS15 := hS14.drop
    refine runs_ret (fn := Try.f5) (v := .tuple #[.agg (enc_api_Final (⟨0, (Vector.replicate 48 0)⟩ : api_Final)).toArray, .int .i64 0, .int .i64 100]) Try.func5 (resl_run (fn := Try.f5) (by kernel_rfl) (.cell (t := 4) (ty := 25) (by kernel_rfl) (loads_agg (hS14.blk 0 rfl) (by kernel_rfl) (lenK (len_api_Final _) (by kernel_rfl))) (.tmp (t := 5) (by kernel_rfl) (.tmp (t := 6) (by kernel_rfl) .nil)))) ?_
    have hr16 := (Option.some.inj hp12)
    cases hr16
    exact hR _ _ ⟨rfl, hS15⟩
  · skip
    have hp17 := ite_f hp7 h11
    refine sx_run 2 (todo' := [.inRegion (opsOf (cd5 [1, 0, 0])) [5, 6, 7], .code (cd5 [1, 0, 1]), .code (cd5 [1, 1])]) (us := [(12, .bool false), (13, .slice Aa1 a1.length ca1)]) (by kernel_rfl) ?_
    obtain ⟨t18, hr19, hp20⟩ := bind_some' hp17
    refine r_call1 (c := (cd5 [1, 0, 0])) (i := 5) (d := (some 14)) (g := 8) (args := #[.slice Aa1 a1.length ca1]) (by kernel_rfl) (by kernel_rfl) (by kernel_rfl) (by kernel_rfl) (weirref10_Rises.ok a1 Aa1 ca1 hS9 ha1 hr19) ?_
    rintro _ w21 ⟨rfl, hS22⟩
    refine ⟨.bool t18, rfl, ?_⟩
    refine sx_split 1 (todo' := [.inRegion (opsOf (cd5 [1, 0, 0])) [7], .code (cd5 [1, 0, 1]), .code (cd5 [1, 1])]) (us := []) (d := 15) (t := (!t18)) (by kernel_rfl) (fun h23 => ?_) (fun h24 => ?_)
    · skip
      have hp25 := ite_t hp20 h23
      refine sx_run 6 (todo' := [.inRegion (opsOf (cd5 [1, 0, 1, 0, 0])) [1, 2, 3], .code (cd5 [1, 0, 1, 0, 1]), .code (cd5 [1, 1])]) (us := [(16, .bool true), (17, .agg (enc_api_Final (⟨0, (Vector.replicate 48 0)⟩ : api_Final)).toArray)]) (by kernel_rfl) ?_
      refine r_store (c := (cd5 [1, 0, 1, 0, 0])) (i := 1) (d := none) (ty := 0) (t := 25) (x := (.tmp 4)) (y := (.tmp 17)) (b := b1) (o := 0) (e := 25) (cs := enc_api_Final (⟨0, (Vector.replicate 48 0)⟩ : api_Final)) (v := .agg (enc_api_Final (⟨0, (Vector.replicate 48 0)⟩ : api_Final)).toArray) (vs := enc_api_Final (⟨0, (Vector.replicate 48 0)⟩ : api_Final)) (cs' := enc_api_Final (⟨0, (Vector.replicate 48 0)⟩ : api_Final)) hS22 (by kernel_rfl) (by kernel_rfl) (by kernel_rfl) (by kernel_rfl) (by kernel_rfl) (lenK (len_api_Final _) (by kernel_rfl)) (one_api_Final _) (by simp only [len_api_Final, List.length_cons, List.length_nil, List.length_append]; omega) (over_all ((len_api_Final _).trans (len_api_Final _).symm)) ?_
      intro w26 hS27
      refine sx_run 3 (todo' := [.code (cd5 [1, 0, 1, 0, 1]), .code (cd5 [1, 1])]) (us := [(5, .int .i64 0), (6, .int .i64 100)]) (by kernel_rfl) ?_
      have hS28 := hS27.drop
      refine runs_ret (fn := Try.f5) (v := .tuple #[.agg (enc_api_Final (⟨0, (Vector.replicate 48 0)⟩ : api_Final)).toArray, .int .i64 0, .int .i64 100]) Try.func5 (resl_run (fn := Try.f5) (by kernel_rfl) (.cell (t := 4) (ty := 25) (by kernel_rfl) (loads_agg (hS27.blk 0 rfl) (by kernel_rfl) (lenK (len_api_Final _) (by kernel_rfl))) (.tmp (t := 5) (by kernel_rfl) (.tmp (t := 6) (by kernel_rfl) .nil)))) ?_
      have hr29 := (Option.some.inj hp25)
      cases hr29
      exact hR _ _ ⟨rfl, hS28⟩
    · skip
      have hp30 := ite_f hp20 h24
      refine sx_run 11 (todo' := [.code (cd5 [1, 1, 0, 1, 0, 0]), .inLoop (cd5 [1, 1, 0, 1, 0, 0]), .inBlock 0, .code (cd5 [1, 1, 1])]) (us := [(16, .bool false), (7, .int .i64 0)]) (by kernel_rfl) ?_
      obtain ⟨v31, hv32, hp33⟩ := bind_some' hp30
      have hq36 : ∀ x, Sum.inr x = v31 → x = (q0, q1, q2) := by intro x hx; subst hx; simpa using hp33
      have J37 : ∀ (he39 : Sum.inl () = v31) (l38 : List Value) (w34 : World) (hS35 : St w0 Z (xblk b1 25 (enc_api_Final (⟨0, (Vector.replicate 48 0)⟩ : api_Final)) :: fs) w34), Runs Try.prog 5 [.code (cd5 [1, 1, 1])] (fill [none, none, none, none, some (.pointer (some ⟨b1, 0, none⟩)), none, none, none, none, none, none, none, none, none, none, none, none, none, none, none, none, none, none, none, none, none, none, none, none, none, none, none, none, none, none, none, none, none, none, none, none, none, none, none, none, none, none, none, none, none, none, none, none, none, none, none, none, none, none, none, none, none, none, none, none, none, none, none, none, none] l38) w34 R := by
        intro he39 l38 w34 hS35
        subst he39
        try dsimp only at hp33
        refine sx_run 3 (todo' := [.inRegion (opsOf (cd5 [1, 1, 1, 0])) [1, 2, 3], .code (cd5 [1, 1, 1, 1])]) (us := [(69, .agg (enc_api_Final (⟨0, (Vector.replicate 48 0)⟩ : api_Final)).toArray)]) (by kernel_rfl) ?_
        refine r_store (c := (cd5 [1, 1, 1, 0])) (i := 1) (d := none) (ty := 0) (t := 25) (x := (.tmp 4)) (y := (.tmp 69)) (b := b1) (o := 0) (e := 25) (cs := enc_api_Final (⟨0, (Vector.replicate 48 0)⟩ : api_Final)) (v := .agg (enc_api_Final (⟨0, (Vector.replicate 48 0)⟩ : api_Final)).toArray) (vs := enc_api_Final (⟨0, (Vector.replicate 48 0)⟩ : api_Final)) (cs' := enc_api_Final (⟨0, (Vector.replicate 48 0)⟩ : api_Final)) hS35 (by kernel_rfl) (by kernel_rfl) (by kernel_rfl) (by kernel_rfl) (by kernel_rfl) (lenK (len_api_Final _) (by kernel_rfl)) (one_api_Final _) (by simp only [len_api_Final, List.length_cons, List.length_nil, List.length_append]; omega) (over_all ((len_api_Final _).trans (len_api_Final _).symm)) ?_
        intro w40 hS41
        refine sx_run 3 (todo' := [.code (cd5 [1, 1, 1, 1])]) (us := [(5, .int .i64 0), (6, .int .i64 0)]) (by kernel_rfl) ?_
        have hS42 := hS41.drop
        refine runs_ret (fn := Try.f5) (v := .tuple #[.agg (enc_api_Final (⟨0, (Vector.replicate 48 0)⟩ : api_Final)).toArray, .int .i64 0, .int .i64 0]) Try.func5 (resl_run (fn := Try.f5) (by kernel_rfl) (.cell (t := 4) (ty := 25) (by kernel_rfl) (loads_agg (hS41.blk 0 rfl) (by kernel_rfl) (lenK (len_api_Final _) (by kernel_rfl))) (.tmp (t := 5) (by kernel_rfl) (.tmp (t := 6) (by kernel_rfl) .nil)))) ?_
        have hr43 := (Option.some.inj hp33)
        cases hr43
        exact hR _ _ ⟨rfl, hS42⟩
      have L53 : ∀ (t44 : Int) (e48 : Sum Unit (api_Final × Int × Int)), weirref23_Cross.l0 a0 a1 t44 = some e48 → e48 = v31 → ∀ (l47 : List Value) (w45 : World) (hS46 : St w0 Z (xblk b1 25 (enc_api_Final (⟨0, (Vector.replicate 48 0)⟩ : api_Final)) :: fs) w45), Runs Try.prog 5 [.code (cd5 [1, 1, 0, 1, 0, 0]), .inLoop (cd5 [1, 1, 0, 1, 0, 0]), .inBlock 0, .code (cd5 [1, 1, 1])] (fill [some (.slice Aa0 a0.length ca0), some (.slice Aa1 a1.length ca1), none, none, some (.pointer (some ⟨b1, 0, none⟩)), none, none, some (.int .i64 t44), none, none, none, none, none, none, none, none, none, none, none, none, none, none, none, none, none, none, none, none, none, none, none, none, none, none, none, none, none, none, none, none, none, none, none, none, none, none, none, none, none, none, none, none, none, none, none, none, none, none, none, none, none, none, none, none, none, none, none, none, none, none] l47) w45 R := by
        refine weirref23_Cross.l0.partial_correctness a0 a1 (fun t44 e48 => e48 = v31 → ∀ (l47 : List Value) (w45 : World) (hS46 : St w0 Z (xblk b1 25 (enc_api_Final (⟨0, (Vector.replicate 48 0)⟩ : api_Final)) :: fs) w45), Runs Try.prog 5 [.code (cd5 [1, 1, 0, 1, 0, 0]), .inLoop (cd5 [1, 1, 0, 1, 0, 0]), .inBlock 0, .code (cd5 [1, 1, 1])] (fill [some (.slice Aa0 a0.length ca0), some (.slice Aa1 a1.length ca1), none, none, some (.pointer (some ⟨b1, 0, none⟩)), none, none, some (.int .i64 t44), none, none, none, none, none, none, none, none, none, none, none, none, none, none, none, none, none, none, none, none, none, none, none, none, none, none, none, none, none, none, none, none, none, none, none, none, none, none, none, none, none, none, none, none, none, none, none, none, none, none, none, none, none, none, none, none, none, none, none, none, none, none] l47) w45 R) ?_
        intro rec52 ih51 t44 e48 hb50 he49 l47 w45 hS46
        have hq54 : ∀ x, Sum.inr x = e48 → x = (q0, q1, q2) := fun x hx => hq36 x (hx.trans he49)
        obtain ⟨v55, hv56, hp57⟩ := bind_some' hb50
        have hq60 : ∀ x, Sum.inr x = v55 → x = e48 := by intro x hx; subst hx; simpa using hp57
        have J61 : ∀ (he63 : Sum.inl () = v55) (l62 : List Value) (w58 : World) (hS59 : St w0 Z (xblk b1 25 (enc_api_Final (⟨0, (Vector.replicate 48 0)⟩ : api_Final)) :: fs) w58), Runs Try.prog 5 [.code (cd5 [1, 1, 0, 1, 0, 0, 1]), .inLoop (cd5 [1, 1, 0, 1, 0, 0]), .inBlock 0, .code (cd5 [1, 1, 1])] (fill [some (.slice Aa0 a0.length ca0), some (.slice Aa1 a1.length ca1), none, none, some (.pointer (some ⟨b1, 0, none⟩)), none, none, some (.int .i64 t44), none, none, none, none, none, none, none, none, none, none, none, none, none, none, none, none, none, none, none, none, none, none, none, none, none, none, none, none, none, none, none, none, none, none, none, none, none, none, none, none, none, none, none, none, none, none, none, none, none, none, none, none, none, none, none, none, none, none, none, none, none, none] l62) w58 R := by
          intro he63 l62 w58 hS59
          subst he63
          try dsimp only at hp57
          refine sx_split 10 (todo' := [.inRegion (opsOf (cd5 [1, 1, 0, 1, 0, 0, 1, 0, 0, 0, 0, 0])) [4], .code (cd5 [1, 1, 0, 1, 0, 0, 1, 0, 0, 0, 0, 1]), .inBlock 2, .code (cd5 [1, 1, 0, 1, 0, 0, 1, 0, 0, 1]), .inBlock 1, .code (cd5 [1, 1, 0, 1, 0, 0, 1, 1]), .inLoop (cd5 [1, 1, 0, 1, 0, 0]), .inBlock 0, .code (cd5 [1, 1, 1])]) (us := [(31, .int .i64 t44), (32, .slice Aa0 a0.length ca0), (33, .int .i64 (a0.length : Int))]) (d := 34) (t := (t44 == (a0.length : Int))) (by kernel_rfl) (fun h64 => ?_) (fun h65 => ?_)
          · skip
            have hp66 := ite_t hp57 h64
            refine sx_run 7 (todo' := [.inRegion (opsOf (cd5 [1, 1, 0, 1, 0, 0, 1, 0, 0, 0, 0, 1, 0, 0])) [2, 3, 4, 5, 6], .code (cd5 [1, 1, 0, 1, 0, 0, 1, 0, 0, 0, 0, 1, 0, 1]), .inBlock 2, .code (cd5 [1, 1, 0, 1, 0, 0, 1, 0, 0, 1]), .inBlock 1, .code (cd5 [1, 1, 0, 1, 0, 0, 1, 1]), .inLoop (cd5 [1, 1, 0, 1, 0, 0]), .inBlock 0, .code (cd5 [1, 1, 1])]) (us := [(30, .bool true), (35, .slice Aa1 a1.length ca1), (36, .int .i64 t44)]) (by kernel_rfl) ?_
            obtain ⟨g67, hp68⟩ := ite_some hp66
            obtain ⟨b69, p70, hA71, hc72⟩ := ha1.atF g67.1 g67.2
            refine r_indexAddr (c := (cd5 [1, 1, 0, 1, 0, 0, 1, 0, 0, 0, 0, 1, 0, 0])) (i := 2) (d := (some 37)) (ty := 0) (t := 22) (e := 25) (n := a1.length) (cp := ca1) (sz := 49) (kk := .i64) (x := (.tmp 35)) (y := (.tmp 36)) (b := b69) (o' := p70) (j := t44) (by kernel_rfl) (by kernel_rfl) (slv (by kernel_rfl) hA71) (by kernel_rfl) (by kernel_rfl) (by kernel_rfl) g67.1 g67.2 ?_
            refine r_load (c := (cd5 [1, 1, 0, 1, 0, 0, 1, 0, 0, 0, 0, 1, 0, 0])) (i := 3) (d := (some 38)) (ty := 25) (t := 25) (x := (.tmp 37)) (p := ⟨b69, p70 + t44.toNat * 49, none⟩) (v := .agg (enc_api_Final (gt a1 t44)).toArray) (by kernel_rfl) (by kernel_rfl) (by kernel_rfl) (loads_agg (hc72.cells hS59) (by kernel_rfl) (lenK (len_api_Final _) (by kernel_rfl))) ?_
            refine r_store (c := (cd5 [1, 1, 0, 1, 0, 0, 1, 0, 0, 0, 0, 1, 0, 0])) (i := 4) (d := none) (ty := 0) (t := 25) (x := (.tmp 4)) (y := (.tmp 38)) (b := b1) (o := 0) (e := 25) (cs := enc_api_Final (⟨0, (Vector.replicate 48 0)⟩ : api_Final)) (v := .agg (enc_api_Final (gt a1 t44)).toArray) (vs := enc_api_Final (gt a1 t44)) (cs' := enc_api_Final (gt a1 t44)) hS59 (by kernel_rfl) (by kernel_rfl) (by kernel_rfl) (by kernel_rfl) (by kernel_rfl) (lenK (len_api_Final _) (by kernel_rfl)) (one_api_Final _) (by simp only [len_api_Final, List.length_cons, List.length_nil, List.length_append]; omega) (over_all ((len_api_Final _).trans (len_api_Final _).symm)) ?_
            intro w73 hS74
            refine sx_run 3 (todo' := [.code (cd5 [1, 1, 0, 1, 0, 0, 1, 0, 0, 0, 0, 1, 0, 1]), .inBlock 2, .code (cd5 [1, 1, 0, 1, 0, 0, 1, 0, 0, 1]), .inBlock 1, .code (cd5 [1, 1, 0, 1, 0, 0, 1, 1]), .inLoop (cd5 [1, 1, 0, 1, 0, 0]), .inBlock 0, .code (cd5 [1, 1, 1])]) (us := [(5, .int .i64 2), (6, .int .i64 0)]) (by kernel_rfl) ?_
            have hS75 := hS74.drop
            refine runs_ret (fn := Try.f5) (v := .tuple #[.agg (enc_api_Final (gt a1 t44)).toArray, .int .i64 2, .int .i64 0]) Try.func5 (resl_run (fn := Try.f5) (by kernel_rfl) (.cell (t := 4) (ty := 25) (by kernel_rfl) (loads_agg (hS74.blk 0 rfl) (by kernel_rfl) (lenK (len_api_Final _) (by kernel_rfl))) (.tmp (t := 5) (by kernel_rfl) (.tmp (t := 6) (by kernel_rfl) .nil)))) ?_
            have hr76 := (hq54 _ (Option.some.inj hp68))
            cases hr76
            exact hR _ _ ⟨rfl, hS75⟩
          · skip
            have hp77 := ite_f hp57 h65
            refine sx_split 9 (todo' := [.inRegion (opsOf (cd5 [1, 1, 0, 1, 0, 0, 1, 0, 0, 0, 0, 1, 1, 0])) [4], .code (cd5 [1, 1, 0, 1, 0, 0, 1, 0, 0, 0, 0, 1, 1, 1]), .inBlock 2, .code (cd5 [1, 1, 0, 1, 0, 0, 1, 0, 0, 1]), .inBlock 1, .code (cd5 [1, 1, 0, 1, 0, 0, 1, 1]), .inLoop (cd5 [1, 1, 0, 1, 0, 0]), .inBlock 0, .code (cd5 [1, 1, 1])]) (us := [(30, .bool false), (40, .int .i64 t44), (41, .slice Aa1 a1.length ca1), (42, .int .i64 (a1.length : Int))]) (d := 43) (t := (t44 == (a1.length : Int))) (by kernel_rfl) (fun h78 => ?_) (fun h79 => ?_)
            · skip
              have hp80 := ite_t hp77 h78
              refine sx_run 7 (todo' := [.inRegion (opsOf (cd5 [1, 1, 0, 1, 0, 0, 1, 0, 0, 0, 0, 1, 1, 1, 0, 0])) [2, 3, 4, 5, 6], .code (cd5 [1, 1, 0, 1, 0, 0, 1, 0, 0, 0, 0, 1, 1, 1, 0, 1]), .inBlock 2, .code (cd5 [1, 1, 0, 1, 0, 0, 1, 0, 0, 1]), .inBlock 1, .code (cd5 [1, 1, 0, 1, 0, 0, 1, 1]), .inLoop (cd5 [1, 1, 0, 1, 0, 0]), .inBlock 0, .code (cd5 [1, 1, 1])]) (us := [(39, .bool true), (44, .slice Aa0 a0.length ca0), (45, .int .i64 t44)]) (by kernel_rfl) ?_
              obtain ⟨g81, hp82⟩ := ite_some hp80
              obtain ⟨b83, p84, hA85, hc86⟩ := ha0.atF g81.1 g81.2
              refine r_indexAddr (c := (cd5 [1, 1, 0, 1, 0, 0, 1, 0, 0, 0, 0, 1, 1, 1, 0, 0])) (i := 2) (d := (some 46)) (ty := 0) (t := 22) (e := 25) (n := a0.length) (cp := ca0) (sz := 49) (kk := .i64) (x := (.tmp 44)) (y := (.tmp 45)) (b := b83) (o' := p84) (j := t44) (by kernel_rfl) (by kernel_rfl) (slv (by kernel_rfl) hA85) (by kernel_rfl) (by kernel_rfl) (by kernel_rfl) g81.1 g81.2 ?_
              refine r_load (c := (cd5 [1, 1, 0, 1, 0, 0, 1, 0, 0, 0, 0, 1, 1, 1, 0, 0])) (i := 3) (d := (some 47)) (ty := 25) (t := 25) (x := (.tmp 46)) (p := ⟨b83, p84 + t44.toNat * 49, none⟩) (v := .agg (enc_api_Final (gt a0 t44)).toArray) (by kernel_rfl) (by kernel_rfl) (by kernel_rfl) (loads_agg (hc86.cells hS59) (by kernel_rfl) (lenK (len_api_Final _) (by kernel_rfl))) ?_
              refine r_store (c := (cd5 [1, 1, 0, 1, 0, 0, 1, 0, 0, 0, 0, 1, 1, 1, 0, 0])) (i := 4) (d := none) (ty := 0) (t := 25) (x := (.tmp 4)) (y := (.tmp 47)) (b := b1) (o := 0) (e := 25) (cs := enc_api_Final (⟨0, (Vector.replicate 48 0)⟩ : api_Final)) (v := .agg (enc_api_Final (gt a0 t44)).toArray) (vs := enc_api_Final (gt a0 t44)) (cs' := enc_api_Final (gt a0 t44)) hS59 (by kernel_rfl) (by kernel_rfl) (by kernel_rfl) (by kernel_rfl) (by kernel_rfl) (lenK (len_api_Final _) (by kernel_rfl)) (one_api_Final _) (by simp only [len_api_Final, List.length_cons, List.length_nil, List.length_append]; omega) (over_all ((len_api_Final _).trans (len_api_Final _).symm)) ?_
              intro w87 hS88
              refine sx_run 3 (todo' := [.code (cd5 [1, 1, 0, 1, 0, 0, 1, 0, 0, 0, 0, 1, 1, 1, 0, 1]), .inBlock 2, .code (cd5 [1, 1, 0, 1, 0, 0, 1, 0, 0, 1]), .inBlock 1, .code (cd5 [1, 1, 0, 1, 0, 0, 1, 1]), .inLoop (cd5 [1, 1, 0, 1, 0, 0]), .inBlock 0, .code (cd5 [1, 1, 1])]) (us := [(5, .int .i64 1), (6, .int .i64 0)]) (by kernel_rfl) ?_
              have hS89 := hS88.drop
              refine runs_ret (fn := Try.f5) (v := .tuple #[.agg (enc_api_Final (gt a0 t44)).toArray, .int .i64 1, .int .i64 0]) Try.func5 (resl_run (fn := Try.f5) (by kernel_rfl) (.cell (t := 4) (ty := 25) (by kernel_rfl) (loads_agg (hS88.blk 0 rfl) (by kernel_rfl) (lenK (len_api_Final _) (by kernel_rfl))) (.tmp (t := 5) (by kernel_rfl) (.tmp (t := 6) (by kernel_rfl) .nil)))) ?_
              have hr90 := (hq54 _ (Option.some.inj hp82))
              cases hr90
              exact hR _ _ ⟨rfl, hS89⟩
            · skip
              have hp91 := ite_f hp77 h79
              refine sx_run 6 (todo' := [.code (cd5 [1, 1, 0, 1, 0, 0, 1, 0, 0, 1, 0]), .code (cd5 [1, 1, 0, 1, 0, 0, 1, 0, 0, 1, 1]), .inBlock 1, .code (cd5 [1, 1, 0, 1, 0, 0, 1, 1]), .inLoop (cd5 [1, 1, 0, 1, 0, 0]), .inBlock 0, .code (cd5 [1, 1, 1])]) (us := [(39, .bool false)]) (by kernel_rfl) ?_
              refine r_quiet hS59 (c := (cd5 [1, 1, 0, 1, 0, 0, 1, 0, 0, 1, 0])) (id := 10) (by kernel_rfl) (by kernel_rfl) (by kernel_rfl) (is := [0, 1, 2, 3, 4, 5, 6, 7, 8, 9]) (by kernel_rfl) ?_
              refine q_run 2 (is' := [2, 3, 4, 5, 6, 7, 8, 9]) (us := [(48, .slice Aa0 a0.length ca0), (49, .int .i64 t44)]) (by kernel_rfl) ?_
              obtain ⟨g92, hp93⟩ := ite_some hp91
              obtain ⟨b94, p95, hA96, hc97⟩ := ha0.atF g92.1 g92.2
              refine q_indexAddr (c := (cd5 [1, 1, 0, 1, 0, 0, 1, 0, 0, 1, 0])) (i := 2) (d := (some 50)) (ty := 0) (t := 22) (e := 25) (n := a0.length) (cp := ca0) (sz := 49) (kk := .i64) (x := (.tmp 48)) (y := (.tmp 49)) (b := b94) (o' := p95) (j := t44) (by kernel_rfl) (by kernel_rfl) (slv (by kernel_rfl) hA96) (by kernel_rfl) (by kernel_rfl) (by kernel_rfl) g92.1 g92.2 ?_
              refine q_load (c := (cd5 [1, 1, 0, 1, 0, 0, 1, 0, 0, 1, 0])) (i := 3) (d := (some 51)) (ty := 25) (t := 25) (x := (.tmp 50)) (p := ⟨b94, p95 + t44.toNat * 49, none⟩) (v := .agg (enc_api_Final (gt a0 t44)).toArray) (by kernel_rfl) (by kernel_rfl) (by kernel_rfl) (fun w hC => (loads_agg (hc97.cells hC) (by kernel_rfl) (lenK (len_api_Final _) (by kernel_rfl)))) ?_
              refine q_run 2 (is' := [6, 7, 8, 9]) (us := [(52, .slice Aa1 a1.length ca1), (53, .int .i64 t44)]) (by kernel_rfl) ?_
              obtain ⟨g98, hp99⟩ := ite_some hp93
              obtain ⟨b100, p101, hA102, hc103⟩ := ha1.atF g98.1 g98.2
              refine q_indexAddr (c := (cd5 [1, 1, 0, 1, 0, 0, 1, 0, 0, 1, 0])) (i := 6) (d := (some 54)) (ty := 0) (t := 22) (e := 25) (n := a1.length) (cp := ca1) (sz := 49) (kk := .i64) (x := (.tmp 52)) (y := (.tmp 53)) (b := b100) (o' := p101) (j := t44) (by kernel_rfl) (by kernel_rfl) (slv (by kernel_rfl) hA102) (by kernel_rfl) (by kernel_rfl) (by kernel_rfl) g98.1 g98.2 ?_
              refine q_load (c := (cd5 [1, 1, 0, 1, 0, 0, 1, 0, 0, 1, 0])) (i := 7) (d := (some 55)) (ty := 25) (t := 25) (x := (.tmp 54)) (p := ⟨b100, p101 + t44.toNat * 49, none⟩) (v := .agg (enc_api_Final (gt a1 t44)).toArray) (by kernel_rfl) (by kernel_rfl) (by kernel_rfl) (fun w hC => (loads_agg (hc103.cells hC) (by kernel_rfl) (lenK (len_api_Final _) (by kernel_rfl)))) ?_
              obtain ⟨t104, hr105, hp106⟩ := bind_some' hp99
              refine q_call1 (c := (cd5 [1, 1, 0, 1, 0, 0, 1, 0, 0, 1, 0])) (i := 8) (d := (some 56)) (v := .int .i64 t104) (g := 9) (args := #[.agg (enc_api_Final (gt a0 t44)).toArray, .agg (enc_api_Final (gt a1 t44)).toArray]) (by kernel_rfl) (by kernel_rfl) (by kernel_rfl) (by kernel_rfl) (fun w hC => by
                refine (weirref10_Compare.ok (gt a0 t44) (gt a1 t44) hC hr105).mono ?_
                rintro e w2 ⟨rfl, h2⟩
                exact ⟨rfl, h2⟩) ?_
              refine q_run 1 (is' := []) (us := [(8, .int .i64 t104)]) (by kernel_rfl) ?_
              refine Qs.nil ?_
              intro w107 hS108
              refine sx_split 5 (todo' := [.inRegion (opsOf (cd5 [1, 1, 0, 1, 0, 0, 1, 0, 0, 1, 1, 0, 0])) [], .code (cd5 [1, 1, 0, 1, 0, 0, 1, 0, 0, 1, 1, 0, 1]), .code (cd5 [1, 1, 0, 1, 0, 0, 1, 0, 0, 1, 1, 1]), .inBlock 1, .code (cd5 [1, 1, 0, 1, 0, 0, 1, 1]), .inLoop (cd5 [1, 1, 0, 1, 0, 0]), .inBlock 0, .code (cd5 [1, 1, 1])]) (us := [(57, .int .i64 t104)]) (d := 58) (t := (decide (t104 < 0))) (by kernel_rfl) (fun h109 => ?_) (fun h110 => ?_)
              · skip
                have hp111 := ite_t hp106 h109
                refine sx_run 6 (todo' := [.inRegion (opsOf (cd5 [1, 1, 0, 1, 0, 0, 1, 0, 0, 1, 1, 0, 1, 0, 0])) [2, 3, 4, 5, 6], .code (cd5 [1, 1, 0, 1, 0, 0, 1, 0, 0, 1, 1, 0, 1, 0, 1]), .code (cd5 [1, 1, 0, 1, 0, 0, 1, 0, 0, 1, 1, 1]), .inBlock 1, .code (cd5 [1, 1, 0, 1, 0, 0, 1, 1]), .inLoop (cd5 [1, 1, 0, 1, 0, 0]), .inBlock 0, .code (cd5 [1, 1, 1])]) (us := [(59, .slice Aa0 a0.length ca0), (60, .int .i64 t44)]) (by kernel_rfl) ?_
                obtain ⟨g112, hp113⟩ := ite_some hp111
                obtain ⟨b114, p115, hA116, hc117⟩ := ha0.atF g112.1 g112.2
                refine r_indexAddr (c := (cd5 [1, 1, 0, 1, 0, 0, 1, 0, 0, 1, 1, 0, 1, 0, 0])) (i := 2) (d := (some 61)) (ty := 0) (t := 22) (e := 25) (n := a0.length) (cp := ca0) (sz := 49) (kk := .i64) (x := (.tmp 59)) (y := (.tmp 60)) (b := b114) (o' := p115) (j := t44) (by kernel_rfl) (by kernel_rfl) (slv (by kernel_rfl) hA116) (by kernel_rfl) (by kernel_rfl) (by kernel_rfl) g112.1 g112.2 ?_
                refine r_load (c := (cd5 [1, 1, 0, 1, 0, 0, 1, 0, 0, 1, 1, 0, 1, 0, 0])) (i := 3) (d := (some 62)) (ty := 25) (t := 25) (x := (.tmp 61)) (p := ⟨b114, p115 + t44.toNat * 49, none⟩) (v := .agg (enc_api_Final (gt a0 t44)).toArray) (by kernel_rfl) (by kernel_rfl) (by kernel_rfl) (loads_agg (hc117.cells hS108) (by kernel_rfl) (lenK (len_api_Final _) (by kernel_rfl))) ?_
                refine r_store (c := (cd5 [1, 1, 0, 1, 0, 0, 1, 0, 0, 1, 1, 0, 1, 0, 0])) (i := 4) (d := none) (ty := 0) (t := 25) (x := (.tmp 4)) (y := (.tmp 62)) (b := b1) (o := 0) (e := 25) (cs := enc_api_Final (⟨0, (Vector.replicate 48 0)⟩ : api_Final)) (v := .agg (enc_api_Final (gt a0 t44)).toArray) (vs := enc_api_Final (gt a0 t44)) (cs' := enc_api_Final (gt a0 t44)) hS108 (by kernel_rfl) (by kernel_rfl) (by kernel_rfl) (by kernel_rfl) (by kernel_rfl) (lenK (len_api_Final _) (by kernel_rfl)) (one_api_Final _) (by simp only [len_api_Final, List.length_cons, List.length_nil, List.length_append]; omega) (over_all ((len_api_Final _).trans (len_api_Final _).symm)) ?_
                intro w118 hS119
                refine sx_run 3 (todo' := [.code (cd5 [1, 1, 0, 1, 0, 0, 1, 0, 0, 1, 1, 0, 1, 0, 1]), .code (cd5 [1, 1, 0, 1, 0, 0, 1, 0, 0, 1, 1, 1]), .inBlock 1, .code (cd5 [1, 1, 0, 1, 0, 0, 1, 1]), .inLoop (cd5 [1, 1, 0, 1, 0, 0]), .inBlock 0, .code (cd5 [1, 1, 1])]) (us := [(5, .int .i64 1), (6, .int .i64 0)]) (by kernel_rfl) ?_
                have hS120 := hS119.drop
                refine runs_ret (fn := Try.f5) (v := .tuple #[.agg (enc_api_Final (gt a0 t44)).toArray, .int .i64 1, .int .i64 0]) Try.func5 (resl_run (fn := Try.f5) (by kernel_rfl) (.cell (t := 4) (ty := 25) (by kernel_rfl) (loads_agg (hS119.blk 0 rfl) (by kernel_rfl) (lenK (len_api_Final _) (by kernel_rfl))) (.tmp (t := 5) (by kernel_rfl) (.tmp (t := 6) (by kernel_rfl) .nil)))) ?_
                have hr121 := (hq54 _ (Option.some.inj hp113))
                cases hr121
                exact hR _ _ ⟨rfl, hS120⟩
              · skip
                have hp122 := ite_f hp106 h110
                refine sx_split 7 (todo' := [.inRegion (opsOf (cd5 [1, 1, 0, 1, 0, 0, 1, 0, 0, 1, 1, 1, 0])) [], .code (cd5 [1, 1, 0, 1, 0, 0, 1, 0, 0, 1, 1, 1, 1]), .inBlock 1, .code (cd5 [1, 1, 0, 1, 0, 0, 1, 1]), .inLoop (cd5 [1, 1, 0, 1, 0, 0]), .inBlock 0, .code (cd5 [1, 1, 1])]) (us := [(63, .int .i64 t104)]) (d := 64) (t := (decide (t104 > 0))) (by kernel_rfl) (fun h123 => ?_) (fun h124 => ?_)
                · skip
                  have hp125 := ite_t hp122 h123
                  refine sx_run 6 (todo' := [.inRegion (opsOf (cd5 [1, 1, 0, 1, 0, 0, 1, 0, 0, 1, 1, 1, 1, 0, 0])) [2, 3, 4, 5, 6], .code (cd5 [1, 1, 0, 1, 0, 0, 1, 0, 0, 1, 1, 1, 1, 0, 1]), .inBlock 1, .code (cd5 [1, 1, 0, 1, 0, 0, 1, 1]), .inLoop (cd5 [1, 1, 0, 1, 0, 0]), .inBlock 0, .code (cd5 [1, 1, 1])]) (us := [(65, .slice Aa1 a1.length ca1), (66, .int .i64 t44)]) (by kernel_rfl) ?_
                  obtain ⟨g126, hp127⟩ := ite_some hp125
                  obtain ⟨b128, p129, hA130, hc131⟩ := ha1.atF g126.1 g126.2
                  refine r_indexAddr (c := (cd5 [1, 1, 0, 1, 0, 0, 1, 0, 0, 1, 1, 1, 1, 0, 0])) (i := 2) (d := (some 67)) (ty := 0) (t := 22) (e := 25) (n := a1.length) (cp := ca1) (sz := 49) (kk := .i64) (x := (.tmp 65)) (y := (.tmp 66)) (b := b128) (o' := p129) (j := t44) (by kernel_rfl) (by kernel_rfl) (slv (by kernel_rfl) hA130) (by kernel_rfl) (by kernel_rfl) (by kernel_rfl) g126.1 g126.2 ?_
                  refine r_load (c := (cd5 [1, 1, 0, 1, 0, 0, 1, 0, 0, 1, 1, 1, 1, 0, 0])) (i := 3) (d := (some 68)) (ty := 25) (t := 25) (x := (.tmp 67)) (p := ⟨b128, p129 + t44.toNat * 49, none⟩) (v := .agg (enc_api_Final (gt a1 t44)).toArray) (by kernel_rfl) (by kernel_rfl) (by kernel_rfl) (loads_agg (hc131.cells hS108) (by kernel_rfl) (lenK (len_api_Final _) (by kernel_rfl))) ?_
                  refine r_store (c := (cd5 [1, 1, 0, 1, 0, 0, 1, 0, 0, 1, 1, 1, 1, 0, 0])) (i := 4) (d := none) (ty := 0) (t := 25) (x := (.tmp 4)) (y := (.tmp 68)) (b := b1) (o := 0) (e := 25) (cs := enc_api_Final (⟨0, (Vector.replicate 48 0)⟩ : api_Final)) (v := .agg (enc_api_Final (gt a1 t44)).toArray) (vs := enc_api_Final (gt a1 t44)) (cs' := enc_api_Final (gt a1 t44)) hS108 (by kernel_rfl) (by kernel_rfl) (by kernel_rfl) (by kernel_rfl) (by kernel_rfl) (lenK (len_api_Final _) (by kernel_rfl)) (one_api_Final _) (by simp only [len_api_Final, List.length_cons, List.length_nil, List.length_append]; omega) (over_all ((len_api_Final _).trans (len_api_Final _).symm)) ?_
                  intro w132 hS133
                  refine sx_run 3 (todo' := [.code (cd5 [1, 1, 0, 1, 0, 0, 1, 0, 0, 1, 1, 1, 1, 0, 1]), .inBlock 1, .code (cd5 [1, 1, 0, 1, 0, 0, 1, 1]), .inLoop (cd5 [1, 1, 0, 1, 0, 0]), .inBlock 0, .code (cd5 [1, 1, 1])]) (us := [(5, .int .i64 2), (6, .int .i64 0)]) (by kernel_rfl) ?_
                  have hS134 := hS133.drop
                  refine runs_ret (fn := Try.f5) (v := .tuple #[.agg (enc_api_Final (gt a1 t44)).toArray, .int .i64 2, .int .i64 0]) Try.func5 (resl_run (fn := Try.f5) (by kernel_rfl) (.cell (t := 4) (ty := 25) (by kernel_rfl) (loads_agg (hS133.blk 0 rfl) (by kernel_rfl) (lenK (len_api_Final _) (by kernel_rfl))) (.tmp (t := 5) (by kernel_rfl) (.tmp (t := 6) (by kernel_rfl) .nil)))) ?_
                  have hr135 := (hq54 _ (Option.some.inj hp127))
                  cases hr135
                  exact hR _ _ ⟨rfl, hS134⟩
                · skip
                  have hp136 := ite_f hp122 h124
                  refine sx_run 9 (todo' := [.inLoop (cd5 [1, 1, 0, 1, 0, 0]), .inBlock 0, .code (cd5 [1, 1, 1])]) (us := [(28, .int .i64 t44), (29, .int .i64 (IntKind.i64.wrap (t44 + 1))), (7, .int .i64 (IntKind.i64.wrap (t44 + 1)))]) (by kernel_rfl) ?_
                  refine sx_run 1 (todo' := [.code (cd5 [1, 1, 0, 1, 0, 0]), .inLoop (cd5 [1, 1, 0, 1, 0, 0]), .inBlock 0, .code (cd5 [1, 1, 1])]) (us := []) (by kernel_rfl) ?_
                  refine Runs.fill (m := [some (.slice Aa0 a0.length ca0), some (.slice Aa1 a1.length ca1), none, none, some (.pointer (some ⟨b1, 0, none⟩)), none, none, some (.int .i64 (IntKind.i64.wrap (t44 + 1))), none, none, none, none, none, none, none, none, none, none, none, none, none, none, none, none, none, none, none, none, none, none, none, none, none, none, none, none, none, none, none, none, none, none, none, none, none, none, none, none, none, none, none, none, none, none, none, none, none, none, none, none, none, none, none, none, none, none, none, none, none, none]) (by kernel_rfl) ?_
                  exact ih51 (IntKind.i64.wrap (t44 + 1)) _ hp136 he49 _ _ hS108
        refine sx_split 7 (todo' := [.inRegion (opsOf (cd5 [1, 1, 0, 1, 0, 0, 0, 0])) [4, 5, 6, 7, 8, 9], .code (cd5 [1, 1, 0, 1, 0, 0, 0, 1]), .code (cd5 [1, 1, 0, 1, 0, 0, 1]), .inLoop (cd5 [1, 1, 0, 1, 0, 0]), .inBlock 0, .code (cd5 [1, 1, 1])]) (us := [(18, .int .i64 t44), (19, .slice Aa0 a0.length ca0), (20, .int .i64 (a0.length : Int))]) (d := 21) (t := (decide (t44 < (a0.length : Int)))) (by kernel_rfl) (fun h137 => ?_) (fun h138 => ?_)
        · skip
          have hp139 := ite_t hv56 h137
          refine sx_run 9 (todo' := [.code (cd5 [1, 1, 0, 1, 0, 0, 1]), .inLoop (cd5 [1, 1, 0, 1, 0, 0]), .inBlock 0, .code (cd5 [1, 1, 1])]) (us := [(22, .bool true), (23, undef), (24, undef), (25, undef), (26, undef), (27, .bool true)]) (by kernel_rfl) ?_
          refine Runs.fill (m := [some (.slice Aa0 a0.length ca0), some (.slice Aa1 a1.length ca1), none, none, some (.pointer (some ⟨b1, 0, none⟩)), none, none, some (.int .i64 t44), none, none, none, none, none, none, none, none, none, none, none, none, none, none, none, none, none, none, none, none, none, none, none, none, none, none, none, none, none, none, none, none, none, none, none, none, none, none, none, none, none, none, none, none, none, none, none, none, none, none, none, none, none, none, none, none, none, none, none, none, none, none]) (by kernel_rfl) ?_
          exact J61 (Option.some.inj hp139) _ _ hS46
        · skip
          have hp140 := ite_f hv56 h138
          refine sx_split 5 (todo' := [.inRegion (opsOf (cd5 [1, 1, 0, 1, 0, 0, 0, 0])) [9], .code (cd5 [1, 1, 0, 1, 0, 0, 0, 1]), .code (cd5 [1, 1, 0, 1, 0, 0, 1]), .inLoop (cd5 [1, 1, 0, 1, 0, 0]), .inBlock 0, .code (cd5 [1, 1, 1])]) (us := [(22, .bool false), (23, .int .i64 t44), (24, .slice Aa1 a1.length ca1), (25, .int .i64 (a1.length : Int))]) (d := 26) (t := (decide (t44 < (a1.length : Int)))) (by kernel_rfl) (fun h141 => ?_) (fun h142 => ?_)
          · skip
            have hp143 := ite_t hp140 h141
            refine sx_run 4 (todo' := [.code (cd5 [1, 1, 0, 1, 0, 0, 1]), .inLoop (cd5 [1, 1, 0, 1, 0, 0]), .inBlock 0, .code (cd5 [1, 1, 1])]) (us := [(27, .bool true)]) (by kernel_rfl) ?_
            refine Runs.fill (m := [some (.slice Aa0 a0.length ca0), some (.slice Aa1 a1.length ca1), none, none, some (.pointer (some ⟨b1, 0, none⟩)), none, none, some (.int .i64 t44), none, none, none, none, none, none, none, none, none, none, none, none, none, none, none, none, none, none, none, none, none, none, none, none, none, none, none, none, none, none, none, none, none, none, none, none, none, none, none, none, none, none, none, none, none, none, none, none, none, none, none, none, none, none, none, none, none, none, none, none, none, none]) (by kernel_rfl) ?_
            exact J61 (Option.some.inj hp143) _ _ hS46
          · skip
            have hp144 := ite_f hp140 h142
            refine sx_run 4 (todo' := [.code (cd5 [1, 1, 1])]) (us := [(27, .bool false)]) (by kernel_rfl) ?_
            refine Runs.fill (m := [none, none, none, none, some (.pointer (some ⟨b1, 0, none⟩)), none, none, none, none, none, none, none, none, none, none, none, none, none, none, none, none, none, none, none, none, none, none, none, none, none, none, none, none, none, none, none, none, none, none, none, none, none, none, none, none, none, none, none, none, none, none, none, none, none, none, none, none, none, none, none, none, none, none, none, none, none, none, none, none, none]) (by kernel_rfl) ?_
            exact J37 ((hq60 _ (Option.some.inj hp144)).trans he49) _ _ hS46
      refine Runs.fill (m := [some (.slice Aa0 a0.length ca0), some (.slice Aa1 a1.length ca1), none, none, some (.pointer (some ⟨b1, 0, none⟩)), none, none, some (.int .i64 0), none, none, none, none, none, none, none, none, none, none, none, none, none, none, none, none, none, none, none, none, none, none, none, none, none, none, none, none, none, none, none, none, none, none, none, none, none, none, none, none, none, none, none, none, none, none, none, none, none, none, none, none, none, none, none, none, none, none, none, none, none, none]) (by kernel_rfl) ?_
      exact L53 0 _ hv32 rfl _ _ hS22

noncomputable def cd3 (p : List Nat) : Code := sub (bodyOf Try.f3) p
def weirlaw23_VerdictCrosses.f (a0 : List api_Final) (a1 : List api_Final) : Option Bool :=
  (verdict_Cross.f a0 a1 >>= (fun (t1, t2, t3) => (weirref23_Cross.f a0 a1 >>= (fun (t14, t15, t16) => (if (decide (t1 = t14)) = true then (if (t2 == t15) = true then (if (t3 == t16) = true then some (true) else some (false)) else some (false)) else some (false))))))
set_option maxHeartbeats 16000000 in
theorem weirlaw23_VerdictCrosses.ok (a0 : List api_Final) (a1 : List api_Final) (Aa0 : Option Addr) (ca0 : Nat) (Aa1 : Option Addr) (ca1 : Nat) {w0 : World} {Z : Zm} {fs : List XObj} {w : World} (hS0 : St w0 Z (fs) w) (ha0 : SlZ (flat enc_api_Final) 49 Z Aa0 ca0 a0) (ha1 : SlZ (flat enc_api_Final) 49 Z Aa1 ca1 a1) {q0 : Bool} (hp0 : weirlaw23_VerdictCrosses.f a0 a1 = some q0) :
    Calls Try.prog 3 #[.slice Aa0 a0.length ca0, .slice Aa1 a1.length ca1] w (fun e w' => e = .returned (.bool q0) ∧ St w0 Z (fs) w') := by
  refine calls_abs ?_; intro R hR
  unfold weirlaw23_VerdictCrosses.f at hp0
  refine calls_of_runs (fn := Try.f3) (c := cd3 []) Try.func3 (by kernel_rfl) (al := [.slice Aa0 a0.length ca0, .slice Aa1 a1.length ca1]) rfl (n := 36) rfl ?_
  refine sx_run 8 (todo' := [.inRegion (opsOf (cd3 [1, 0])) [2, 3, 4, 5, 6, 7, 8, 9, 10], .code (cd3 [1, 1])]) (us := [(4, .bool false), (12, .slice Aa0 a0.length ca0), (13, .slice Aa1 a1.length ca1)]) (by kernel_rfl) ?_
  obtain ⟨⟨t1, t2, t3⟩, hr4, hp5⟩ := bind_some' hp0
  try dsimp only at hp5
  refine r_call1 (c := (cd3 [1, 0])) (i := 2) (d := (some 14)) (g := 4) (args := #[.slice Aa0 a0.length ca0, .slice Aa1 a1.length ca1]) (by kernel_rfl) (by kernel_rfl) (by kernel_rfl) (by kernel_rfl) (verdict_Cross.ok a0 a1 Aa0 ca0 Aa1 ca1 hS0 ha0 ha1 hr4) ?_
  rintro _ w6 ⟨rfl, hS7⟩
  refine ⟨.tuple #[.agg (enc_api_Final t1).toArray, .int .i64 t2, .int .i64 t3], rfl, ?_⟩
  refine sx_run 4 (todo' := [.inRegion (opsOf (cd3 [1, 0])) [7, 8, 9, 10], .code (cd3 [1, 1])]) (us := [(11, .tuple #[.agg (enc_api_Final t1).toArray, .int .i64 t2, .int .i64 t3]), (15, .agg (enc_api_Final t1).toArray), (16, .int .i64 t2), (17, .int .i64 t3)]) (by kernel_rfl) ?_
  refine r_alloc (c := (cd3 [1, 0])) (i := 7) (d := (some 5)) (ty := 0) (z := .agg (enc_api_Final (⟨0, (Vector.replicate 48 0)⟩ : api_Final)).toArray) (t := 25) (cs := enc_api_Final (⟨0, (Vector.replicate 48 0)⟩ : api_Final)) hS7 (by kernel_rfl) (by kernel_rfl) (by kernel_rfl) (by kernel_rfl) ?_
  intro b8 w9 hS10
  refine r_store (c := (cd3 [1, 0])) (i := 8) (d := none) (ty := 0) (t := 25) (x := (.tmp 5)) (y := (.tmp 15)) (b := b8) (o := 0) (e := 25) (cs := enc_api_Final (⟨0, (Vector.replicate 48 0)⟩ : api_Final)) (v := .agg (enc_api_Final t1).toArray) (vs := enc_api_Final t1) (cs' := enc_api_Final t1) hS10 (by kernel_rfl) (by kernel_rfl) (by kernel_rfl) (by kernel_rfl) (by kernel_rfl) (lenK (len_api_Final _) (by kernel_rfl)) (one_api_Final _) (by simp only [len_api_Final, List.length_cons, List.length_nil, List.length_append]; omega) (over_all ((len_api_Final _).trans (len_api_Final _).symm)) ?_
  intro w12 hS13
  refine sx_run 7 (todo' := [.inRegion (opsOf (cd3 [1, 1, 0])) [2, 3, 4, 5, 6, 7, 8, 9, 10], .code (cd3 [1, 1, 1])]) (us := [(6, .int .i64 t2), (7, .int .i64 t3), (19, .slice Aa0 a0.length ca0), (20, .slice Aa1 a1.length ca1)]) (by kernel_rfl) ?_
  obtain ⟨⟨t14, t15, t16⟩, hr17, hp18⟩ := bind_some' hp5
  try dsimp only at hp18
  refine r_call1 (c := (cd3 [1, 1, 0])) (i := 2) (d := (some 21)) (g := 5) (args := #[.slice Aa0 a0.length ca0, .slice Aa1 a1.length ca1]) (by kernel_rfl) (by kernel_rfl) (by kernel_rfl) (by kernel_rfl) (weirref23_Cross.ok a0 a1 Aa0 ca0 Aa1 ca1 hS13 ha0 ha1 hr17) ?_
  rintro _ w19 ⟨rfl, hS20⟩
  refine ⟨.tuple #[.agg (enc_api_Final t14).toArray, .int .i64 t15, .int .i64 t16], rfl, ?_⟩
  refine sx_run 4 (todo' := [.inRegion (opsOf (cd3 [1, 1, 0])) [7, 8, 9, 10], .code (cd3 [1, 1, 1])]) (us := [(18, .tuple #[.agg (enc_api_Final t14).toArray, .int .i64 t15, .int .i64 t16]), (22, .agg (enc_api_Final t14).toArray), (23, .int .i64 t15), (24, .int .i64 t16)]) (by kernel_rfl) ?_
  refine r_alloc (c := (cd3 [1, 1, 0])) (i := 7) (d := (some 8)) (ty := 0) (z := .agg (enc_api_Final (⟨0, (Vector.replicate 48 0)⟩ : api_Final)).toArray) (t := 25) (cs := enc_api_Final (⟨0, (Vector.replicate 48 0)⟩ : api_Final)) hS20 (by kernel_rfl) (by kernel_rfl) (by kernel_rfl) (by kernel_rfl) ?_
  intro b21 w22 hS23
  refine r_store (c := (cd3 [1, 1, 0])) (i := 8) (d := none) (ty := 0) (t := 25) (x := (.tmp 8)) (y := (.tmp 22)) (b := b21) (o := 0) (e := 25) (cs := enc_api_Final (⟨0, (Vector.replicate 48 0)⟩ : api_Final)) (v := .agg (enc_api_Final t14).toArray) (vs := enc_api_Final t14) (cs' := enc_api_Final t14) hS23 (by kernel_rfl) (by kernel_rfl) (by kernel_rfl) (by kernel_rfl) (by kernel_rfl) (lenK (len_api_Final _) (by kernel_rfl)) (one_api_Final _) (by simp only [len_api_Final, List.length_cons, List.length_nil, List.length_append]; omega) (over_all ((len_api_Final _).trans (len_api_Final _).symm)) ?_
  intro w25 hS26
  refine sx_run 5 (todo' := [.inRegion (opsOf (cd3 [1, 1, 1, 0])) [0, 1, 2, 3, 4, 5, 6, 7, 8, 9, 10, 11, 12, 13], .code (cd3 [1, 1, 1, 1])]) (us := [(9, .int .i64 t15), (10, .int .i64 t16)]) (by kernel_rfl) ?_
  refine r_load (c := (cd3 [1, 1, 1, 0])) (i := 0) (d := (some 25)) (ty := 25) (t := 25) (x := (.tmp 5)) (p := ⟨b8, 0, none⟩) (v := .agg (enc_api_Final t1).toArray) (by kernel_rfl) (by kernel_rfl) (by kernel_rfl) (loads_agg (hS26.blk 1 rfl) (by kernel_rfl) (lenK (len_api_Final _) (by kernel_rfl))) ?_
  refine r_load (c := (cd3 [1, 1, 1, 0])) (i := 1) (d := (some 26)) (ty := 25) (t := 25) (x := (.tmp 8)) (p := ⟨b21, 0, none⟩) (v := .agg (enc_api_Final t14).toArray) (by kernel_rfl) (by kernel_rfl) (by kernel_rfl) (loads_agg (hS26.blk 0 rfl) (by kernel_rfl) (lenK (len_api_Final _) (by kernel_rfl))) ?_
  refine r_val (c := (cd3 [1, 1, 1, 0])) (i := 2) (d := (some 27)) (ty := 4) (op := .binOp .eql 25 (.tmp 25) (.tmp 26) 25) (v := .bool (decide (t1 = t14))) (by kernel_rfl) (by kernel_rfl) (fun o ho _ => x_eql_api_Final (by kernel_rfl) (by kernel_rfl) ho) ?_
  refine r_split (decide (t1 = t14)) (fun h27 => ?_) (fun h28 => ?_)
  · skip
    have hp29 := ite_t hp18 h27
    refine sx_split 4 (todo' := [.inRegion (opsOf (cd3 [1, 1, 1, 0])) [7, 8, 9, 10, 11, 12, 13], .code (cd3 [1, 1, 1, 1])]) (us := [(28, .bool true), (29, .int .i64 t2), (30, .int .i64 t15)]) (d := 31) (t := (t2 == t15)) (by kernel_rfl) (fun h30 => ?_) (fun h31 => ?_)
    · skip
      have hp32 := ite_t hp29 h30
      refine sx_split 5 (todo' := [.inRegion (opsOf (cd3 [1, 1, 1, 0])) [12, 13], .code (cd3 [1, 1, 1, 1])]) (us := [(32, .bool true), (33, .bool true), (34, .int .i64 t3), (35, .int .i64 t16)]) (d := 36) (t := (t3 == t16)) (by kernel_rfl) (fun h33 => ?_) (fun h34 => ?_)
      · skip
        have hp35 := ite_t hp32 h33
        refine sx_run 3 (todo' := [.code (cd3 [1, 1, 1, 1])]) (us := [(37, .bool true), (4, .bool true)]) (by kernel_rfl) ?_
        have hS36 := hS26.drop
        have hS37 := hS36.drop
        refine runs_ret (fn := Try.f3) (v := .bool true) Try.func3 (by kernel_rfl) ?_
        have hr38 := (Option.some.inj hp35)
        cases hr38
        exact hR _ _ ⟨rfl, hS37⟩
      · skip
        have hp39 := ite_f hp32 h34
        refine sx_run 3 (todo' := [.code (cd3 [1, 1, 1, 1])]) (us := [(37, .bool false), (4, .bool false)]) (by kernel_rfl) ?_
        have hS40 := hS26.drop
        have hS41 := hS40.drop
        refine runs_ret (fn := Try.f3) (v := .bool false) Try.func3 (by kernel_rfl) ?_
        have hr42 := (Option.some.inj hp39)
        cases hr42
        exact hR _ _ ⟨rfl, hS41⟩
    · skip
      have hp43 := ite_f hp29 h31
      refine sx_run 8 (todo' := [.code (cd3 [1, 1, 1, 1])]) (us := [(32, .bool false), (33, .bool false), (34, undef), (35, undef), (36, undef), (37, .bool false), (4, .bool false)]) (by kernel_rfl) ?_
      have hS44 := hS26.drop
      have hS45 := hS44.drop
      refine runs_ret (fn := Try.f3) (v := .bool false) Try.func3 (by kernel_rfl) ?_
      have hr46 := (Option.some.inj hp43)
      cases hr46
      exact hR _ _ ⟨rfl, hS45⟩
  · skip
    have hp47 := ite_f hp18 h28
    refine sx_run 12 (todo' := [.code (cd3 [1, 1, 1, 1])]) (us := [(28, .bool false), (29, undef), (30, undef), (31, undef), (32, .bool false), (33, .bool false), (34, undef), (35, undef), (36, undef), (37, .bool false), (4, .bool false)]) (by kernel_rfl) ?_
    have hS48 := hS26.drop
    have hS49 := hS48.drop
    refine runs_ret (fn := Try.f3) (v := .bool false) Try.func3 (by kernel_rfl) ?_
    have hr50 := (Option.some.inj hp47)
    cases hr50
    exact hR _ _ ⟨rfl, hS49⟩
end Go.Proofs.Ytndpfpkppdaloaa.K
