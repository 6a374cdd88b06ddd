import Derived.Test.YteppciglfdiljaaS
import Derived.Test.YteppciglfdiljaaProg
set_option linter.unusedVariables false
set_option linter.unusedSimpArgs false
namespace Go.Proofs.Yteppciglfdiljaa.K
open Go Go.RowKit
noncomputable def c20 (p : List Nat) : Code := sub (bodyOf Try.f20) p
def weirref10_Check.l0 (a0 : api_Final) (t28 : Int) : Option (Sum Unit Int) :=
  (if (decide (t28 < 48)) = true then (if 0 ≤ t28 ∧ t28 < 48 then (if ((vget a0.V t28) != 0) = true then some (.inr (4)) else (weirref10_Check.l0 a0 (IntKind.i64.wrap (t28 + 1)))) else none) else some (.inl ()))
 partial_fixpoint
def weirref10_Check.f (a0 : api_Final) : Option Int :=
  (if (decide (a0.N < 0)) = true then some (4) else (if (decide (a0.N > 48)) = true then some (4) else (weirref10_Check.l0 a0 a0.N >>= (fun | .inl () => some (0) | .inr e => some e))))
theorem weirref10_Check.ok (a0 : api_Final) (w0 : World) (r : Int) (hp0 : weirref10_Check.f a0 = some r) :
    Calls Try.prog 20 #[.agg (enc_api_Final a0).toArray] w0 (fun e w' => e = .returned (.int .i64 r) ∧ Fr [] w0 w') := by
  refine calls_abs ?_; intro R hR
  unfold weirref10_Check.f at hp0
  have hF0 : Fr [] w0 w0 := Fr.refl _ _
  refine calls_of_runs (fn := Try.f20) (c := c20 []) Try.func20 (by kernel_rfl) (al := [.agg (enc_api_Final a0).toArray]) rfl (n := 22) rfl ?_
  refine sx_run 2 (todo' := [.inRegion (opsOf (c20 [0])) [0, 1], .code (c20 [1])]) (us := []) (by kernel_rfl) ?_
  refine r_box (x := (.tmp 0)) (v := .agg (enc_api_Final a0).toArray) (c := (c20 [0])) (i := 0) (ty := 0) (d := (some 1)) (t := 24) (cs := enc_api_Final a0) (by kernel_rfl) (by kernel_rfl) (by kernel_rfl) (by kernel_rfl) ?_
  intro b1 w2 hn3
  have hg5 : w0.heap.size ≤ b1 := by rw [hn3.num]; exact hF0.size
  have hF7 : Fr [] w0 w2 := hF0.step0 hn3.fr
  have hb4 : Blk w2 b1 24 (enc_api_Final a0) := hn3.blk
  refine sx_run 6 (todo' := [.inRegion (opsOf (c20 [1, 0, 0])) [1, 2, 3, 4, 5, 6, 7], .code (c20 [1, 0, 1]), .code (c20 [1, 1])]) (us := [(2, .int .i64 0), (4, .pointer (some ((⟨b1, 0, none⟩ : Addr).add 0)))]) (by kernel_rfl) ?_
  refine r_load (c := (c20 [1, 0, 0])) (i := 1) (ty := 3) (d := (some 5)) (t := 3) (x := (.tmp 4)) (p := ((⟨b1, 0, none⟩ : Addr).add 0)) (v := .int .i64 a0.N) (by kernel_rfl) (by kernel_rfl) (by kernel_rfl) (loads_at hb4.cells (by kernel_rfl) (by kernel_rfl)) ?_
  refine sx_split 1 (todo' := [.inRegion (opsOf (c20 [1, 0, 0])) [3, 4, 5, 6, 7], .code (c20 [1, 0, 1]), .code (c20 [1, 1])]) (us := []) (d := 6) (t := (decide (a0.N < 0))) (by kernel_rfl) (fun h8 => ?_) (fun h9 => ?_)
  · skip
    have hp10 := ite_t hp0 h8
    refine sx_run 11 (todo' := [.code (c20 [1, 0, 1, 0, 1]), .code (c20 [1, 1])]) (us := [(7, .bool true), (8, undef), (9, undef), (10, undef), (11, .bool true), (2, .int .i64 4)]) (by kernel_rfl) ?_
    refine runs_ret (fn := Try.f20) (v := .int .i64 4) Try.func20 (by kernel_rfl) ?_
    have hr11 := (Option.some.inj hp10)
    subst hr11
    exact hR _ _ ⟨rfl, hF7⟩
  · skip
    have hp12 := ite_f hp0 h9
    refine sx_run 2 (todo' := [.inRegion (opsOf (c20 [1, 0, 0])) [5, 6, 7], .code (c20 [1, 0, 1]), .code (c20 [1, 1])]) (us := [(7, .bool false), (8, .pointer (some ((⟨b1, 0, none⟩ : Addr).add 0)))]) (by kernel_rfl) ?_
    refine r_load (c := (c20 [1, 0, 0])) (i := 5) (ty := 3) (d := (some 9)) (t := 3) (x := (.tmp 8)) (p := ((⟨b1, 0, none⟩ : Addr).add 0)) (v := .int .i64 a0.N) (by kernel_rfl) (by kernel_rfl) (by kernel_rfl) (loads_at hb4.cells (by kernel_rfl) (by kernel_rfl)) ?_
    refine sx_split 1 (todo' := [.inRegion (opsOf (c20 [1, 0, 0])) [7], .code (c20 [1, 0, 1]), .code (c20 [1, 1])]) (us := []) (d := 10) (t := (decide (a0.N > 48))) (by kernel_rfl) (fun h13 => ?_) (fun h14 => ?_)
    · skip
      have hp15 := ite_t hp12 h13
      refine sx_run 7 (todo' := [.code (c20 [1, 0, 1, 0, 1]), .code (c20 [1, 1])]) (us := [(11, .bool true), (2, .int .i64 4)]) (by kernel_rfl) ?_
      refine runs_ret (fn := Try.f20) (v := .int .i64 4) Try.func20 (by kernel_rfl) ?_
      have hr16 := (Option.some.inj hp15)
      subst hr16
      exact hR _ _ ⟨rfl, hF7⟩
    · skip
      have hp17 := ite_f hp12 h14
      refine sx_run 8 (todo' := [.inRegion (opsOf (c20 [1, 1, 0, 0])) [1, 2], .code (c20 [1, 1, 0, 1]), .code (c20 [1, 1, 1])]) (us := [(11, .bool false), (12, .pointer (some ((⟨b1, 0, none⟩ : Addr).add 0)))]) (by kernel_rfl) ?_
      refine r_load (c := (c20 [1, 1, 0, 0])) (i := 1) (ty := 3) (d := (some 13)) (t := 3) (x := (.tmp 12)) (p := ((⟨b1, 0, none⟩ : Addr).add 0)) (v := .int .i64 a0.N) (by kernel_rfl) (by kernel_rfl) (by kernel_rfl) (loads_at hb4.cells (by kernel_rfl) (by kernel_rfl)) ?_
      refine sx_run 4 (todo' := [.code (c20 [1, 1, 0, 1, 0, 0]), .inLoop (c20 [1, 1, 0, 1, 0, 0]), .inBlock 0, .code (c20 [1, 1, 1])]) (us := [(3, .int .i64 a0.N)]) (by kernel_rfl) ?_
      obtain ⟨v18, hv19, hp20⟩ := bind_some' hp17
      have hq23 : ∀ x, Sum.inr x = v18 → x = r := by intro x hx; subst hx; simpa using hp20
      have J24 : ∀ (he26 : Sum.inl () = v18) (l25 : List Value) (w21 : World) (hF22 : Fr [] w0 w21), Runs Try.prog 20 [.code (c20 [1, 1, 1])] (fill [none, none, none, none, none, none, none, none, none, none, none, none, none, none, none, none, none, none, none, none, none, none, none] l25) w21 R := by
        intro he26 l25 w21 hF22
        subst he26
        try dsimp only at hp20
        refine sx_run 4 (todo' := [.code (c20 [1, 1, 1, 1])]) (us := [(2, .int .i64 0)]) (by kernel_rfl) ?_
        refine runs_ret (fn := Try.f20) (v := .int .i64 0) Try.func20 (by kernel_rfl) ?_
        have hr27 := (Option.some.inj hp20)
        subst hr27
        exact hR _ _ ⟨rfl, hF22⟩
      have L38 : ∀ (t28 : Int) (e33 : Sum Unit Int), weirref10_Check.l0 a0 t28 = some e33 → e33 = v18 → ∀ (l32 : List Value) (w29 : World) (hF30 : Fr [] w0 w29) (hb31 : Blk w29 b1 24 (enc_api_Final a0)), Runs Try.prog 20 [.code (c20 [1, 1, 0, 1, 0, 0]), .inLoop (c20 [1, 1, 0, 1, 0, 0]), .inBlock 0, .code (c20 [1, 1, 1])] (fill [none, some (.pointer (some ⟨b1, 0, none⟩)), none, some (.int .i64 t28), none, none, none, none, none, none, none, none, none, none, none, none, none, none, none, none, none, none, none] l32) w29 R := by
        refine weirref10_Check.l0.partial_correctness a0 (fun t28 e33 => e33 = v18 → ∀ (l32 : List Value) (w29 : World) (hF30 : Fr [] w0 w29) (hb31 : Blk w29 b1 24 (enc_api_Final a0)), Runs Try.prog 20 [.code (c20 [1, 1, 0, 1, 0, 0]), .inLoop (c20 [1, 1, 0, 1, 0, 0]), .inBlock 0, .code (c20 [1, 1, 1])] (fill [none, some (.pointer (some ⟨b1, 0, none⟩)), none, some (.int .i64 t28), none, none, none, none, none, none, none, none, none, none, none, none, none, none, none, none, none, none, none] l32) w29 R) ?_
        intro rec37 ih36 t28 e33 hb35 he34 l32 w29 hF30 hb31
        have hq39 : ∀ x, Sum.inr x = e33 → x = r := fun x hx => hq23 x (hx.trans he34)
        refine sx_split 5 (todo' := [.inRegion (opsOf (c20 [1, 1, 0, 1, 0, 0, 0, 0])) [], .code (c20 [1, 1, 0, 1, 0, 0, 0, 1]), .code (c20 [1, 1, 0, 1, 0, 0, 1]), .inLoop (c20 [1, 1, 0, 1, 0, 0]), .inBlock 0, .code (c20 [1, 1, 1])]) (us := [(14, .int .i64 t28)]) (d := 15) (t := (decide (t28 < 48))) (by kernel_rfl) (fun h40 => ?_) (fun h41 => ?_)
        · skip
          have hp42 := ite_t hb35 h40
          refine sx_run 9 (todo' := [.inRegion (opsOf (c20 [1, 1, 0, 1, 0, 0, 1, 0, 0, 0])) [2, 3, 4], .code (c20 [1, 1, 0, 1, 0, 0, 1, 0, 0, 1]), .inBlock 1, .code (c20 [1, 1, 0, 1, 0, 0, 1, 1]), .inLoop (c20 [1, 1, 0, 1, 0, 0]), .inBlock 0, .code (c20 [1, 1, 1])]) (us := [(18, .int .i64 t28), (19, .pointer (some ((⟨b1, 0, none⟩ : Addr).add 1)))]) (by kernel_rfl) ?_
          obtain ⟨g43, hp44⟩ := ite_some hp42
          refine r_indexArr (c := (c20 [1, 1, 0, 1, 0, 0, 1, 0, 0, 0])) (i := 2) (ty := 0) (d := (some 20)) (t := 22) (e := 2) (sz := 1) (kk := .i64) (x := (.tmp 19)) (y := (.tmp 18)) (a := ((⟨b1, 0, none⟩ : Addr).add 1)) (n := 48) (j := t28) (by kernel_rfl) (by kernel_rfl) (by kernel_rfl) (by kernel_rfl) (by kernel_rfl) (by kernel_rfl) g43.1 g43.2 ?_
          refine r_load (c := (c20 [1, 1, 0, 1, 0, 0, 1, 0, 0, 0])) (i := 3) (ty := 2) (d := (some 21)) (t := 2) (x := (.tmp 20)) (p := ((((⟨b1, 0, none⟩ : Addr).add 1) : Addr).add (t28.toNat * 1))) (v := .int .i64 (vget a0.V t28)) (by kernel_rfl) (by kernel_rfl) (by kernel_rfl) (loads_vget (sub_api_Final_V hb31.cells) (by kernel_rfl) g43.1 g43.2) ?_
          refine sx_split 1 (todo' := [.inRegion (opsOf (c20 [1, 1, 0, 1, 0, 0, 1, 0, 0, 0])) [], .code (c20 [1, 1, 0, 1, 0, 0, 1, 0, 0, 1]), .inBlock 1, .code (c20 [1, 1, 0, 1, 0, 0, 1, 1]), .inLoop (c20 [1, 1, 0, 1, 0, 0]), .inBlock 0, .code (c20 [1, 1, 1])]) (us := []) (d := 22) (t := ((vget a0.V t28) != 0)) (by kernel_rfl) (fun h45 => ?_) (fun h46 => ?_)
          · skip
            have hp47 := ite_t hp44 h45
            refine sx_run 6 (todo' := [.code (c20 [1, 1, 0, 1, 0, 0, 1, 0, 0, 1, 0, 1]), .inBlock 1, .code (c20 [1, 1, 0, 1, 0, 0, 1, 1]), .inLoop (c20 [1, 1, 0, 1, 0, 0]), .inBlock 0, .code (c20 [1, 1, 1])]) (us := [(2, .int .i64 4)]) (by kernel_rfl) ?_
            refine runs_ret (fn := Try.f20) (v := .int .i64 4) Try.func20 (by kernel_rfl) ?_
            have hr48 := (hq39 _ (Option.some.inj hp47))
            subst hr48
            exact hR _ _ ⟨rfl, hF30⟩
          · skip
            have hp49 := ite_f hp44 h46
            refine sx_run 9 (todo' := [.inLoop (c20 [1, 1, 0, 1, 0, 0]), .inBlock 0, .code (c20 [1, 1, 1])]) (us := [(16, .int .i64 t28), (17, .int .i64 (IntKind.i64.wrap (t28 + 1))), (3, .int .i64 (IntKind.i64.wrap (t28 + 1)))]) (by kernel_rfl) ?_
            refine sx_run 1 (todo' := [.code (c20 [1, 1, 0, 1, 0, 0]), .inLoop (c20 [1, 1, 0, 1, 0, 0]), .inBlock 0, .code (c20 [1, 1, 1])]) (us := []) (by kernel_rfl) ?_
            refine Runs.fill (m := [none, some (.pointer (some ⟨b1, 0, none⟩)), none, some (.int .i64 (IntKind.i64.wrap (t28 + 1))), none, none, none, none, none, none, none, none, none, none, none, none, none, none, none, none, none, none, none]) (by kernel_rfl) ?_
            exact ih36 (IntKind.i64.wrap (t28 + 1)) _ hp49 he34 _ _ hF30 hb31
        · skip
          have hp50 := ite_f hb35 h41
          refine sx_run 3 (todo' := [.code (c20 [1, 1, 1])]) (us := []) (by kernel_rfl) ?_
          refine Runs.fill (m := [none, none, none, none, none, none, none, none, none, none, none, none, none, none, none, none, none, none, none, none, none, none, none]) (by kernel_rfl) ?_
          exact J24 ((Option.some.inj hp50).trans he34) _ _ hF30
      refine Runs.fill (m := [none, some (.pointer (some ⟨b1, 0, none⟩)), none, some (.int .i64 a0.N), none, none, none, none, none, none, none, none, none, none, none, none, none, none, none, none, none, none, none]) (by kernel_rfl) ?_
      exact L38 a0.N _ hv19 rfl _ _ hF7 hb4

noncomputable def c19 (p : List Nat) : Code := sub (bodyOf Try.f19) p
def state_Check.l0 (a0 : api_Final) (t35 : Int) : Option (Sum Unit Int) :=
  (if (decide (t35 < (((a0.V.toList.take 48).drop a0.N.toNat).length : Int))) = true then (if 0 ≤ t35 ∧ t35 < (((a0.V.toList.take 48).drop a0.N.toNat).length : Int) then (if ((gt ((a0.V.toList.take 48).drop a0.N.toNat) t35) != 0) = true then some (.inr (4)) else (state_Check.l0 a0 (IntKind.i64.wrap (t35 + 1)))) else none) else some (.inl ()))
 partial_fixpoint
def state_Check.f (a0 : api_Final) : Option Int :=
  (if (decide (a0.N < 0)) = true then some (4) else (if (decide (a0.N > 48)) = true then some (4) else (if 0 ≤ a0.N ∧ a0.N ≤ 48 then (state_Check.l0 a0 0 >>= (fun | .inl () => some (0) | .inr e => some e)) else none)))
theorem state_Check.ok (a0 : api_Final) (w0 : World) (r : Int) (hp0 : state_Check.f a0 = some r) :
    Calls Try.prog 19 #[.agg (enc_api_Final a0).toArray] w0 (fun e w' => e = .returned (.int .i64 r) ∧ Fr [] w0 w') := by
  refine calls_abs ?_; intro R hR
  unfold state_Check.f at hp0
  have hF0 : Fr [] w0 w0 := Fr.refl _ _
  refine calls_of_runs (fn := Try.f19) (c := c19 []) Try.func19 (by kernel_rfl) (al := [.agg (enc_api_Final a0).toArray]) rfl (n := 24) rfl ?_
  refine sx_run 2 (todo' := [.inRegion (opsOf (c19 [0])) [0, 1], .code (c19 [1])]) (us := []) (by kernel_rfl) ?_
  refine r_box (x := (.tmp 0)) (v := .agg (enc_api_Final a0).toArray) (c := (c19 [0])) (i := 0) (ty := 0) (d := (some 1)) (t := 24) (cs := enc_api_Final a0) (by kernel_rfl) (by kernel_rfl) (by kernel_rfl) (by kernel_rfl) ?_
  intro b1 w2 hn3
  have hg5 : w0.heap.size ≤ b1 := by rw [hn3.num]; exact hF0.size
  have hF7 : Fr [] w0 w2 := hF0.step0 hn3.fr
  have hb4 : Blk w2 b1 24 (enc_api_Final a0) := hn3.blk
  refine sx_run 6 (todo' := [.inRegion (opsOf (c19 [1, 0, 0])) [1, 2, 3, 4, 5, 6, 7], .code (c19 [1, 0, 1]), .code (c19 [1, 1])]) (us := [(2, .int .i64 0), (5, .pointer (some ((⟨b1, 0, none⟩ : Addr).add 0)))]) (by kernel_rfl) ?_
  refine r_load (c := (c19 [1, 0, 0])) (i := 1) (ty := 3) (d := (some 6)) (t := 3) (x := (.tmp 5)) (p := ((⟨b1, 0, none⟩ : Addr).add 0)) (v := .int .i64 a0.N) (by kernel_rfl) (by kernel_rfl) (by kernel_rfl) (loads_at hb4.cells (by kernel_rfl) (by kernel_rfl)) ?_
  refine sx_split 1 (todo' := [.inRegion (opsOf (c19 [1, 0, 0])) [3, 4, 5, 6, 7], .code (c19 [1, 0, 1]), .code (c19 [1, 1])]) (us := []) (d := 7) (t := (decide (a0.N < 0))) (by kernel_rfl) (fun h8 => ?_) (fun h9 => ?_)
  · skip
    have hp10 := ite_t hp0 h8
    refine sx_run 11 (todo' := [.code (c19 [1, 0, 1, 0, 1]), .code (c19 [1, 1])]) (us := [(8, .bool true), (9, undef), (10, undef), (11, undef), (12, .bool true), (2, .int .i64 4)]) (by kernel_rfl) ?_
    refine runs_ret (fn := Try.f19) (v := .int .i64 4) Try.func19 (by kernel_rfl) ?_
    have hr11 := (Option.some.inj hp10)
    subst hr11
    exact hR _ _ ⟨rfl, hF7⟩
  · skip
    have hp12 := ite_f hp0 h9
    refine sx_run 2 (todo' := [.inRegion (opsOf (c19 [1, 0, 0])) [5, 6, 7], .code (c19 [1, 0, 1]), .code (c19 [1, 1])]) (us := [(8, .bool false), (9, .pointer (some ((⟨b1, 0, none⟩ : Addr).add 0)))]) (by kernel_rfl) ?_
    refine r_load (c := (c19 [1, 0, 0])) (i := 5) (ty := 3) (d := (some 10)) (t := 3) (x := (.tmp 9)) (p := ((⟨b1, 0, none⟩ : Addr).add 0)) (v := .int .i64 a0.N) (by kernel_rfl) (by kernel_rfl) (by kernel_rfl) (loads_at hb4.cells (by kernel_rfl) (by kernel_rfl)) ?_
    refine sx_split 1 (todo' := [.inRegion (opsOf (c19 [1, 0, 0])) [7], .code (c19 [1, 0, 1]), .code (c19 [1, 1])]) (us := []) (d := 11) (t := (decide (a0.N > 48))) (by kernel_rfl) (fun h13 => ?_) (fun h14 => ?_)
    · skip
      have hp15 := ite_t hp12 h13
      refine sx_run 7 (todo' := [.code (c19 [1, 0, 1, 0, 1]), .code (c19 [1, 1])]) (us := [(12, .bool true), (2, .int .i64 4)]) (by kernel_rfl) ?_
      refine runs_ret (fn := Try.f19) (v := .int .i64 4) Try.func19 (by kernel_rfl) ?_
      have hr16 := (Option.some.inj hp15)
      subst hr16
      exact hR _ _ ⟨rfl, hF7⟩
    · skip
      have hp17 := ite_f hp12 h14
      refine sx_run 9 (todo' := [.inRegion (opsOf (c19 [1, 1, 0, 0])) [2, 3, 4, 5], .code (c19 [1, 1, 0, 1]), .code (c19 [1, 1, 1])]) (us := [(12, .bool false), (13, .pointer (some ((⟨b1, 0, none⟩ : Addr).add 1))), (14, .pointer (some ((⟨b1, 0, none⟩ : Addr).add 0)))]) (by kernel_rfl) ?_
      refine r_load (c := (c19 [1, 1, 0, 0])) (i := 2) (ty := 3) (d := (some 15)) (t := 3) (x := (.tmp 14)) (p := ((⟨b1, 0, none⟩ : Addr).add 0)) (v := .int .i64 a0.N) (by kernel_rfl) (by kernel_rfl) (by kernel_rfl) (loads_at hb4.cells (by kernel_rfl) (by kernel_rfl)) ?_
      obtain ⟨g18, hp19⟩ := ite_some hp17
      obtain ⟨A20, c21, hr22, hs23, hs23b⟩ := cutArr (sub_api_Final_V hb4.cells) a0.N.toNat 48 (by omega) (by omega) (by omega)
      refine r_val (c := (c19 [1, 1, 0, 0])) (i := 3) (ty := 64) (d := (some 16)) (op := .slice 22 (.tmp 13) (some (.tmp 15)) none none) (v := .slice A20 ((a0.V.toList.take 48).drop a0.N.toNat).length c21) (by kernel_rfl) (by kernel_rfl) (fun o ho _ => x_cutArr_sn (e := 2) (k := .i64) (by kernel_rfl) (by kernel_rfl) (by kernel_rfl) (by kernel_rfl) g18 hr22 ho) ?_
      refine sx_run 5 (todo' := [.code (c19 [1, 1, 0, 1, 0, 0]), .inLoop (c19 [1, 1, 0, 1, 0, 0]), .inBlock 0, .code (c19 [1, 1, 1])]) (us := [(17, .int .i64 (((a0.V.toList.take 48).drop a0.N.toNat).length : Int)), (18, .int .i64 0)]) (by kernel_rfl) ?_
      obtain ⟨v25, hv26, hp27⟩ := bind_some' hp19
      have hq30 : ∀ x, Sum.inr x = v25 → x = r := by intro x hx; subst hx; simpa using hp27
      have J31 : ∀ (he33 : Sum.inl () = v25) (l32 : List Value) (w28 : World) (hF29 : Fr [] w0 w28), Runs Try.prog 19 [.code (c19 [1, 1, 1])] (fill [none, none, none, none, none, none, none, none, none, none, none, none, none, none, none, none, none, none, none, none, none, none, none, none, none] l32) w28 R := by
        intro he33 l32 w28 hF29
        subst he33
        try dsimp only at hp27
        refine sx_run 4 (todo' := [.code (c19 [1, 1, 1, 1])]) (us := [(2, .int .i64 0)]) (by kernel_rfl) ?_
        refine runs_ret (fn := Try.f19) (v := .int .i64 0) Try.func19 (by kernel_rfl) ?_
        have hr34 := (Option.some.inj hp27)
        subst hr34
        exact hR _ _ ⟨rfl, hF29⟩
      have L45 : ∀ (t35 : Int) (e40 : Sum Unit Int), state_Check.l0 a0 t35 = some e40 → e40 = v25 → ∀ (l39 : List Value) (w36 : World) (hF37 : Fr [] w0 w36) (hs38 : SlR (encI .i64) 1 w36 A20 ((a0.V.toList.take 48).drop a0.N.toNat)), Runs Try.prog 19 [.code (c19 [1, 1, 0, 1, 0, 0]), .inLoop (c19 [1, 1, 0, 1, 0, 0]), .inBlock 0, .code (c19 [1, 1, 1])] (fill [none, none, none, none, none, none, none, none, none, none, none, none, none, none, none, none, some (.slice A20 ((a0.V.toList.take 48).drop a0.N.toNat).length c21), some (.int .i64 (((a0.V.toList.take 48).drop a0.N.toNat).length : Int)), some (.int .i64 t35), none, none, none, none, none, none] l39) w36 R := by
        refine state_Check.l0.partial_correctness a0 (fun t35 e40 => e40 = v25 → ∀ (l39 : List Value) (w36 : World) (hF37 : Fr [] w0 w36) (hs38 : SlR (encI .i64) 1 w36 A20 ((a0.V.toList.take 48).drop a0.N.toNat)), Runs Try.prog 19 [.code (c19 [1, 1, 0, 1, 0, 0]), .inLoop (c19 [1, 1, 0, 1, 0, 0]), .inBlock 0, .code (c19 [1, 1, 1])] (fill [none, none, none, none, none, none, none, none, none, none, none, none, none, none, none, none, some (.slice A20 ((a0.V.toList.take 48).drop a0.N.toNat).length c21), some (.int .i64 (((a0.V.toList.take 48).drop a0.N.toNat).length : Int)), some (.int .i64 t35), none, none, none, none, none, none] l39) w36 R) ?_
        intro rec44 ih43 t35 e40 hb42 he41 l39 w36 hF37 hs38
        have hq46 : ∀ x, Sum.inr x = e40 → x = r := fun x hx => hq30 x (hx.trans he41)
        refine sx_split 3 (todo' := [.inRegion (opsOf (c19 [1, 1, 0, 1, 0, 0, 0])) [], .code (c19 [1, 1, 0, 1, 0, 0, 1]), .inLoop (c19 [1, 1, 0, 1, 0, 0]), .inBlock 0, .code (c19 [1, 1, 1])]) (us := []) (d := 19) (t := (decide (t35 < (((a0.V.toList.take 48).drop a0.N.toNat).length : Int)))) (by kernel_rfl) (fun h47 => ?_) (fun h48 => ?_)
        · skip
          have hp49 := ite_t hb42 h47
          refine sx_run 8 (todo' := [.inRegion (opsOf (c19 [1, 1, 0, 1, 0, 0, 1, 1, 0, 0, 0])) [0, 1, 2], .code (c19 [1, 1, 0, 1, 0, 0, 1, 1, 0, 0, 1]), .inBlock 1, .code (c19 [1, 1, 0, 1, 0, 0, 1, 1, 1]), .inLoop (c19 [1, 1, 0, 1, 0, 0]), .inBlock 0, .code (c19 [1, 1, 1])]) (us := []) (by kernel_rfl) ?_
          obtain ⟨g50, hp51⟩ := ite_some hp49
          obtain ⟨a52, hA53, hc54⟩ := hs38.at_ g50.1 g50.2
          refine r_indexAddr (c := (c19 [1, 1, 0, 1, 0, 0, 1, 1, 0, 0, 0])) (i := 0) (ty := 0) (d := (some 20)) (t := 64) (e := 2) (n := ((a0.V.toList.take 48).drop a0.N.toNat).length) (cp := c21) (sz := 1) (kk := .i64) (x := (.tmp 16)) (y := (.tmp 18)) (a := a52) (j := t35) (by kernel_rfl) (by kernel_rfl) (slv (by kernel_rfl) hA53) (by kernel_rfl) (by kernel_rfl) (by kernel_rfl) g50.1 g50.2 ?_
          refine r_load (c := (c19 [1, 1, 0, 1, 0, 0, 1, 1, 0, 0, 0])) (i := 1) (ty := 2) (d := (some 21)) (t := 2) (x := (.tmp 20)) (p := (a52.add (t35.toNat * 1))) (v := .int .i64 (gt ((a0.V.toList.take 48).drop a0.N.toNat) t35)) (by kernel_rfl) (by kernel_rfl) (by kernel_rfl) (loads_head hc54 (by kernel_rfl) (by kernel_rfl)) ?_
          refine sx_split 6 (todo' := [.inRegion (opsOf (c19 [1, 1, 0, 1, 0, 0, 1, 1, 0, 0, 1, 0])) [], .code (c19 [1, 1, 0, 1, 0, 0, 1, 1, 0, 0, 1, 1]), .inBlock 1, .code (c19 [1, 1, 0, 1, 0, 0, 1, 1, 1]), .inLoop (c19 [1, 1, 0, 1, 0, 0]), .inBlock 0, .code (c19 [1, 1, 1])]) (us := [(4, .int .i64 (gt ((a0.V.toList.take 48).drop a0.N.toNat) t35)), (22, .int .i64 (gt ((a0.V.toList.take 48).drop a0.N.toNat) t35))]) (d := 23) (t := ((gt ((a0.V.toList.take 48).drop a0.N.toNat) t35) != 0)) (by kernel_rfl) (fun h55 => ?_) (fun h56 => ?_)
          · skip
            have hp57 := ite_t hp51 h55
            refine sx_run 6 (todo' := [.code (c19 [1, 1, 0, 1, 0, 0, 1, 1, 0, 0, 1, 1, 0, 1]), .inBlock 1, .code (c19 [1, 1, 0, 1, 0, 0, 1, 1, 1]), .inLoop (c19 [1, 1, 0, 1, 0, 0]), .inBlock 0, .code (c19 [1, 1, 1])]) (us := [(2, .int .i64 4)]) (by kernel_rfl) ?_
            refine runs_ret (fn := Try.f19) (v := .int .i64 4) Try.func19 (by kernel_rfl) ?_
            have hr58 := (hq46 _ (Option.some.inj hp57))
            subst hr58
            exact hR _ _ ⟨rfl, hF37⟩
          · skip
            have hp59 := ite_f hp51 h56
            refine sx_run 8 (todo' := [.inLoop (c19 [1, 1, 0, 1, 0, 0]), .inBlock 0, .code (c19 [1, 1, 1])]) (us := [(24, .int .i64 (IntKind.i64.wrap (t35 + 1))), (18, .int .i64 (IntKind.i64.wrap (t35 + 1)))]) (by kernel_rfl) ?_
            refine sx_run 1 (todo' := [.code (c19 [1, 1, 0, 1, 0, 0]), .inLoop (c19 [1, 1, 0, 1, 0, 0]), .inBlock 0, .code (c19 [1, 1, 1])]) (us := []) (by kernel_rfl) ?_
            refine Runs.fill (m := [none, none, none, none, none, none, none, none, none, none, none, none, none, none, none, none, some (.slice A20 ((a0.V.toList.take 48).drop a0.N.toNat).length c21), some (.int .i64 (((a0.V.toList.take 48).drop a0.N.toNat).length : Int)), some (.int .i64 (IntKind.i64.wrap (t35 + 1))), none, none, none, none, none, none]) (by kernel_rfl) ?_
            exact ih43 (IntKind.i64.wrap (t35 + 1)) _ hp59 he41 _ _ hF37 hs38
        · skip
          have hp60 := ite_f hb42 h48
          refine sx_run 4 (todo' := [.code (c19 [1, 1, 1])]) (us := []) (by kernel_rfl) ?_
          refine Runs.fill (m := [none, none, none, none, none, none, none, none, none, none, none, none, none, none, none, none, none, none, none, none, none, none, none, none, none]) (by kernel_rfl) ?_
          exact J31 ((Option.some.inj hp60).trans he41) _ _ hF37
      refine Runs.fill (m := [none, none, none, none, none, none, none, none, none, none, none, none, none, none, none, none, some (.slice A20 ((a0.V.toList.take 48).drop a0.N.toNat).length c21), some (.int .i64 (((a0.V.toList.take 48).drop a0.N.toNat).length : Int)), some (.int .i64 0), none, none, none, none, none, none]) (by kernel_rfl) ?_
      exact L45 0 _ hv26 rfl _ _ hF7 hs23
end Go.Proofs.Yteppciglfdiljaa.K
