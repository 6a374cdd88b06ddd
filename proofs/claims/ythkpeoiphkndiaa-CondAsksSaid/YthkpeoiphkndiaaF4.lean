/- The walk, part 4: each Go function as a plain Lean function, and that its call answers as that function says. No condition. -/
import Derived.Test.YthkpeoiphkndiaaE
import Derived.Test.YthkpeoiphkndiaaNS
import Derived.Test.YthkpeoiphkndiaaLS
import Derived.Test.YthkpeoiphkndiaaNM
import Derived.Test.YthkpeoiphkndiaaNV
import Derived.Test.YthkpeoiphkndiaaF3
set_option linter.unusedVariables false
set_option linter.unusedSimpArgs false
set_option maxRecDepth 100000
namespace Go.Proofs.Ythkpeoiphkndiaa.K
open Go Go.RowKit
noncomputable section
noncomputable def cd26 (p : List Nat) : Code := sub (bodyOf Try.f26) p
def weirref06_Below.f (a0 : api_Ref) (a1 : api_Ref) : Option Bool :=
  (((if (a0.Thread == (-1)) = true then (if (a1.Thread == (-1)) = true then some (.inl ()) else (if (a1.Thread == (-1)) = true then some (.inr (true)) else some (.inr (false)))) else (if (a1.Thread == (-1)) = true then (if (a1.Thread == (-1)) = true then some (.inr (true)) else some (.inr (false))) else some (.inl ()))) : Option (Sum Unit Bool)) >>= (fun | .inl () => (if (a0.Thread != a1.Thread) = true then (if (decide (a0.Thread < a1.Thread)) = true then some (true) else some (false)) else (if (Op.bytesLess a0.Name.toList a1.Name.toList) = true then some (true) else some (false))) | .inr e => some e))
set_option maxHeartbeats 16000000 in
theorem weirref06_Below.ok (a0 : api_Ref) (a1 : api_Ref) {w0 : World} {Z : Zm} {fs : List XObj} {w : World} (hS0 : St w0 Z (fs) w) {q0 : Bool} (hp0 : weirref06_Below.f a0 a1 = some q0) :
    Calls Try.prog 26 #[.agg (enc_api_Ref a0).toArray, .agg (enc_api_Ref a1).toArray] w (fun e w' => e = .returned (.bool q0) ∧ St w0 Z (fs) w') := by
  refine calls_abs ?_; intro R hR
  unfold weirref06_Below.f at hp0
  refine calls_of_runs (fn := Try.f26) (c := cd26 []) Try.func26 (by kernel_rfl) (al := [.agg (enc_api_Ref a0).toArray, .agg (enc_api_Ref a1).toArray]) rfl (n := 28) rfl ?_
  refine sx_run 2 (todo' := [.inRegion (opsOf (cd26 [0])) [0, 1, 2], .code (cd26 [1])]) (us := []) (by kernel_rfl) ?_
  refine r_box (c := (cd26 [0])) (i := 0) (d := (some 2)) (ty := 0) (x := (.tmp 0)) (v := .agg (enc_api_Ref a0).toArray) (t := 46) (cs := enc_api_Ref a0) hS0 (by kernel_rfl) (by kernel_rfl) (by kernel_rfl) (by kernel_rfl) ?_
  intro b1 w2 hS3
  refine r_box (c := (cd26 [0])) (i := 1) (d := (some 3)) (ty := 0) (x := (.tmp 1)) (v := .agg (enc_api_Ref a1).toArray) (t := 46) (cs := enc_api_Ref a1) hS3 (by kernel_rfl) (by kernel_rfl) (by kernel_rfl) (by kernel_rfl) ?_
  intro b5 w6 hS7
  refine sx_run 6 (todo' := [.inRegion (opsOf (cd26 [1, 0, 0])) [1, 2, 3, 4, 5, 6], .code (cd26 [1, 0, 1]), .code (cd26 [1, 1])]) (us := [(4, .bool false), (5, .pointer (some ⟨b1, 0, none⟩))]) (by kernel_rfl) ?_
  refine r_load (c := (cd26 [1, 0, 0])) (i := 1) (d := (some 6)) (ty := 3) (t := 3) (x := (.tmp 5)) (p := ⟨b1, 0, none⟩) (v := .int .i64 a0.Thread) (by kernel_rfl) (by kernel_rfl) (by kernel_rfl) (loads_at 0 (hS7.blk 1 rfl) (by kernel_rfl) (by kernel_rfl)) ?_
  obtain ⟨v9, hv10, hp11⟩ := bind_some' hp0
  have hq14 : ∀ x, Sum.inr x = v9 → x = q0 := by intro x hx; subst hx; simpa using hp11
  have J15 : ∀ (he17 : Sum.inl () = v9) (l16 : List Value) (w12 : World) (hS13 : St w0 Z (xblk b1 46 (enc_api_Ref a0) :: xblk b5 46 (enc_api_Ref a1) :: fs) w12), Runs Try.prog 26 [.code (cd26 [1, 1])] (fill [none, none, some (.pointer (some ⟨b1, 0, none⟩)), some (.pointer (some ⟨b5, 0, none⟩)), none, none, none, none, none, none, none, none, none, none, none, none, none, none, none, none, none, none, none, none, none, none, none, none, none, none] l16) w12 R := by
   intro he17 l16 w12 hS13
   subst he17
   try dsimp only at hp11
   refine sx_run 4 (todo' := [.inRegion (opsOf (cd26 [1, 1, 0, 0])) [1, 2, 3, 4], .code (cd26 [1, 1, 0, 1]), .code (cd26 [1, 1, 1])]) (us := [(15, .pointer (some ⟨b1, 0, none⟩))]) (by kernel_rfl) ?_
   refine r_load (c := (cd26 [1, 1, 0, 0])) (i := 1) (d := (some 16)) (ty := 3) (t := 3) (x := (.tmp 15)) (p := ⟨b1, 0, none⟩) (v := .int .i64 a0.Thread) (by kernel_rfl) (by kernel_rfl) (by kernel_rfl) (loads_at 0 (hS13.blk 0 rfl) (by kernel_rfl) (by kernel_rfl)) ?_
   refine sx_run 1 (todo' := [.inRegion (opsOf (cd26 [1, 1, 0, 0])) [3, 4], .code (cd26 [1, 1, 0, 1]), .code (cd26 [1, 1, 1])]) (us := [(17, .pointer (some ⟨b5, 0, none⟩))]) (by kernel_rfl) ?_
   refine r_load (c := (cd26 [1, 1, 0, 0])) (i := 3) (d := (some 18)) (ty := 3) (t := 3) (x := (.tmp 17)) (p := ⟨b5, 0, none⟩) (v := .int .i64 a1.Thread) (by kernel_rfl) (by kernel_rfl) (by kernel_rfl) (loads_at 0 (hS13.blk 1 rfl) (by kernel_rfl) (by kernel_rfl)) ?_
   refine sx_split 1 (todo' := [.inRegion (opsOf (cd26 [1, 1, 0, 0])) [], .code (cd26 [1, 1, 0, 1]), .code (cd26 [1, 1, 1])]) (us := []) (d := 19) (t := (a0.Thread != a1.Thread)) (by kernel_rfl) (fun h18 => ?_) (fun h19 => ?_)
   ·skip
    have hp20 := ite_t hp11 h18
    refine sx_run 5 (todo' := [.inRegion (opsOf (cd26 [1, 1, 0, 1, 0, 0])) [1, 2, 3, 4, 5], .code (cd26 [1, 1, 0, 1, 0, 1]), .code (cd26 [1, 1, 1])]) (us := [(20, .pointer (some ⟨b1, 0, none⟩))]) (by kernel_rfl) ?_
    refine r_load (c := (cd26 [1, 1, 0, 1, 0, 0])) (i := 1) (d := (some 21)) (ty := 3) (t := 3) (x := (.tmp 20)) (p := ⟨b1, 0, none⟩) (v := .int .i64 a0.Thread) (by kernel_rfl) (by kernel_rfl) (by kernel_rfl) (loads_at 0 (hS13.blk 0 rfl) (by kernel_rfl) (by kernel_rfl)) ?_
    refine sx_run 1 (todo' := [.inRegion (opsOf (cd26 [1, 1, 0, 1, 0, 0])) [3, 4, 5], .code (cd26 [1, 1, 0, 1, 0, 1]), .code (cd26 [1, 1, 1])]) (us := [(22, .pointer (some ⟨b5, 0, none⟩))]) (by kernel_rfl) ?_
    refine r_load (c := (cd26 [1, 1, 0, 1, 0, 0])) (i := 3) (d := (some 23)) (ty := 3) (t := 3) (x := (.tmp 22)) (p := ⟨b5, 0, none⟩) (v := .int .i64 a1.Thread) (by kernel_rfl) (by kernel_rfl) (by kernel_rfl) (loads_at 0 (hS13.blk 1 rfl) (by kernel_rfl) (by kernel_rfl)) ?_
    refine sx_split 1 (todo' := [.inRegion (opsOf (cd26 [1, 1, 0, 1, 0, 0])) [5], .code (cd26 [1, 1, 0, 1, 0, 1]), .code (cd26 [1, 1, 1])]) (us := []) (d := 24) (t := (decide (a0.Thread < a1.Thread))) (by kernel_rfl) (fun h21 => ?_) (fun h22 => ?_)
    ·skip
     have hp23 := ite_t hp20 h21
     refine sx_run 2 (todo' := [.code (cd26 [1, 1, 0, 1, 0, 1]), .code (cd26 [1, 1, 1])]) (us := [(4, .bool true)]) (by kernel_rfl) ?_
     have hS24 := hS13.drop
     have hS25 := hS24.drop
     refine runs_ret (fn := Try.f26) (v := .bool true) Try.func26 (by kernel_rfl) ?_
     have hr26 := (Option.some.inj hp23)
     cases hr26
     exact hR _ _ ⟨rfl, hS25⟩
    ·skip
     have hp27 := ite_f hp20 h22
     refine sx_run 2 (todo' := [.code (cd26 [1, 1, 0, 1, 0, 1]), .code (cd26 [1, 1, 1])]) (us := [(4, .bool false)]) (by kernel_rfl) ?_
     have hS28 := hS13.drop
     have hS29 := hS28.drop
     refine runs_ret (fn := Try.f26) (v := .bool false) Try.func26 (by kernel_rfl) ?_
     have hr30 := (Option.some.inj hp27)
     cases hr30
     exact hR _ _ ⟨rfl, hS29⟩
   ·skip
    have hp31 := ite_f hp11 h19
    refine sx_run 6 (todo' := [.inRegion (opsOf (cd26 [1, 1, 1, 0])) [1, 2, 3, 4, 5], .code (cd26 [1, 1, 1, 1])]) (us := [(25, .pointer (some ⟨b1, 1, none⟩))]) (by kernel_rfl) ?_
    refine r_load (c := (cd26 [1, 1, 1, 0])) (i := 1) (d := (some 26)) (ty := 9) (t := 9) (x := (.tmp 25)) (p := ⟨b1, 1, none⟩) (v := .string a0.Name) (by kernel_rfl) (by kernel_rfl) (by kernel_rfl) (loads_at 1 (hS13.blk 0 rfl) (by kernel_rfl) (by kernel_rfl)) ?_
    refine sx_run 1 (todo' := [.inRegion (opsOf (cd26 [1, 1, 1, 0])) [3, 4, 5], .code (cd26 [1, 1, 1, 1])]) (us := [(27, .pointer (some ⟨b5, 1, none⟩))]) (by kernel_rfl) ?_
    refine r_load (c := (cd26 [1, 1, 1, 0])) (i := 3) (d := (some 28)) (ty := 9) (t := 9) (x := (.tmp 27)) (p := ⟨b5, 1, none⟩) (v := .string a1.Name) (by kernel_rfl) (by kernel_rfl) (by kernel_rfl) (loads_at 1 (hS13.blk 1 rfl) (by kernel_rfl) (by kernel_rfl)) ?_
    refine sx_split 1 (todo' := [.inRegion (opsOf (cd26 [1, 1, 1, 0])) [5], .code (cd26 [1, 1, 1, 1])]) (us := []) (d := 29) (t := (Op.bytesLess a0.Name.toList a1.Name.toList)) (by kernel_rfl) (fun h32 => ?_) (fun h33 => ?_)
    ·skip
     have hp34 := ite_t hp31 h32
     refine sx_run 2 (todo' := [.code (cd26 [1, 1, 1, 1])]) (us := [(4, .bool true)]) (by kernel_rfl) ?_
     have hS35 := hS13.drop
     have hS36 := hS35.drop
     refine runs_ret (fn := Try.f26) (v := .bool true) Try.func26 (by kernel_rfl) ?_
     have hr37 := (Option.some.inj hp34)
     cases hr37
     exact hR _ _ ⟨rfl, hS36⟩
    ·skip
     have hp38 := ite_f hp31 h33
     refine sx_run 2 (todo' := [.code (cd26 [1, 1, 1, 1])]) (us := [(4, .bool false)]) (by kernel_rfl) ?_
     have hS39 := hS13.drop
     have hS40 := hS39.drop
     refine runs_ret (fn := Try.f26) (v := .bool false) Try.func26 (by kernel_rfl) ?_
     have hr41 := (Option.some.inj hp38)
     cases hr41
     exact hR _ _ ⟨rfl, hS40⟩
  refine sx_split 1 (todo' := [.inRegion (opsOf (cd26 [1, 0, 0])) [3, 4, 5, 6], .code (cd26 [1, 0, 1]), .code (cd26 [1, 1])]) (us := []) (d := 7) (t := (a0.Thread == (-1))) (by kernel_rfl) (fun h42 => ?_) (fun h43 => ?_)
  ·skip
   have hp44 := ite_t hv10 h42
   refine sx_run 1 (todo' := [.inRegion (opsOf (cd26 [1, 0, 0])) [4, 5, 6], .code (cd26 [1, 0, 1]), .code (cd26 [1, 1])]) (us := [(8, .pointer (some ⟨b5, 0, none⟩))]) (by kernel_rfl) ?_
   refine r_load (c := (cd26 [1, 0, 0])) (i := 4) (d := (some 9)) (ty := 3) (t := 3) (x := (.tmp 8)) (p := ⟨b5, 0, none⟩) (v := .int .i64 a1.Thread) (by kernel_rfl) (by kernel_rfl) (by kernel_rfl) (loads_at 0 (hS7.blk 0 rfl) (by kernel_rfl) (by kernel_rfl)) ?_
   refine sx_split 1 (todo' := [.inRegion (opsOf (cd26 [1, 0, 0])) [6], .code (cd26 [1, 0, 1]), .code (cd26 [1, 1])]) (us := []) (d := 10) (t := (a1.Thread == (-1))) (by kernel_rfl) (fun h45 => ?_) (fun h46 => ?_)
   ·skip
    have hp47 := ite_t hp44 h45
    refine sx_run 4 (todo' := [.code (cd26 [1, 1])]) (us := [(11, .bool false)]) (by kernel_rfl) ?_
    have hS48 := hS7.pick1
    refine Runs.fill (m := [none, none, some (.pointer (some ⟨b1, 0, none⟩)), some (.pointer (some ⟨b5, 0, none⟩)), none, none, none, none, none, none, none, none, none, none, none, none, none, none, none, none, none, none, none, none, none, none, none, none, none, none]) (by kernel_rfl) ?_
    exact J15 (Option.some.inj hp47) _ _ hS48
   ·skip
    have hp49 := ite_f hp44 h46
    refine sx_run 6 (todo' := [.inRegion (opsOf (cd26 [1, 0, 1, 0, 0])) [1, 2, 3], .code (cd26 [1, 0, 1, 0, 1]), .code (cd26 [1, 1])]) (us := [(11, .bool true), (12, .pointer (some ⟨b5, 0, none⟩))]) (by kernel_rfl) ?_
    refine r_load (c := (cd26 [1, 0, 1, 0, 0])) (i := 1) (d := (some 13)) (ty := 3) (t := 3) (x := (.tmp 12)) (p := ⟨b5, 0, none⟩) (v := .int .i64 a1.Thread) (by kernel_rfl) (by kernel_rfl) (by kernel_rfl) (loads_at 0 (hS7.blk 0 rfl) (by kernel_rfl) (by kernel_rfl)) ?_
    refine sx_split 1 (todo' := [.inRegion (opsOf (cd26 [1, 0, 1, 0, 0])) [3], .code (cd26 [1, 0, 1, 0, 1]), .code (cd26 [1, 1])]) (us := []) (d := 14) (t := (a1.Thread == (-1))) (by kernel_rfl) (fun h50 => ?_) (fun h51 => ?_)
    ·skip
     have hp52 := ite_t hp49 h50
     refine sx_run 2 (todo' := [.code (cd26 [1, 0, 1, 0, 1]), .code (cd26 [1, 1])]) (us := [(4, .bool true)]) (by kernel_rfl) ?_
     have hS53 := hS7.drop
     have hS54 := hS53.drop
     refine runs_ret (fn := Try.f26) (v := .bool true) Try.func26 (by kernel_rfl) ?_
     have hr55 := (hq14 _ (Option.some.inj hp52))
     cases hr55
     exact hR _ _ ⟨rfl, hS54⟩
    ·skip
     have hp56 := ite_f hp49 h51
     refine sx_run 2 (todo' := [.code (cd26 [1, 0, 1, 0, 1]), .code (cd26 [1, 1])]) (us := [(4, .bool false)]) (by kernel_rfl) ?_
     have hS57 := hS7.drop
     have hS58 := hS57.drop
     refine runs_ret (fn := Try.f26) (v := .bool false) Try.func26 (by kernel_rfl) ?_
     have hr59 := (hq14 _ (Option.some.inj hp56))
     cases hr59
     exact hR _ _ ⟨rfl, hS58⟩
  ·skip
   have hp60 := ite_f hv10 h43
   refine sx_run 1 (todo' := [.inRegion (opsOf (cd26 [1, 0, 0])) [4, 5, 6], .code (cd26 [1, 0, 1]), .code (cd26 [1, 1])]) (us := [(8, .pointer (some ⟨b5, 0, none⟩))]) (by kernel_rfl) ?_
   refine r_load (c := (cd26 [1, 0, 0])) (i := 4) (d := (some 9)) (ty := 3) (t := 3) (x := (.tmp 8)) (p := ⟨b5, 0, none⟩) (v := .int .i64 a1.Thread) (by kernel_rfl) (by kernel_rfl) (by kernel_rfl) (loads_at 0 (hS7.blk 0 rfl) (by kernel_rfl) (by kernel_rfl)) ?_
   refine sx_split 1 (todo' := [.inRegion (opsOf (cd26 [1, 0, 0])) [6], .code (cd26 [1, 0, 1]), .code (cd26 [1, 1])]) (us := []) (d := 10) (t := (a1.Thread == (-1))) (by kernel_rfl) (fun h61 => ?_) (fun h62 => ?_)
   ·skip
    have hp63 := ite_t hp60 h61
    refine sx_run 6 (todo' := [.inRegion (opsOf (cd26 [1, 0, 1, 0, 0])) [1, 2, 3], .code (cd26 [1, 0, 1, 0, 1]), .code (cd26 [1, 1])]) (us := [(11, .bool true), (12, .pointer (some ⟨b5, 0, none⟩))]) (by kernel_rfl) ?_
    refine r_load (c := (cd26 [1, 0, 1, 0, 0])) (i := 1) (d := (some 13)) (ty := 3) (t := 3) (x := (.tmp 12)) (p := ⟨b5, 0, none⟩) (v := .int .i64 a1.Thread) (by kernel_rfl) (by kernel_rfl) (by kernel_rfl) (loads_at 0 (hS7.blk 0 rfl) (by kernel_rfl) (by kernel_rfl)) ?_
    refine sx_split 1 (todo' := [.inRegion (opsOf (cd26 [1, 0, 1, 0, 0])) [3], .code (cd26 [1, 0, 1, 0, 1]), .code (cd26 [1, 1])]) (us := []) (d := 14) (t := (a1.Thread == (-1))) (by kernel_rfl) (fun h64 => ?_) (fun h65 => ?_)
    ·skip
     have hp66 := ite_t hp63 h64
     refine sx_run 2 (todo' := [.code (cd26 [1, 0, 1, 0, 1]), .code (cd26 [1, 1])]) (us := [(4, .bool true)]) (by kernel_rfl) ?_
     have hS67 := hS7.drop
     have hS68 := hS67.drop
     refine runs_ret (fn := Try.f26) (v := .bool true) Try.func26 (by kernel_rfl) ?_
     have hr69 := (hq14 _ (Option.some.inj hp66))
     cases hr69
     exact hR _ _ ⟨rfl, hS68⟩
    ·skip
     have hp70 := ite_f hp63 h65
     refine sx_run 2 (todo' := [.code (cd26 [1, 0, 1, 0, 1]), .code (cd26 [1, 1])]) (us := [(4, .bool false)]) (by kernel_rfl) ?_
     have hS71 := hS7.drop
     have hS72 := hS71.drop
     refine runs_ret (fn := Try.f26) (v := .bool false) Try.func26 (by kernel_rfl) ?_
     have hr73 := (hq14 _ (Option.some.inj hp70))
     cases hr73
     exact hR _ _ ⟨rfl, hS72⟩
   ·skip
    have hp74 := ite_f hp60 h62
    refine sx_run 4 (todo' := [.code (cd26 [1, 1])]) (us := [(11, .bool false)]) (by kernel_rfl) ?_
    have hS75 := hS7.pick1
    refine Runs.fill (m := [none, none, some (.pointer (some ⟨b1, 0, none⟩)), some (.pointer (some ⟨b5, 0, none⟩)), none, none, none, none, none, none, none, none, none, none, none, none, none, none, none, none, none, none, none, none, none, none, none, none, none, none]) (by kernel_rfl) ?_
    exact J15 (Option.some.inj hp74) _ _ hS75

noncomputable def cd13 (p : List Nat) : Code := sub (bodyOf Try.f13) p
def weirref06_Refs.l1 (a0 : List api_Node) (t26 : List api_Ref) (t30 : Int) (t188 : Int) : Option Int :=
  (if (decide (t188 < (t26.length : Int))) = true then (if 0 ≤ t188 ∧ t188 < (t26.length : Int) then (if 0 ≤ t30 ∧ t30 < (a0.length : Int) then (weirref06_Below.f (gt t26 t188) ((gt a0 t30).Ref) >>= (fun t213 => (if t213 = true then (weirref06_Refs.l1 a0 t26 t30 (IntKind.i64.wrap (t188 + 1))) else some (t188)))) else none) else none) else some (t188))
 partial_fixpoint
def weirref06_Refs.l0 (a0 : List api_Node) (t26 : List api_Ref) (t30 : Int) : Option (List api_Ref) :=
  (if (decide (t30 < (a0.length : Int))) = true then (if 0 ≤ t30 ∧ t30 < (a0.length : Int) then (if (((gt a0 t30).Op) != 2) = true then (weirref06_Refs.l0 a0 t26 (IntKind.i64.wrap (t30 + 1))) else (weirref06_Refs.l1 a0 t26 t30 0 >>= (fun t56 => (if (t56 == (t26.length : Int)) = true then (if 0 ≤ t56 ∧ t56 ≤ ((t26.length : Nat) : Int) then (if (([] : List api_Ref).length + ((t26.drop t56.toNat).take (t26.length - t56.toNat)).length) * 24 ≤ 140737488355328 then (if 0 ≤ t56 ∧ t56 ≤ (t26.length : Int) then (if 0 ≤ t30 ∧ t30 < (a0.length : Int) then (if (t56.toNat + ([(gt a0 t30).Ref] : List api_Ref).length) * 24 ≤ 140737488355328 ∧ t56.toNat ≤ t26.length then (if (((t26.take t56.toNat) ++ ([(gt a0 t30).Ref] : List api_Ref)).length + (([] : List api_Ref) ++ ((t26.drop t56.toNat).take (t26.length - t56.toNat))).length) * 24 ≤ 140737488355328 then (weirref06_Refs.l0 a0 (((t26.take t56.toNat) ++ ([(gt a0 t30).Ref] : List api_Ref)) ++ (([] : List api_Ref) ++ ((t26.drop t56.toNat).take (t26.length - t56.toNat)))) (IntKind.i64.wrap (t30 + 1))) else none) else none) else none) else none) else none) else none) else (if 0 ≤ t56 ∧ t56 < (t26.length : Int) then (if 0 ≤ t30 ∧ t30 < (a0.length : Int) then (if (!(decide ((gt t26 t56) = (gt a0 t30).Ref))) = true then (if 0 ≤ t56 ∧ t56 ≤ ((t26.length : Nat) : Int) then (if (([] : List api_Ref).length + ((t26.drop t56.toNat).take (t26.length - t56.toNat)).length) * 24 ≤ 140737488355328 then (if 0 ≤ t56 ∧ t56 ≤ (t26.length : Int) then (if 0 ≤ t30 ∧ t30 < (a0.length : Int) then (if (t56.toNat + ([(gt a0 t30).Ref] : List api_Ref).length) * 24 ≤ 140737488355328 ∧ t56.toNat ≤ t26.length then (if (((t26.take t56.toNat) ++ ([(gt a0 t30).Ref] : List api_Ref)).length + (([] : List api_Ref) ++ ((t26.drop t56.toNat).take (t26.length - t56.toNat))).length) * 24 ≤ 140737488355328 then (weirref06_Refs.l0 a0 (((t26.take t56.toNat) ++ ([(gt a0 t30).Ref] : List api_Ref)) ++ (([] : List api_Ref) ++ ((t26.drop t56.toNat).take (t26.length - t56.toNat)))) (IntKind.i64.wrap (t30 + 1))) else none) else none) else none) else none) else none) else none) else (weirref06_Refs.l0 a0 t26 (IntKind.i64.wrap (t30 + 1)))) else none) else none))))) else none) else some (t26))
 partial_fixpoint
def weirref06_Refs.f (a0 : List api_Node) : Option ((List api_Ref) × Int) :=
  (weirref06_Check.f a0 >>= (fun t1 => (if (t1 != 0) = true then some (([], t1)) else (weirref06_Refs.l0 a0 [] 0 >>= (fun t16 => some ((t16, 0)))))))
set_option maxHeartbeats 16000000 in
theorem weirref06_Refs.ok (a0 : List api_Node) (Aa0 : Option Addr) (ca0 : Nat) {w0 : World} {Z : Zm} {fs : List XObj} {w : World} (hS0 : St w0 Z (fs) w) (ha0 : SlZ (flat enc_api_Node) 6 Z Aa0 ca0 a0) {q0 : List api_Ref} {q1 : Int} (hp0 : weirref06_Refs.f a0 = some (q0, q1)) :
    Calls Try.prog 13 #[.slice Aa0 a0.length ca0] w (fun e w' => ∃ (QA0 : Option Addr) (Qc0 : Nat), e = .returned (.tuple #[.slice QA0 q0.length Qc0, .int .i64 q1]) ∧ St w0 Z (xrow QA0 Qc0 46 2 (q0.flatMap enc_api_Ref) :: fs) w') := by
  refine calls_abs ?_; intro R hR
  unfold weirref06_Refs.f at hp0
  refine calls_of_runs (fn := Try.f13) (c := cd13 []) Try.func13 (by kernel_rfl) (al := [.slice Aa0 a0.length ca0]) rfl (n := 77) rfl ?_
  refine sx_run 8 (todo' := [.inRegion (opsOf (cd13 [1, 0])) [1, 2], .code (cd13 [1, 1])]) (us := [(2, .slice none 0 0), (3, .int .i64 0), (9, .slice Aa0 a0.length ca0)]) (by kernel_rfl) ?_
  obtain ⟨t1, hr2, hp3⟩ := bind_some' hp0
  refine r_call1 (c := (cd13 [1, 0])) (i := 1) (d := (some 10)) (g := 21) (args := #[.slice Aa0 a0.length ca0]) (by kernel_rfl) (by kernel_rfl) (by kernel_rfl) (by kernel_rfl) (weirref06_Check.ok a0 Aa0 ca0 hS0 ha0 hr2) ?_
  rintro _ w4 ⟨rfl, hS5⟩
  refine ⟨.int .i64 t1, rfl, ?_⟩
  refine sx_split 7 (todo' := [.inRegion (opsOf (cd13 [1, 1, 0, 0])) [], .code (cd13 [1, 1, 0, 1]), .code (cd13 [1, 1, 1])]) (us := [(4, .int .i64 t1), (11, .int .i64 t1)]) (d := 12) (t := (t1 != 0)) (by kernel_rfl) (fun h6 => ?_) (fun h7 => ?_)
  ·skip
   have hp8 := ite_t hp3 h6
   refine sx_run 8 (todo' := [.code (cd13 [1, 1, 0, 1, 0, 1]), .code (cd13 [1, 1, 1])]) (us := [(13, .int .i64 t1), (2, .slice none 0 0), (3, .int .i64 t1)]) (by kernel_rfl) ?_
   have hS10 := hS5.nilrow none 46 2
   refine runs_ret (fn := Try.f13) (v := .tuple #[.slice none 0 0, .int .i64 t1]) Try.func13 (by kernel_rfl) ?_
   have hr11 := (Option.some.inj hp8)
   cases hr11
   exact hR _ _ ⟨none, 0, rfl, hS10⟩
  ·skip
   have hp12 := ite_f hp3 h7
   refine sx_run 14 (todo' := [.code (cd13 [1, 1, 1, 1, 0, 1, 0, 0]), .inLoop (cd13 [1, 1, 1, 1, 0, 1, 0, 0]), .inBlock 0, .code (cd13 [1, 1, 1, 1, 1])]) (us := [(5, .slice none 0 0), (6, .int .i64 0)]) (by kernel_rfl) ?_
   obtain ⟨v13, hv14, hp15⟩ := bind_some' hp12
   have J22 : ∀ (t16 : List api_Ref) (he24 : t16 = v13) (l23 : List Value) (A17 : Option Addr) (c18 : Nat) (w20 : World) (hS21 : St w0 Z (xrow A17 c18 46 2 (t16.flatMap enc_api_Ref) :: fs) w20), Runs Try.prog 13 [.code (cd13 [1, 1, 1, 1, 1])] (fill [none, none, none, none, none, some (.slice A17 t16.length c18), none, none, none, none, none, none, none, none, none, none, none, none, none, none, none, none, none, none, none, none, none, none, none, none, none, none, none, none, none, none, none, none, none, none, none, none, none, none, none, none, none, none, none, none, none, none, none, none, none, none, none, none, none, none, none, none, none, none, none, none, none, none, none, none, none, none, none, none, none, none, none, none] l23) w20 R := by
    intro t16 he24 l23 A17 c18 w20 hS21
    subst he24
    try dsimp only at hp15
    refine sx_run 6 (todo' := [.code (cd13 [1, 1, 1, 1, 1, 1])]) (us := [(77, .slice A17 t16.length c18), (2, .slice A17 t16.length c18), (3, .int .i64 0)]) (by kernel_rfl) ?_
    refine runs_ret (fn := Try.f13) (v := .tuple #[.slice A17 t16.length c18, .int .i64 0]) Try.func13 (by kernel_rfl) ?_
    have hr25 := (Option.some.inj hp15)
    cases hr25
    exact hR _ _ ⟨A17, c18, rfl, hS21⟩
   have L39 : ∀ (t26 : List api_Ref) (t30 : Int) (e34 : (List api_Ref)), weirref06_Refs.l0 a0 t26 t30 = some e34 → e34 = v13 → ∀ (l33 : List Value) (A27 : Option Addr) (c28 : Nat) (w31 : World) (hS32 : St w0 Z (xrow A27 c28 46 2 (t26.flatMap enc_api_Ref) :: fs) w31), Runs Try.prog 13 [.code (cd13 [1, 1, 1, 1, 0, 1, 0, 0]), .inLoop (cd13 [1, 1, 1, 1, 0, 1, 0, 0]), .inBlock 0, .code (cd13 [1, 1, 1, 1, 1])] (fill [some (.slice Aa0 a0.length ca0), none, none, none, none, some (.slice A27 t26.length c28), some (.int .i64 t30), none, none, none, none, none, none, none, none, none, none, none, none, none, none, none, none, none, none, none, none, none, none, none, none, none, none, none, none, none, none, none, none, none, none, none, none, none, none, none, none, none, none, none, none, none, none, none, none, none, none, none, none, none, none, none, none, none, none, none, none, none, none, none, none, none, none, none, none, none, none, none] l33) w31 R := by
    refine weirref06_Refs.l0.partial_correctness a0 (fun t26 t30 e34 => e34 = v13 → ∀ (l33 : List Value) (A27 : Option Addr) (c28 : Nat) (w31 : World) (hS32 : St w0 Z (xrow A27 c28 46 2 (t26.flatMap enc_api_Ref) :: fs) w31), Runs Try.prog 13 [.code (cd13 [1, 1, 1, 1, 0, 1, 0, 0]), .inLoop (cd13 [1, 1, 1, 1, 0, 1, 0, 0]), .inBlock 0, .code (cd13 [1, 1, 1, 1, 1])] (fill [some (.slice Aa0 a0.length ca0), none, none, none, none, some (.slice A27 t26.length c28), some (.int .i64 t30), none, none, none, none, none, none, none, none, none, none, none, none, none, none, none, none, none, none, none, none, none, none, none, none, none, none, none, none, none, none, none, none, none, none, none, none, none, none, none, none, none, none, none, none, none, none, none, none, none, none, none, none, none, none, none, none, none, none, none, none, none, none, none, none, none, none, none, none, none, none, none] l33) w31 R) ?_
    intro rec38 ih37 t26 t30 e34 hb36 he35 l33 A27 c28 w31 hS32
    refine sx_split 7 (todo' := [.inRegion (opsOf (cd13 [1, 1, 1, 1, 0, 1, 0, 0, 0, 0])) [], .code (cd13 [1, 1, 1, 1, 0, 1, 0, 0, 0, 1]), .code (cd13 [1, 1, 1, 1, 0, 1, 0, 0, 1]), .inLoop (cd13 [1, 1, 1, 1, 0, 1, 0, 0]), .inBlock 0, .code (cd13 [1, 1, 1, 1, 1])]) (us := [(14, .int .i64 t30), (15, .slice Aa0 a0.length ca0), (16, .int .i64 (a0.length : Int))]) (d := 17) (t := (decide (t30 < (a0.length : Int)))) (by kernel_rfl) (fun h40 => ?_) (fun h41 => ?_)
    ·skip
     have hp42 := ite_t hb36 h40
     refine sx_run 10 (todo' := [.inRegion (opsOf (cd13 [1, 1, 1, 1, 0, 1, 0, 0, 1, 0, 0, 0, 0])) [2, 3, 4, 5], .code (cd13 [1, 1, 1, 1, 0, 1, 0, 0, 1, 0, 0, 0, 1]), .code (cd13 [1, 1, 1, 1, 0, 1, 0, 0, 1, 0, 0, 1]), .inBlock 1, .code (cd13 [1, 1, 1, 1, 0, 1, 0, 0, 1, 1]), .inLoop (cd13 [1, 1, 1, 1, 0, 1, 0, 0]), .inBlock 0, .code (cd13 [1, 1, 1, 1, 1])]) (us := [(20, .slice Aa0 a0.length ca0), (21, .int .i64 t30)]) (by kernel_rfl) ?_
     obtain ⟨g43, hp44⟩ := ite_some hp42
     obtain ⟨b45, p46, hA47, hc48⟩ := ha0.atF g43.1 g43.2
     refine r_indexAddr (c := (cd13 [1, 1, 1, 1, 0, 1, 0, 0, 1, 0, 0, 0, 0])) (i := 2) (d := (some 22)) (ty := 0) (t := 23) (e := 52) (n := a0.length) (cp := ca0) (sz := 6) (kk := .i64) (x := (.tmp 20)) (y := (.tmp 21)) (b := b45) (o' := p46) (j := t30) (by kernel_rfl) (by kernel_rfl) (slv (by kernel_rfl) hA47) (by kernel_rfl) (by kernel_rfl) (by kernel_rfl) g43.1 g43.2 ?_
     refine sx_run 1 (todo' := [.inRegion (opsOf (cd13 [1, 1, 1, 1, 0, 1, 0, 0, 1, 0, 0, 0, 0])) [4, 5], .code (cd13 [1, 1, 1, 1, 0, 1, 0, 0, 1, 0, 0, 0, 1]), .code (cd13 [1, 1, 1, 1, 0, 1, 0, 0, 1, 0, 0, 1]), .inBlock 1, .code (cd13 [1, 1, 1, 1, 0, 1, 0, 0, 1, 1]), .inLoop (cd13 [1, 1, 1, 1, 0, 1, 0, 0]), .inBlock 0, .code (cd13 [1, 1, 1, 1, 1])]) (us := [(23, .pointer (some ⟨b45, p46 + t30.toNat * 6, none⟩))]) (by kernel_rfl) ?_
     refine r_load (c := (cd13 [1, 1, 1, 1, 0, 1, 0, 0, 1, 0, 0, 0, 0])) (i := 4) (d := (some 24)) (ty := 3) (t := 3) (x := (.tmp 23)) (p := ⟨b45, p46 + t30.toNat * 6, none⟩) (v := .int .i64 ((gt a0 t30).Op)) (by kernel_rfl) (by kernel_rfl) (by kernel_rfl) (loads_at 0 (hc48.cells hS32) (by kernel_rfl) (by kernel_rfl)) ?_
     refine sx_split 1 (todo' := [.inRegion (opsOf (cd13 [1, 1, 1, 1, 0, 1, 0, 0, 1, 0, 0, 0, 0])) [], .code (cd13 [1, 1, 1, 1, 0, 1, 0, 0, 1, 0, 0, 0, 1]), .code (cd13 [1, 1, 1, 1, 0, 1, 0, 0, 1, 0, 0, 1]), .inBlock 1, .code (cd13 [1, 1, 1, 1, 0, 1, 0, 0, 1, 1]), .inLoop (cd13 [1, 1, 1, 1, 0, 1, 0, 0]), .inBlock 0, .code (cd13 [1, 1, 1, 1, 1])]) (us := []) (d := 25) (t := (((gt a0 t30).Op) != 2)) (by kernel_rfl) (fun h49 => ?_) (fun h50 => ?_)
     ·skip
      have hp51 := ite_t hp44 h49
      refine sx_run 8 (todo' := [.inLoop (cd13 [1, 1, 1, 1, 0, 1, 0, 0]), .inBlock 0, .code (cd13 [1, 1, 1, 1, 1])]) (us := [(18, .int .i64 t30), (19, .int .i64 (IntKind.i64.wrap (t30 + 1))), (6, .int .i64 (IntKind.i64.wrap (t30 + 1)))]) (by kernel_rfl) ?_
      refine sx_run 1 (todo' := [.code (cd13 [1, 1, 1, 1, 0, 1, 0, 0]), .inLoop (cd13 [1, 1, 1, 1, 0, 1, 0, 0]), .inBlock 0, .code (cd13 [1, 1, 1, 1, 1])]) (us := []) (by kernel_rfl) ?_
      refine Runs.fill (m := [some (.slice Aa0 a0.length ca0), none, none, none, none, some (.slice A27 t26.length c28), some (.int .i64 (IntKind.i64.wrap (t30 + 1))), none, none, none, none, none, none, none, none, none, none, none, none, none, none, none, none, none, none, none, none, none, none, none, none, none, none, none, none, none, none, none, none, none, none, none, none, none, none, none, none, none, none, none, none, none, none, none, none, none, none, none, none, none, none, none, none, none, none, none, none, none, none, none, none, none, none, none, none, none, none, none]) (by kernel_rfl) ?_
      exact ih37 t26 (IntKind.i64.wrap (t30 + 1)) _ hp51 he35 _ A27 c28 _ hS32
     ·skip
      have hp52 := ite_f hp44 h50
      refine sx_run 10 (todo' := [.code (cd13 [1, 1, 1, 1, 0, 1, 0, 0, 1, 0, 0, 1, 1, 0, 0, 0]), .inLoop (cd13 [1, 1, 1, 1, 0, 1, 0, 0, 1, 0, 0, 1, 1, 0, 0, 0]), .inBlock 2, .code (cd13 [1, 1, 1, 1, 0, 1, 0, 0, 1, 0, 0, 1, 1, 1]), .inBlock 1, .code (cd13 [1, 1, 1, 1, 0, 1, 0, 0, 1, 1]), .inLoop (cd13 [1, 1, 1, 1, 0, 1, 0, 0]), .inBlock 0, .code (cd13 [1, 1, 1, 1, 1])]) (us := [(7, .int .i64 0)]) (by kernel_rfl) ?_
      obtain ⟨v53, hv54, hp55⟩ := bind_some' hp52
      have J59 : ∀ (t56 : Int) (he61 : t56 = v53) (l60 : List Value) (w57 : World) (hS58 : St w0 Z (xrow A27 c28 46 2 (t26.flatMap enc_api_Ref) :: fs) w57), Runs Try.prog 13 [.code (cd13 [1, 1, 1, 1, 0, 1, 0, 0, 1, 0, 0, 1, 1, 1]), .inBlock 1, .code (cd13 [1, 1, 1, 1, 0, 1, 0, 0, 1, 1]), .inLoop (cd13 [1, 1, 1, 1, 0, 1, 0, 0]), .inBlock 0, .code (cd13 [1, 1, 1, 1, 1])] (fill [some (.slice Aa0 a0.length ca0), none, none, none, none, some (.slice A27 t26.length c28), some (.int .i64 t30), some (.int .i64 t56), none, none, none, none, none, none, none, none, none, none, none, none, none, none, none, none, none, none, none, none, none, none, none, none, none, none, none, none, none, none, none, none, none, none, none, none, none, none, none, none, none, none, none, none, none, none, none, none, none, none, none, none, none, none, none, none, none, none, none, none, none, none, none, none, none, none, none, none, none, none] l60) w57 R := by
       intro t56 he61 l60 w57 hS58
       subst he61
       try dsimp only at hp55
       refine sx_run 1 (todo' := [.code (cd13 [1, 1, 1, 1, 0, 1, 0, 0, 1, 0, 0, 1, 1, 1, 0]), .code (cd13 [1, 1, 1, 1, 0, 1, 0, 0, 1, 0, 0, 1, 1, 1, 1]), .inBlock 1, .code (cd13 [1, 1, 1, 1, 0, 1, 0, 0, 1, 1]), .inLoop (cd13 [1, 1, 1, 1, 0, 1, 0, 0]), .inBlock 0, .code (cd13 [1, 1, 1, 1, 1])]) (us := []) (by kernel_rfl) ?_
       refine r_quiet hS58 (c := (cd13 [1, 1, 1, 1, 0, 1, 0, 0, 1, 0, 0, 1, 1, 1, 0])) (id := 12) (by kernel_rfl) (by kernel_rfl) (by kernel_rfl) (is := [0, 1, 2, 3, 4, 5, 6, 7, 8, 9, 10, 11, 12, 13, 14, 15]) (by kernel_rfl) ?_
       refine q_splitr 4 (is' := [4, 5, 6, 7, 8, 9, 10, 11, 12, 13, 14, 15]) (us := [(44, .int .i64 t56), (45, .slice A27 t26.length c28), (46, .int .i64 (t26.length : Int))]) (d := 47) (t := (t56 == (t26.length : Int))) (by kernel_rfl) (fun h62 => ?_) (fun h63 => ?_)
       ·skip
        have hp64 := ite_t hp55 h62
        refine q_run 12 (is' := []) (us := [(48, .bool true), (49, undef), (50, undef), (51, undef), (52, undef), (53, undef), (54, undef), (55, undef), (56, undef), (57, undef), (58, undef), (59, .bool true)]) (by kernel_rfl) ?_
        refine Qs.nil ?_
        intro w65 hS66
        refine sx_run 3 (todo' := [.inRegion (opsOf (cd13 [1, 1, 1, 1, 0, 1, 0, 0, 1, 0, 0, 1, 1, 1, 1, 0, 0])) [0, 1, 2, 3, 4, 5], .code (cd13 [1, 1, 1, 1, 0, 1, 0, 0, 1, 0, 0, 1, 1, 1, 1, 0, 1]), .inBlock 1, .code (cd13 [1, 1, 1, 1, 0, 1, 0, 0, 1, 1]), .inLoop (cd13 [1, 1, 1, 1, 0, 1, 0, 0]), .inBlock 0, .code (cd13 [1, 1, 1, 1, 1])]) (us := []) (by kernel_rfl) ?_
        refine r_lit0 (c := (cd13 [1, 1, 1, 1, 0, 1, 0, 0, 1, 0, 0, 1, 1, 1, 1, 0, 0])) (i := 0) (d := (some 60)) (ty := 34) (t := 34) (e := 46) (sz := 2) hS66 (by kernel_rfl) (by kernel_rfl) (by kernel_rfl) (by kernel_rfl) ?_
        intro b68 w69 hS70
        refine sx_run 2 (todo' := [.inRegion (opsOf (cd13 [1, 1, 1, 1, 0, 1, 0, 0, 1, 0, 0, 1, 1, 1, 1, 0, 0])) [3, 4, 5], .code (cd13 [1, 1, 1, 1, 0, 1, 0, 0, 1, 0, 0, 1, 1, 1, 1, 0, 1]), .inBlock 1, .code (cd13 [1, 1, 1, 1, 0, 1, 0, 0, 1, 1]), .inLoop (cd13 [1, 1, 1, 1, 0, 1, 0, 0]), .inBlock 0, .code (cd13 [1, 1, 1, 1, 1])]) (us := [(61, .slice A27 t26.length c28), (62, .int .i64 t56)]) (by kernel_rfl) ?_
        obtain ⟨g71, hp72⟩ := ite_some hp64
        refine r_val (c := (cd13 [1, 1, 1, 1, 0, 1, 0, 0, 1, 0, 0, 1, 1, 1, 1, 0, 0])) (i := 3) (d := (some 63)) (ty := 34) (op := .slice 34 (.tmp 61) (some (.tmp 62)) none none) (v := .slice (vA A27 c28 t56.toNat 2) (t26.length - t56.toNat) (c28 - t56.toNat)) (by kernel_rfl) (by kernel_rfl) (fun o ho _ => x_cutSl_sn (e := 46) (sz := 2) (A := A27) (n := t26.length) (c := c28) (k := .i64) (by kernel_rfl) (by kernel_rfl) (by kernel_rfl) (by kernel_rfl) g71 rfl ho) ?_
        obtain ⟨g73, hp74⟩ := ite_some hp72
        refine r_append (c := (cd13 [1, 1, 1, 1, 0, 1, 0, 0, 1, 0, 0, 1, 1, 1, 1, 0, 0])) (i := 4) (d := (some 64)) (ty := 34) (enc := enc_api_Ref) (e := 46) (u := 46) (t := 34) (t2 := 34) (sz := 2) (cp := 0) (A := (some ⟨b68, 0, none⟩)) (bytes := 24) (xs := ([] : List api_Ref)) (ys := ((t26.drop t56.toNat).take (t26.length - t56.toNat))) (s := (.tmp 60)) (x := (.tmp 63)) (xv := .slice (vA A27 c28 t56.toNat 2) (t26.length - t56.toNat) (c28 - t56.toNat)) (info := infoOf Try.prog 46) (z := zeroOf Try.prog 46) (ycs := ((t26.drop t56.toNat).take (t26.length - t56.toNat)).flatMap enc_api_Ref) hS70 (by kernel_rfl) (by kernel_rfl) (by kernel_rfl) (by kernel_rfl) (by kernel_rfl) (.inl (by kernel_rfl)) (by kernel_rfl) (by kernel_rfl) (by kernel_rfl) (by kernel_rfl) (by kernel_rfl) (by omega) len_api_Ref one_api_Ref (src_rowV' (L := t56.toNat) (n := (t26.length - t56.toNat)) (hS70.row 1 rfl) (by omega) len_api_Ref (by omega)) rfl g73 (by omega) ?_
        intro A75 c76 w77 hS78
        refine sx_run 2 (todo' := [.code (cd13 [1, 1, 1, 1, 0, 1, 0, 0, 1, 0, 0, 1, 1, 1, 1, 0, 1]), .inBlock 1, .code (cd13 [1, 1, 1, 1, 0, 1, 0, 0, 1, 1]), .inLoop (cd13 [1, 1, 1, 1, 0, 1, 0, 0]), .inBlock 0, .code (cd13 [1, 1, 1, 1, 1])]) (us := [(8, .slice A75 (([] : List api_Ref) ++ ((t26.drop t56.toNat).take (t26.length - t56.toNat))).length c76)]) (by kernel_rfl) ?_
        obtain ⟨g80, hp81⟩ := ite_some hp74
        have hc87 := (hS78.row 1 rfl).cap len_api_Ref (by omega)
        have g88 : 0 ≤ t56 ∧ t56 ≤ (c28 : Int) := by omega
        obtain ⟨g89, hp90⟩ := ite_some hp81
        obtain ⟨b91, p92, hA93, hc94⟩ := ha0.atF g89.1 g89.2
        obtain ⟨g101, hp102⟩ := ite_some hp90
        obtain ⟨g107, hp108⟩ := ite_some hp102
        refine r_drawnP (S := Option Nat × Option (Option Addr × Nat) × Option (Option Addr × Nat)) (dn := (fun (st : Option Nat × Option (Option Addr × Nat) × Option (Option Addr × Nat)) k => [st.1.isSome, st.2.1.isSome, st.2.2.isSome].getD k true)) (C := (fun st w' => match st with | (none, none, none) => St w0 Z (xrow A75 c76 46 2 ((([] : List api_Ref) ++ ((t26.drop t56.toNat).take (t26.length - t56.toNat))).flatMap enc_api_Ref) :: xrow A27 c28 46 2 (t26.flatMap enc_api_Ref) :: fs) w' | (none, none, some x106) => False | (none, some x100, none) => False | (none, some x100, some x106) => False | (some b95, none, none) => St w0 Z (xrow (some ⟨b95, 0, none⟩) 1 46 2 (([(gt a0 t30).Ref] : List api_Ref).flatMap enc_api_Ref) :: xrow A75 c76 46 2 ((([] : List api_Ref) ++ ((t26.drop t56.toNat).take (t26.length - t56.toNat))).flatMap enc_api_Ref) :: xrow A27 c28 46 2 (t26.flatMap enc_api_Ref) :: fs) w' | (some b95, none, some x106) => False | (some b95, some x100, none) => St w0 Z (xrow x100.1 x100.2 46 2 (((t26.take t56.toNat) ++ ([(gt a0 t30).Ref] : List api_Ref)).flatMap enc_api_Ref) :: xrow (some ⟨b95, 0, none⟩) 1 46 2 (([(gt a0 t30).Ref] : List api_Ref).flatMap enc_api_Ref) :: xrow A75 c76 46 2 ((([] : List api_Ref) ++ ((t26.drop t56.toNat).take (t26.length - t56.toNat))).flatMap enc_api_Ref) :: fs) w' | (some b95, some x100, some x106) => St w0 Z (xrow x106.1 x106.2 46 2 ((((t26.take t56.toNat) ++ ([(gt a0 t30).Ref] : List api_Ref)) ++ (([] : List api_Ref) ++ ((t26.drop t56.toNat).take (t26.length - t56.toNat)))).flatMap enc_api_Ref) :: xrow (some ⟨b95, 0, none⟩) 1 46 2 (([(gt a0 t30).Ref] : List api_Ref).flatMap enc_api_Ref) :: xrow A75 c76 46 2 ((([] : List api_Ref) ++ ((t26.drop t56.toNat).take (t26.length - t56.toNat))).flatMap enc_api_Ref) :: fs) w')) (v := (fun st => match st with | (none, none, none) => [.slice A27 t26.length c28, .int .i64 t56, .slice A27 t56.toNat c28, .slice Aa0 a0.length ca0, .int .i64 t30, .pointer (some ⟨b91, p92 + t30.toNat * 6, none⟩), .pointer (some ⟨b91, p92 + t30.toNat * 6 + 3, none⟩), .agg (enc_api_Ref ((gt a0 t30).Ref)).toArray, undef, undef, .slice A75 (([] : List api_Ref) ++ ((t26.drop t56.toNat).take (t26.length - t56.toNat))).length c76, undef, undef] | (none, none, some x106) => [.slice A27 t26.length c28, .int .i64 t56, .slice A27 t56.toNat c28, .slice Aa0 a0.length ca0, .int .i64 t30, .pointer (some ⟨b91, p92 + t30.toNat * 6, none⟩), .pointer (some ⟨b91, p92 + t30.toNat * 6 + 3, none⟩), .agg (enc_api_Ref ((gt a0 t30).Ref)).toArray, undef, undef, .slice A75 (([] : List api_Ref) ++ ((t26.drop t56.toNat).take (t26.length - t56.toNat))).length c76, undef, undef] | (none, some x100, none) => [.slice A27 t26.length c28, .int .i64 t56, .slice A27 t56.toNat c28, .slice Aa0 a0.length ca0, .int .i64 t30, .pointer (some ⟨b91, p92 + t30.toNat * 6, none⟩), .pointer (some ⟨b91, p92 + t30.toNat * 6 + 3, none⟩), .agg (enc_api_Ref ((gt a0 t30).Ref)).toArray, undef, undef, .slice A75 (([] : List api_Ref) ++ ((t26.drop t56.toNat).take (t26.length - t56.toNat))).length c76, undef, undef] | (none, some x100, some x106) => [.slice A27 t26.length c28, .int .i64 t56, .slice A27 t56.toNat c28, .slice Aa0 a0.length ca0, .int .i64 t30, .pointer (some ⟨b91, p92 + t30.toNat * 6, none⟩), .pointer (some ⟨b91, p92 + t30.toNat * 6 + 3, none⟩), .agg (enc_api_Ref ((gt a0 t30).Ref)).toArray, undef, undef, .slice A75 (([] : List api_Ref) ++ ((t26.drop t56.toNat).take (t26.length - t56.toNat))).length c76, undef, undef] | (some b95, none, none) => [.slice A27 t26.length c28, .int .i64 t56, .slice A27 t56.toNat c28, .slice Aa0 a0.length ca0, .int .i64 t30, .pointer (some ⟨b91, p92 + t30.toNat * 6, none⟩), .pointer (some ⟨b91, p92 + t30.toNat * 6 + 3, none⟩), .agg (enc_api_Ref ((gt a0 t30).Ref)).toArray, .slice (some ⟨b95, 0, none⟩) ([(gt a0 t30).Ref] : List api_Ref).length 1, undef, .slice A75 (([] : List api_Ref) ++ ((t26.drop t56.toNat).take (t26.length - t56.toNat))).length c76, undef, undef] | (some b95, none, some x106) => [.slice A27 t26.length c28, .int .i64 t56, .slice A27 t56.toNat c28, .slice Aa0 a0.length ca0, .int .i64 t30, .pointer (some ⟨b91, p92 + t30.toNat * 6, none⟩), .pointer (some ⟨b91, p92 + t30.toNat * 6 + 3, none⟩), .agg (enc_api_Ref ((gt a0 t30).Ref)).toArray, .slice (some ⟨b95, 0, none⟩) ([(gt a0 t30).Ref] : List api_Ref).length 1, undef, .slice A75 (([] : List api_Ref) ++ ((t26.drop t56.toNat).take (t26.length - t56.toNat))).length c76, undef, undef] | (some b95, some x100, none) => [.slice A27 t26.length c28, .int .i64 t56, .slice A27 t56.toNat c28, .slice Aa0 a0.length ca0, .int .i64 t30, .pointer (some ⟨b91, p92 + t30.toNat * 6, none⟩), .pointer (some ⟨b91, p92 + t30.toNat * 6 + 3, none⟩), .agg (enc_api_Ref ((gt a0 t30).Ref)).toArray, .slice (some ⟨b95, 0, none⟩) ([(gt a0 t30).Ref] : List api_Ref).length 1, .slice x100.1 ((t26.take t56.toNat) ++ ([(gt a0 t30).Ref] : List api_Ref)).length x100.2, .slice A75 (([] : List api_Ref) ++ ((t26.drop t56.toNat).take (t26.length - t56.toNat))).length c76, undef, undef] | (some b95, some x100, some x106) => [.slice A27 t26.length c28, .int .i64 t56, .slice A27 t56.toNat c28, .slice Aa0 a0.length ca0, .int .i64 t30, .pointer (some ⟨b91, p92 + t30.toNat * 6, none⟩), .pointer (some ⟨b91, p92 + t30.toNat * 6 + 3, none⟩), .agg (enc_api_Ref ((gt a0 t30).Ref)).toArray, .slice (some ⟨b95, 0, none⟩) ([(gt a0 t30).Ref] : List api_Ref).length 1, .slice x100.1 ((t26.take t56.toNat) ++ ([(gt a0 t30).Ref] : List api_Ref)).length x100.2, .slice A75 (([] : List api_Ref) ++ ((t26.drop t56.toNat).take (t26.length - t56.toNat))).length c76, .slice x106.1 (((t26.take t56.toNat) ++ ([(gt a0 t30).Ref] : List api_Ref)) ++ (([] : List api_Ref) ++ ((t26.drop t56.toNat).take (t26.length - t56.toNat)))).length x106.2, .slice x106.1 (((t26.take t56.toNat) ++ ([(gt a0 t30).Ref] : List api_Ref)) ++ (([] : List api_Ref) ++ ((t26.drop t56.toNat).take (t26.length - t56.toNat)))).length x106.2])) (c := (cd13 [1, 1, 1, 1, 0, 1, 0, 0, 1, 0, 0, 1, 1, 1, 1, 0, 1])) (id := 14) (none, none, none) 0 13 [8, 9, 11] [[], [], [], [], [], [], [], [], [], [0], [], [0, 1], [0, 1, 2]] [[], [], [1], [], [], [], [], [0], [1], [2], [2], [], []] [12] [true, true, true, true, true, true, true, true, true, true, true, true, true] (by kernel_rfl) (by kernel_rfl) (by kernel_rfl) (by kernel_rfl) (by kernel_rfl) (by kernel_rfl) (by kernel_rfl) (by kernel_rfl) (by kernel_rfl) (fun k hk => match k, hk with | 0, _ => rfl | 1, _ => rfl | 2, _ => rfl | k + 3, hk => absurd hk (by simp)) hS78.drew ?_ (fun k hk => match k, hk with | 0, _ => rfl | 1, _ => rfl | 2, _ => rfl | k + 3, hk => absurd hk (by simp)) ?_ ?_ ?_
        ·intro i hi st w hC hd
         match i, hi with
         | 0, _ => (show _ = _; kernel_rfl)
         | 1, _ => (show _ = _; kernel_rfl)
         | 2, _ => (show _ = _; kernel_rfl)
         | 3, _ => (show _ = _; kernel_rfl)
         | 4, _ => (show _ = _; kernel_rfl)
         | 5, _ => (show _ = _; kernel_rfl)
         | 6, _ => (show _ = _; kernel_rfl)
         | 7, _ => (show _ = _; kernel_rfl)
         | 8, _ => (show _ = _; kernel_rfl)
         | 9, _ => (show _ = _; kernel_rfl)
         | 10, _ => (show _ = _; kernel_rfl)
         | 11, _ => (show _ = _; kernel_rfl)
         | 12, _ => (show _ = _; kernel_rfl)
         | i + 13, hi => exact absurd hi (by omega)
        ·intro i hi he st w hC hd hu
         match i, hi, he with
         | 0, _, _ =>
          rcases st with ⟨_ | b95, _ | x100, _ | x106⟩
          ·replace hC : St w0 Z (xrow A75 c76 46 2 ((([] : List api_Ref) ++ ((t26.drop t56.toNat).take (t26.length - t56.toNat))).flatMap enc_api_Ref) :: xrow A27 c28 46 2 (t26.flatMap enc_api_Ref) :: fs) w := hC
           exact ⟨fun _ => does_pure (v := .slice A27 t26.length c28) (by kernel_rfl) rfl hC, fun h => absurd h (by decide)⟩
          ·exact False.elim hC
          ·exact False.elim hC
          ·exact False.elim hC
          ·replace hC : St w0 Z (xrow (some ⟨b95, 0, none⟩) 1 46 2 (([(gt a0 t30).Ref] : List api_Ref).flatMap enc_api_Ref) :: xrow A75 c76 46 2 ((([] : List api_Ref) ++ ((t26.drop t56.toNat).take (t26.length - t56.toNat))).flatMap enc_api_Ref) :: xrow A27 c28 46 2 (t26.flatMap enc_api_Ref) :: fs) w := hC
           exact ⟨fun _ => does_pure (v := .slice A27 t26.length c28) (by kernel_rfl) rfl hC, fun h => absurd h (by decide)⟩
          ·exact False.elim hC
          ·replace hC : St w0 Z (xrow x100.1 x100.2 46 2 (((t26.take t56.toNat) ++ ([(gt a0 t30).Ref] : List api_Ref)).flatMap enc_api_Ref) :: xrow (some ⟨b95, 0, none⟩) 1 46 2 (([(gt a0 t30).Ref] : List api_Ref).flatMap enc_api_Ref) :: xrow A75 c76 46 2 ((([] : List api_Ref) ++ ((t26.drop t56.toNat).take (t26.length - t56.toNat))).flatMap enc_api_Ref) :: fs) w := hC
           exact ⟨fun _ => does_pure (v := .slice A27 t26.length c28) (by kernel_rfl) rfl hC, fun h => absurd h (by decide)⟩
          ·replace hC : St w0 Z (xrow x106.1 x106.2 46 2 ((((t26.take t56.toNat) ++ ([(gt a0 t30).Ref] : List api_Ref)) ++ (([] : List api_Ref) ++ ((t26.drop t56.toNat).take (t26.length - t56.toNat)))).flatMap enc_api_Ref) :: xrow (some ⟨b95, 0, none⟩) 1 46 2 (([(gt a0 t30).Ref] : List api_Ref).flatMap enc_api_Ref) :: xrow A75 c76 46 2 ((([] : List api_Ref) ++ ((t26.drop t56.toNat).take (t26.length - t56.toNat))).flatMap enc_api_Ref) :: fs) w := hC
           exact ⟨fun _ => does_pure (v := .slice A27 t26.length c28) (by kernel_rfl) rfl hC, fun h => absurd h (by decide)⟩
         | 1, _, _ =>
          rcases st with ⟨_ | b95, _ | x100, _ | x106⟩
          ·replace hC : St w0 Z (xrow A75 c76 46 2 ((([] : List api_Ref) ++ ((t26.drop t56.toNat).take (t26.length - t56.toNat))).flatMap enc_api_Ref) :: xrow A27 c28 46 2 (t26.flatMap enc_api_Ref) :: fs) w := hC
           exact ⟨fun _ => does_pure (v := .int .i64 t56) (by kernel_rfl) rfl hC, fun h => absurd h (by decide)⟩
          ·exact False.elim hC
          ·exact False.elim hC
          ·exact False.elim hC
          ·replace hC : St w0 Z (xrow (some ⟨b95, 0, none⟩) 1 46 2 (([(gt a0 t30).Ref] : List api_Ref).flatMap enc_api_Ref) :: xrow A75 c76 46 2 ((([] : List api_Ref) ++ ((t26.drop t56.toNat).take (t26.length - t56.toNat))).flatMap enc_api_Ref) :: xrow A27 c28 46 2 (t26.flatMap enc_api_Ref) :: fs) w := hC
           exact ⟨fun _ => does_pure (v := .int .i64 t56) (by kernel_rfl) rfl hC, fun h => absurd h (by decide)⟩
          ·exact False.elim hC
          ·replace hC : St w0 Z (xrow x100.1 x100.2 46 2 (((t26.take t56.toNat) ++ ([(gt a0 t30).Ref] : List api_Ref)).flatMap enc_api_Ref) :: xrow (some ⟨b95, 0, none⟩) 1 46 2 (([(gt a0 t30).Ref] : List api_Ref).flatMap enc_api_Ref) :: xrow A75 c76 46 2 ((([] : List api_Ref) ++ ((t26.drop t56.toNat).take (t26.length - t56.toNat))).flatMap enc_api_Ref) :: fs) w := hC
           exact ⟨fun _ => does_pure (v := .int .i64 t56) (by kernel_rfl) rfl hC, fun h => absurd h (by decide)⟩
          ·replace hC : St w0 Z (xrow x106.1 x106.2 46 2 ((((t26.take t56.toNat) ++ ([(gt a0 t30).Ref] : List api_Ref)) ++ (([] : List api_Ref) ++ ((t26.drop t56.toNat).take (t26.length - t56.toNat)))).flatMap enc_api_Ref) :: xrow (some ⟨b95, 0, none⟩) 1 46 2 (([(gt a0 t30).Ref] : List api_Ref).flatMap enc_api_Ref) :: xrow A75 c76 46 2 ((([] : List api_Ref) ++ ((t26.drop t56.toNat).take (t26.length - t56.toNat))).flatMap enc_api_Ref) :: fs) w := hC
           exact ⟨fun _ => does_pure (v := .int .i64 t56) (by kernel_rfl) rfl hC, fun h => absurd h (by decide)⟩
         | 2, _, _ =>
          rcases st with ⟨_ | b95, _ | x100, _ | x106⟩
          ·replace hC : St w0 Z (xrow A75 c76 46 2 ((([] : List api_Ref) ++ ((t26.drop t56.toNat).take (t26.length - t56.toNat))).flatMap enc_api_Ref) :: xrow A27 c28 46 2 (t26.flatMap enc_api_Ref) :: fs) w := hC
           exact ⟨fun _ => does_run (x_cutSl_nsC (t := 34) (x := (.tmp 65)) (hi := (.tmp 66)) (e := 46) (sz := 2) (A := A27) (n := t26.length) (c := c28) (k := .i64) (by kernel_rfl) (by kernel_rfl) (by kernel_rfl) (by kernel_rfl) g88 cut0 (by kernel_rfl)) rfl hC, fun h => absurd h (by decide)⟩
          ·exact False.elim hC
          ·exact False.elim hC
          ·exact False.elim hC
          ·replace hC : St w0 Z (xrow (some ⟨b95, 0, none⟩) 1 46 2 (([(gt a0 t30).Ref] : List api_Ref).flatMap enc_api_Ref) :: xrow A75 c76 46 2 ((([] : List api_Ref) ++ ((t26.drop t56.toNat).take (t26.length - t56.toNat))).flatMap enc_api_Ref) :: xrow A27 c28 46 2 (t26.flatMap enc_api_Ref) :: fs) w := hC
           exact ⟨fun _ => does_run (x_cutSl_nsC (t := 34) (x := (.tmp 65)) (hi := (.tmp 66)) (e := 46) (sz := 2) (A := A27) (n := t26.length) (c := c28) (k := .i64) (by kernel_rfl) (by kernel_rfl) (by kernel_rfl) (by kernel_rfl) g88 cut0 (by kernel_rfl)) rfl hC, fun h => absurd h (by decide)⟩
          ·exact False.elim hC
          ·exact Bool.noConfusion (hu 1 (by decide))
          ·exact Bool.noConfusion (hu 1 (by decide))
         | 3, _, _ =>
          rcases st with ⟨_ | b95, _ | x100, _ | x106⟩
          ·replace hC : St w0 Z (xrow A75 c76 46 2 ((([] : List api_Ref) ++ ((t26.drop t56.toNat).take (t26.length - t56.toNat))).flatMap enc_api_Ref) :: xrow A27 c28 46 2 (t26.flatMap enc_api_Ref) :: fs) w := hC
           exact ⟨fun _ => does_pure (v := .slice Aa0 a0.length ca0) (by kernel_rfl) rfl hC, fun h => absurd h (by decide)⟩
          ·exact False.elim hC
          ·exact False.elim hC
          ·exact False.elim hC
          ·replace hC : St w0 Z (xrow (some ⟨b95, 0, none⟩) 1 46 2 (([(gt a0 t30).Ref] : List api_Ref).flatMap enc_api_Ref) :: xrow A75 c76 46 2 ((([] : List api_Ref) ++ ((t26.drop t56.toNat).take (t26.length - t56.toNat))).flatMap enc_api_Ref) :: xrow A27 c28 46 2 (t26.flatMap enc_api_Ref) :: fs) w := hC
           exact ⟨fun _ => does_pure (v := .slice Aa0 a0.length ca0) (by kernel_rfl) rfl hC, fun h => absurd h (by decide)⟩
          ·exact False.elim hC
          ·replace hC : St w0 Z (xrow x100.1 x100.2 46 2 (((t26.take t56.toNat) ++ ([(gt a0 t30).Ref] : List api_Ref)).flatMap enc_api_Ref) :: xrow (some ⟨b95, 0, none⟩) 1 46 2 (([(gt a0 t30).Ref] : List api_Ref).flatMap enc_api_Ref) :: xrow A75 c76 46 2 ((([] : List api_Ref) ++ ((t26.drop t56.toNat).take (t26.length - t56.toNat))).flatMap enc_api_Ref) :: fs) w := hC
           exact ⟨fun _ => does_pure (v := .slice Aa0 a0.length ca0) (by kernel_rfl) rfl hC, fun h => absurd h (by decide)⟩
          ·replace hC : St w0 Z (xrow x106.1 x106.2 46 2 ((((t26.take t56.toNat) ++ ([(gt a0 t30).Ref] : List api_Ref)) ++ (([] : List api_Ref) ++ ((t26.drop t56.toNat).take (t26.length - t56.toNat)))).flatMap enc_api_Ref) :: xrow (some ⟨b95, 0, none⟩) 1 46 2 (([(gt a0 t30).Ref] : List api_Ref).flatMap enc_api_Ref) :: xrow A75 c76 46 2 ((([] : List api_Ref) ++ ((t26.drop t56.toNat).take (t26.length - t56.toNat))).flatMap enc_api_Ref) :: fs) w := hC
           exact ⟨fun _ => does_pure (v := .slice Aa0 a0.length ca0) (by kernel_rfl) rfl hC, fun h => absurd h (by decide)⟩
         | 4, _, _ =>
          rcases st with ⟨_ | b95, _ | x100, _ | x106⟩
          ·replace hC : St w0 Z (xrow A75 c76 46 2 ((([] : List api_Ref) ++ ((t26.drop t56.toNat).take (t26.length - t56.toNat))).flatMap enc_api_Ref) :: xrow A27 c28 46 2 (t26.flatMap enc_api_Ref) :: fs) w := hC
           exact ⟨fun _ => does_pure (v := .int .i64 t30) (by kernel_rfl) rfl hC, fun h => absurd h (by decide)⟩
          ·exact False.elim hC
          ·exact False.elim hC
          ·exact False.elim hC
          ·replace hC : St w0 Z (xrow (some ⟨b95, 0, none⟩) 1 46 2 (([(gt a0 t30).Ref] : List api_Ref).flatMap enc_api_Ref) :: xrow A75 c76 46 2 ((([] : List api_Ref) ++ ((t26.drop t56.toNat).take (t26.length - t56.toNat))).flatMap enc_api_Ref) :: xrow A27 c28 46 2 (t26.flatMap enc_api_Ref) :: fs) w := hC
           exact ⟨fun _ => does_pure (v := .int .i64 t30) (by kernel_rfl) rfl hC, fun h => absurd h (by decide)⟩
          ·exact False.elim hC
          ·replace hC : St w0 Z (xrow x100.1 x100.2 46 2 (((t26.take t56.toNat) ++ ([(gt a0 t30).Ref] : List api_Ref)).flatMap enc_api_Ref) :: xrow (some ⟨b95, 0, none⟩) 1 46 2 (([(gt a0 t30).Ref] : List api_Ref).flatMap enc_api_Ref) :: xrow A75 c76 46 2 ((([] : List api_Ref) ++ ((t26.drop t56.toNat).take (t26.length - t56.toNat))).flatMap enc_api_Ref) :: fs) w := hC
           exact ⟨fun _ => does_pure (v := .int .i64 t30) (by kernel_rfl) rfl hC, fun h => absurd h (by decide)⟩
          ·replace hC : St w0 Z (xrow x106.1 x106.2 46 2 ((((t26.take t56.toNat) ++ ([(gt a0 t30).Ref] : List api_Ref)) ++ (([] : List api_Ref) ++ ((t26.drop t56.toNat).take (t26.length - t56.toNat)))).flatMap enc_api_Ref) :: xrow (some ⟨b95, 0, none⟩) 1 46 2 (([(gt a0 t30).Ref] : List api_Ref).flatMap enc_api_Ref) :: xrow A75 c76 46 2 ((([] : List api_Ref) ++ ((t26.drop t56.toNat).take (t26.length - t56.toNat))).flatMap enc_api_Ref) :: fs) w := hC
           exact ⟨fun _ => does_pure (v := .int .i64 t30) (by kernel_rfl) rfl hC, fun h => absurd h (by decide)⟩
         | 5, _, _ =>
          rcases st with ⟨_ | b95, _ | x100, _ | x106⟩
          ·replace hC : St w0 Z (xrow A75 c76 46 2 ((([] : List api_Ref) ++ ((t26.drop t56.toNat).take (t26.length - t56.toNat))).flatMap enc_api_Ref) :: xrow A27 c28 46 2 (t26.flatMap enc_api_Ref) :: fs) w := hC
           exact ⟨fun _ => does_run (x_indexAddr (t := 23) (e := 52) (x := (.tmp 68)) (y := (.tmp 69)) (b := b91) (o' := p92) (n := a0.length) (cp := ca0) (sz := 6) (kk := .i64) (j := t30) (slv (by kernel_rfl) hA93) (by kernel_rfl) (by kernel_rfl) (by kernel_rfl) g89.1 g89.2 (by kernel_rfl)) rfl hC, fun h => absurd h (by decide)⟩
          ·exact False.elim hC
          ·exact False.elim hC
          ·exact False.elim hC
          ·replace hC : St w0 Z (xrow (some ⟨b95, 0, none⟩) 1 46 2 (([(gt a0 t30).Ref] : List api_Ref).flatMap enc_api_Ref) :: xrow A75 c76 46 2 ((([] : List api_Ref) ++ ((t26.drop t56.toNat).take (t26.length - t56.toNat))).flatMap enc_api_Ref) :: xrow A27 c28 46 2 (t26.flatMap enc_api_Ref) :: fs) w := hC
           exact ⟨fun _ => does_run (x_indexAddr (t := 23) (e := 52) (x := (.tmp 68)) (y := (.tmp 69)) (b := b91) (o' := p92) (n := a0.length) (cp := ca0) (sz := 6) (kk := .i64) (j := t30) (slv (by kernel_rfl) hA93) (by kernel_rfl) (by kernel_rfl) (by kernel_rfl) g89.1 g89.2 (by kernel_rfl)) rfl hC, fun h => absurd h (by decide)⟩
          ·exact False.elim hC
          ·replace hC : St w0 Z (xrow x100.1 x100.2 46 2 (((t26.take t56.toNat) ++ ([(gt a0 t30).Ref] : List api_Ref)).flatMap enc_api_Ref) :: xrow (some ⟨b95, 0, none⟩) 1 46 2 (([(gt a0 t30).Ref] : List api_Ref).flatMap enc_api_Ref) :: xrow A75 c76 46 2 ((([] : List api_Ref) ++ ((t26.drop t56.toNat).take (t26.length - t56.toNat))).flatMap enc_api_Ref) :: fs) w := hC
           exact ⟨fun _ => does_run (x_indexAddr (t := 23) (e := 52) (x := (.tmp 68)) (y := (.tmp 69)) (b := b91) (o' := p92) (n := a0.length) (cp := ca0) (sz := 6) (kk := .i64) (j := t30) (slv (by kernel_rfl) hA93) (by kernel_rfl) (by kernel_rfl) (by kernel_rfl) g89.1 g89.2 (by kernel_rfl)) rfl hC, fun h => absurd h (by decide)⟩
          ·replace hC : St w0 Z (xrow x106.1 x106.2 46 2 ((((t26.take t56.toNat) ++ ([(gt a0 t30).Ref] : List api_Ref)) ++ (([] : List api_Ref) ++ ((t26.drop t56.toNat).take (t26.length - t56.toNat)))).flatMap enc_api_Ref) :: xrow (some ⟨b95, 0, none⟩) 1 46 2 (([(gt a0 t30).Ref] : List api_Ref).flatMap enc_api_Ref) :: xrow A75 c76 46 2 ((([] : List api_Ref) ++ ((t26.drop t56.toNat).take (t26.length - t56.toNat))).flatMap enc_api_Ref) :: fs) w := hC
           exact ⟨fun _ => does_run (x_indexAddr (t := 23) (e := 52) (x := (.tmp 68)) (y := (.tmp 69)) (b := b91) (o' := p92) (n := a0.length) (cp := ca0) (sz := 6) (kk := .i64) (j := t30) (slv (by kernel_rfl) hA93) (by kernel_rfl) (by kernel_rfl) (by kernel_rfl) g89.1 g89.2 (by kernel_rfl)) rfl hC, fun h => absurd h (by decide)⟩
         | 6, _, _ =>
          rcases st with ⟨_ | b95, _ | x100, _ | x106⟩
          ·replace hC : St w0 Z (xrow A75 c76 46 2 ((([] : List api_Ref) ++ ((t26.drop t56.toNat).take (t26.length - t56.toNat))).flatMap enc_api_Ref) :: xrow A27 c28 46 2 (t26.flatMap enc_api_Ref) :: fs) w := hC
           exact ⟨fun _ => does_pure (v := .pointer (some ⟨b91, p92 + t30.toNat * 6 + 3, none⟩)) (by kernel_rfl) rfl hC, fun h => absurd h (by decide)⟩
          ·exact False.elim hC
          ·exact False.elim hC
          ·exact False.elim hC
          ·replace hC : St w0 Z (xrow (some ⟨b95, 0, none⟩) 1 46 2 (([(gt a0 t30).Ref] : List api_Ref).flatMap enc_api_Ref) :: xrow A75 c76 46 2 ((([] : List api_Ref) ++ ((t26.drop t56.toNat).take (t26.length - t56.toNat))).flatMap enc_api_Ref) :: xrow A27 c28 46 2 (t26.flatMap enc_api_Ref) :: fs) w := hC
           exact ⟨fun _ => does_pure (v := .pointer (some ⟨b91, p92 + t30.toNat * 6 + 3, none⟩)) (by kernel_rfl) rfl hC, fun h => absurd h (by decide)⟩
          ·exact False.elim hC
          ·replace hC : St w0 Z (xrow x100.1 x100.2 46 2 (((t26.take t56.toNat) ++ ([(gt a0 t30).Ref] : List api_Ref)).flatMap enc_api_Ref) :: xrow (some ⟨b95, 0, none⟩) 1 46 2 (([(gt a0 t30).Ref] : List api_Ref).flatMap enc_api_Ref) :: xrow A75 c76 46 2 ((([] : List api_Ref) ++ ((t26.drop t56.toNat).take (t26.length - t56.toNat))).flatMap enc_api_Ref) :: fs) w := hC
           exact ⟨fun _ => does_pure (v := .pointer (some ⟨b91, p92 + t30.toNat * 6 + 3, none⟩)) (by kernel_rfl) rfl hC, fun h => absurd h (by decide)⟩
          ·replace hC : St w0 Z (xrow x106.1 x106.2 46 2 ((((t26.take t56.toNat) ++ ([(gt a0 t30).Ref] : List api_Ref)) ++ (([] : List api_Ref) ++ ((t26.drop t56.toNat).take (t26.length - t56.toNat)))).flatMap enc_api_Ref) :: xrow (some ⟨b95, 0, none⟩) 1 46 2 (([(gt a0 t30).Ref] : List api_Ref).flatMap enc_api_Ref) :: xrow A75 c76 46 2 ((([] : List api_Ref) ++ ((t26.drop t56.toNat).take (t26.length - t56.toNat))).flatMap enc_api_Ref) :: fs) w := hC
           exact ⟨fun _ => does_pure (v := .pointer (some ⟨b91, p92 + t30.toNat * 6 + 3, none⟩)) (by kernel_rfl) rfl hC, fun h => absurd h (by decide)⟩
         | 7, _, _ =>
          rcases st with ⟨_ | b95, _ | x100, _ | x106⟩
          ·replace hC : St w0 Z (xrow A75 c76 46 2 ((([] : List api_Ref) ++ ((t26.drop t56.toNat).take (t26.length - t56.toNat))).flatMap enc_api_Ref) :: xrow A27 c28 46 2 (t26.flatMap enc_api_Ref) :: fs) w := hC
           exact ⟨fun _ => does_run (x_load (t := 46) (x := (.tmp 71)) (p := ⟨b91, p92 + t30.toNat * 6 + 3, none⟩) (v := .agg (enc_api_Ref ((gt a0 t30).Ref)).toArray) (by kernel_rfl) (loads_agg (sub_api_Node_Ref (hc94.cells hC)) (by kernel_rfl) (by kernel_rfl)) (by kernel_rfl)) rfl hC, fun h => absurd h (by decide)⟩
          ·exact False.elim hC
          ·exact False.elim hC
          ·exact False.elim hC
          ·exact Bool.noConfusion (hu 0 (by decide))
          ·exact False.elim hC
          ·exact Bool.noConfusion (hu 0 (by decide))
          ·exact Bool.noConfusion (hu 0 (by decide))
         | 8, _, he => exact absurd he (by decide)
         | 9, _, he => exact absurd he (by decide)
         | 10, _, _ =>
          rcases st with ⟨_ | b95, _ | x100, _ | x106⟩
          ·replace hC : St w0 Z (xrow A75 c76 46 2 ((([] : List api_Ref) ++ ((t26.drop t56.toNat).take (t26.length - t56.toNat))).flatMap enc_api_Ref) :: xrow A27 c28 46 2 (t26.flatMap enc_api_Ref) :: fs) w := hC
           exact ⟨fun _ => does_pure (v := .slice A75 (([] : List api_Ref) ++ ((t26.drop t56.toNat).take (t26.length - t56.toNat))).length c76) (by kernel_rfl) rfl hC, fun h => absurd h (by decide)⟩
          ·exact False.elim hC
          ·exact False.elim hC
          ·exact False.elim hC
          ·replace hC : St w0 Z (xrow (some ⟨b95, 0, none⟩) 1 46 2 (([(gt a0 t30).Ref] : List api_Ref).flatMap enc_api_Ref) :: xrow A75 c76 46 2 ((([] : List api_Ref) ++ ((t26.drop t56.toNat).take (t26.length - t56.toNat))).flatMap enc_api_Ref) :: xrow A27 c28 46 2 (t26.flatMap enc_api_Ref) :: fs) w := hC
           exact ⟨fun _ => does_pure (v := .slice A75 (([] : List api_Ref) ++ ((t26.drop t56.toNat).take (t26.length - t56.toNat))).length c76) (by kernel_rfl) rfl hC, fun h => absurd h (by decide)⟩
          ·exact False.elim hC
          ·replace hC : St w0 Z (xrow x100.1 x100.2 46 2 (((t26.take t56.toNat) ++ ([(gt a0 t30).Ref] : List api_Ref)).flatMap enc_api_Ref) :: xrow (some ⟨b95, 0, none⟩) 1 46 2 (([(gt a0 t30).Ref] : List api_Ref).flatMap enc_api_Ref) :: xrow A75 c76 46 2 ((([] : List api_Ref) ++ ((t26.drop t56.toNat).take (t26.length - t56.toNat))).flatMap enc_api_Ref) :: fs) w := hC
           exact ⟨fun _ => does_pure (v := .slice A75 (([] : List api_Ref) ++ ((t26.drop t56.toNat).take (t26.length - t56.toNat))).length c76) (by kernel_rfl) rfl hC, fun h => absurd h (by decide)⟩
          ·exact Bool.noConfusion (hu 2 (by decide))
         | 11, _, he => exact absurd he (by decide)
         | 12, _, _ =>
          rcases st with ⟨_ | b95, _ | x100, _ | x106⟩
          ·exact Bool.noConfusion (hd 0 (by decide))
          ·exact False.elim hC
          ·exact False.elim hC
          ·exact False.elim hC
          ·exact Bool.noConfusion (hd 1 (by decide))
          ·exact False.elim hC
          ·exact Bool.noConfusion (hd 2 (by decide))
          ·replace hC : St w0 Z (xrow x106.1 x106.2 46 2 ((((t26.take t56.toNat) ++ ([(gt a0 t30).Ref] : List api_Ref)) ++ (([] : List api_Ref) ++ ((t26.drop t56.toNat).take (t26.length - t56.toNat)))).flatMap enc_api_Ref) :: xrow (some ⟨b95, 0, none⟩) 1 46 2 (([(gt a0 t30).Ref] : List api_Ref).flatMap enc_api_Ref) :: xrow A75 c76 46 2 ((([] : List api_Ref) ++ ((t26.drop t56.toNat).take (t26.length - t56.toNat))).flatMap enc_api_Ref) :: fs) w := hC
           exact ⟨fun _ => does_pure (v := .slice x106.1 (((t26.take t56.toNat) ++ ([(gt a0 t30).Ref] : List api_Ref)) ++ (([] : List api_Ref) ++ ((t26.drop t56.toNat).take (t26.length - t56.toNat)))).length x106.2) (by kernel_rfl) rfl hC, fun h => absurd h (by decide)⟩
         | i + 13, hi, _ => exact absurd hi (by omega)
        ·intro k hk st w hC hr hm
         match k, hk with
         | 0, _ =>
          rcases st with ⟨_ | b95, _ | x100, _ | x106⟩
          ·replace hC : St w0 Z (xrow A75 c76 46 2 ((([] : List api_Ref) ++ ((t26.drop t56.toNat).take (t26.length - t56.toNat))).flatMap enc_api_Ref) :: xrow A27 c28 46 2 (t26.flatMap enc_api_Ref) :: fs) w := hC
           refine does_lit (t := 34) (e := 46) (sz := 2) (n := 1) (parts := #[(0, (.tmp 72))]) (vs := [(0, .agg (enc_api_Ref ((gt a0 t30).Ref)).toArray)]) (z := zeroOf Try.prog 46) (cs' := ([(gt a0 t30).Ref] : List api_Ref).flatMap enc_api_Ref) hC (by kernel_rfl) (by kernel_rfl) (by kernel_rfl) (by kernel_rfl) (by decide) (by decide) (by kernel_rfl) rfl (Parts.cons (c := enc_api_Ref ((gt a0 t30).Ref)) (by kernel_rfl) (len_api_Ref _) Parts.nil) rfl ?_
           intro b95 w2 h2
           have h2 := h2.pick2
           have h2 := h2.pick2
           have h2 := h2.pick2
           refine ⟨(some b95, none, none), rfl, ?_, ?_, .inr rfl, h2⟩
           ·intro m hne; match m, hne with
            | 0, hne => exact absurd rfl hne
            | 1, hne => exact rfl
            | 2, hne => exact rfl
            | m + 3, _ => exact rfl
           ·intro j hj; match j, hj with
            | 0, hj => exact rfl
            | 1, hj => exact rfl
            | 2, hj => exact rfl
            | 3, hj => exact rfl
            | 4, hj => exact rfl
            | 5, hj => exact rfl
            | 6, hj => exact rfl
            | 7, hj => exact rfl
            | 8, hj => exact absurd (by decide) hj
            | 9, hj => exact absurd (by decide) hj
            | 10, hj => exact rfl
            | 11, hj => exact absurd (by decide) hj
            | 12, hj => exact absurd (by decide) hj
            | j + 13, _ => exact rfl
          ·exact False.elim hC
          ·exact False.elim hC
          ·exact False.elim hC
          ·exact Bool.noConfusion hr
          ·exact False.elim hC
          ·exact Bool.noConfusion hr
          ·exact Bool.noConfusion hr
         | 1, _ =>
          rcases st with ⟨_ | b95, _ | x100, _ | x106⟩
          ·exact Bool.noConfusion (hm 0 (by decide))
          ·exact False.elim hC
          ·exact False.elim hC
          ·exact False.elim hC
          ·replace hC : St w0 Z (xrow (some ⟨b95, 0, none⟩) 1 46 2 (([(gt a0 t30).Ref] : List api_Ref).flatMap enc_api_Ref) :: xrow A75 c76 46 2 ((([] : List api_Ref) ++ ((t26.drop t56.toNat).take (t26.length - t56.toNat))).flatMap enc_api_Ref) :: xrow A27 c28 46 2 (t26.flatMap enc_api_Ref) :: fs) w := hC
           have hC := hC.pick2
           refine does_appendV (enc := enc_api_Ref) (e := 46) (u := 46) (t := 34) (t2 := 34) (sz := 2) (cp := c28) (n := t56.toNat) (A := A27) (bytes := 24) (xs := t26) (ys := ([(gt a0 t30).Ref] : List api_Ref)) (s := (.tmp 67)) (x := (.tmp 73)) (xv := .slice (some ⟨b95, 0, none⟩) ([(gt a0 t30).Ref] : List api_Ref).length 1) (info := infoOf Try.prog 46) (z := zeroOf Try.prog 46) (ycs := ([(gt a0 t30).Ref] : List api_Ref).flatMap enc_api_Ref) hC g101.2 (by kernel_rfl) (by kernel_rfl) (by kernel_rfl) (by kernel_rfl) (.inl (by kernel_rfl)) (by kernel_rfl) (by kernel_rfl) (by kernel_rfl) (by kernel_rfl) (by kernel_rfl) (by omega) len_api_Ref one_api_Ref (src_row (hC.row 1 rfl) (by omega) len_api_Ref) rfl g101.1 (by omega) ?_
           intro A97 c98 w2 h2
           have h2 := h2.pick2
           have h2 := h2.pick2
           have h2 := h2.pick2
           refine ⟨(some b95, some (A97, c98), none), rfl, ?_, ?_, .inr rfl, h2⟩
           ·intro m hne; match m, hne with
            | 0, hne => exact rfl
            | 1, hne => exact absurd rfl hne
            | 2, hne => exact rfl
            | m + 3, _ => exact rfl
           ·intro j hj; match j, hj with
            | 0, hj => exact rfl
            | 1, hj => exact rfl
            | 2, hj => exact rfl
            | 3, hj => exact rfl
            | 4, hj => exact rfl
            | 5, hj => exact rfl
            | 6, hj => exact rfl
            | 7, hj => exact rfl
            | 8, hj => exact rfl
            | 9, hj => exact absurd (by decide) hj
            | 10, hj => exact rfl
            | 11, hj => exact absurd (by decide) hj
            | 12, hj => exact absurd (by decide) hj
            | j + 13, _ => exact rfl
          ·exact False.elim hC
          ·exact Bool.noConfusion hr
          ·exact Bool.noConfusion hr
         | 2, _ =>
          rcases st with ⟨_ | b95, _ | x100, _ | x106⟩
          ·exact Bool.noConfusion (hm 0 (by decide))
          ·exact False.elim hC
          ·exact False.elim hC
          ·exact False.elim hC
          ·exact Bool.noConfusion (hm 1 (by decide))
          ·exact False.elim hC
          ·replace hC : St w0 Z (xrow x100.1 x100.2 46 2 (((t26.take t56.toNat) ++ ([(gt a0 t30).Ref] : List api_Ref)).flatMap enc_api_Ref) :: xrow (some ⟨b95, 0, none⟩) 1 46 2 (([(gt a0 t30).Ref] : List api_Ref).flatMap enc_api_Ref) :: xrow A75 c76 46 2 ((([] : List api_Ref) ++ ((t26.drop t56.toNat).take (t26.length - t56.toNat))).flatMap enc_api_Ref) :: fs) w := hC
           refine does_append (enc := enc_api_Ref) (e := 46) (u := 46) (t := 34) (t2 := 34) (sz := 2) (cp := x100.2) (A := x100.1) (bytes := 24) (xs := ((t26.take t56.toNat) ++ ([(gt a0 t30).Ref] : List api_Ref))) (ys := (([] : List api_Ref) ++ ((t26.drop t56.toNat).take (t26.length - t56.toNat)))) (s := (.tmp 74)) (x := (.tmp 75)) (xv := .slice A75 (([] : List api_Ref) ++ ((t26.drop t56.toNat).take (t26.length - t56.toNat))).length c76) (info := infoOf Try.prog 46) (z := zeroOf Try.prog 46) (ycs := (([] : List api_Ref) ++ ((t26.drop t56.toNat).take (t26.length - t56.toNat))).flatMap enc_api_Ref) hC (by kernel_rfl) (by kernel_rfl) (by kernel_rfl) (by kernel_rfl) (.inl (by kernel_rfl)) (by kernel_rfl) (by kernel_rfl) (by kernel_rfl) (by kernel_rfl) (by kernel_rfl) (by omega) len_api_Ref one_api_Ref (src_row (hC.row 2 rfl) (by omega) len_api_Ref) rfl g107 (by omega) ?_
           intro A103 c104 w2 h2
           have h2 := h2.pick2
           have h2 := h2.pick2
           have h2 := h2.pick2
           refine ⟨(some b95, some x100, some (A103, c104)), rfl, ?_, ?_, .inr rfl, h2⟩
           ·intro m hne; match m, hne with
            | 0, hne => exact rfl
            | 1, hne => exact rfl
            | 2, hne => exact absurd rfl hne
            | m + 3, _ => exact rfl
           ·intro j hj; match j, hj with
            | 0, hj => exact rfl
            | 1, hj => exact rfl
            | 2, hj => exact rfl
            | 3, hj => exact rfl
            | 4, hj => exact rfl
            | 5, hj => exact rfl
            | 6, hj => exact rfl
            | 7, hj => exact rfl
            | 8, hj => exact rfl
            | 9, hj => exact rfl
            | 10, hj => exact rfl
            | 11, hj => exact absurd (by decide) hj
            | 12, hj => exact absurd (by decide) hj
            | j + 13, _ => exact rfl
          ·exact Bool.noConfusion hr
         | k + 3, hk => exact absurd hk (by simp)
        intro st112 w109 hS110 hr111
        rcases st112 with ⟨_ | b95, _ | x100, _ | x106⟩
        ·exact Bool.noConfusion (hr111 0 (Nat.lt_of_sub_eq_succ rfl))
        ·exact Bool.noConfusion (hr111 0 (Nat.lt_of_sub_eq_succ rfl))
        ·exact Bool.noConfusion (hr111 0 (Nat.lt_of_sub_eq_succ rfl))
        ·exact Bool.noConfusion (hr111 0 (Nat.lt_of_sub_eq_succ rfl))
        ·exact Bool.noConfusion (hr111 1 (Nat.lt_of_sub_eq_succ rfl))
        ·exact Bool.noConfusion (hr111 1 (Nat.lt_of_sub_eq_succ rfl))
        ·exact Bool.noConfusion (hr111 2 (Nat.lt_of_sub_eq_succ rfl))
        replace hS110 : St w0 Z (xrow x106.1 x106.2 46 2 ((((t26.take t56.toNat) ++ ([(gt a0 t30).Ref] : List api_Ref)) ++ (([] : List api_Ref) ++ ((t26.drop t56.toNat).take (t26.length - t56.toNat)))).flatMap enc_api_Ref) :: xrow (some ⟨b95, 0, none⟩) 1 46 2 (([(gt a0 t30).Ref] : List api_Ref).flatMap enc_api_Ref) :: xrow A75 c76 46 2 ((([] : List api_Ref) ++ ((t26.drop t56.toNat).take (t26.length - t56.toNat))).flatMap enc_api_Ref) :: fs) w109 := hS110
        refine sx_run 6 (todo' := [.inLoop (cd13 [1, 1, 1, 1, 0, 1, 0, 0]), .inBlock 0, .code (cd13 [1, 1, 1, 1, 1])]) (us := [(18, .int .i64 t30), (19, .int .i64 (IntKind.i64.wrap (t30 + 1))), (6, .int .i64 (IntKind.i64.wrap (t30 + 1)))]) (by kernel_rfl) ?_
        have hS113 := hS110.pick1
        have hS114 := hS113.drop
        have hS115 := hS114.pick1
        have hS116 := hS115.drop
        refine sx_run 1 (todo' := [.code (cd13 [1, 1, 1, 1, 0, 1, 0, 0]), .inLoop (cd13 [1, 1, 1, 1, 0, 1, 0, 0]), .inBlock 0, .code (cd13 [1, 1, 1, 1, 1])]) (us := []) (by kernel_rfl) ?_
        refine Runs.fill (m := [some (.slice Aa0 a0.length ca0), none, none, none, none, some (.slice x106.1 (((t26.take t56.toNat) ++ ([(gt a0 t30).Ref] : List api_Ref)) ++ (([] : List api_Ref) ++ ((t26.drop t56.toNat).take (t26.length - t56.toNat)))).length x106.2), some (.int .i64 (IntKind.i64.wrap (t30 + 1))), none, none, none, none, none, none, none, none, none, none, none, none, none, none, none, none, none, none, none, none, none, none, none, none, none, none, none, none, none, none, none, none, none, none, none, none, none, none, none, none, none, none, none, none, none, none, none, none, none, none, none, none, none, none, none, none, none, none, none, none, none, none, none, none, none, none, none, none, none, none, none]) (by kernel_rfl) ?_
        exact ih37 (((t26.take t56.toNat) ++ ([(gt a0 t30).Ref] : List api_Ref)) ++ (([] : List api_Ref) ++ ((t26.drop t56.toNat).take (t26.length - t56.toNat)))) (IntKind.i64.wrap (t30 + 1)) _ hp108 he35 _ x106.1 x106.2 _ hS116
       ·skip
        have hp117 := ite_f hp55 h63
        refine q_run 3 (is' := [7, 8, 9, 10, 11, 12, 13, 14, 15]) (us := [(48, .bool false), (49, .slice A27 t26.length c28), (50, .int .i64 t56)]) (by kernel_rfl) ?_
        obtain ⟨g118, hp119⟩ := ite_some hp117
        obtain ⟨b120, p121, hA122, -⟩ := (hS58.row 0 rfl).at_ len_api_Ref (by omega) g118.1 g118.2
        refine q_indexAddr (c := (cd13 [1, 1, 1, 1, 0, 1, 0, 0, 1, 0, 0, 1, 1, 1, 0])) (i := 7) (d := (some 51)) (ty := 0) (t := 34) (e := 46) (n := t26.length) (cp := c28) (sz := 2) (kk := .i64) (x := (.tmp 49)) (y := (.tmp 50)) (b := b120) (o' := p121) (j := t56) (by kernel_rfl) (by kernel_rfl) (slv (by kernel_rfl) hA122) (by kernel_rfl) (by kernel_rfl) (by kernel_rfl) g118.1 g118.2 ?_
        refine q_load (c := (cd13 [1, 1, 1, 1, 0, 1, 0, 0, 1, 0, 0, 1, 1, 1, 0])) (i := 8) (d := (some 52)) (ty := 46) (t := 46) (x := (.tmp 51)) (p := ⟨b120, p121 + t56.toNat * 2, none⟩) (v := .agg (enc_api_Ref (gt t26 t56)).toArray) (by kernel_rfl) (by kernel_rfl) (by kernel_rfl) (fun w hC => (loads_agg ((hC.row 0 rfl).at2 hA122 len_api_Ref (by omega) g118.1 g118.2) (by kernel_rfl) (by kernel_rfl))) ?_
        refine q_run 2 (is' := [11, 12, 13, 14, 15]) (us := [(53, .slice Aa0 a0.length ca0), (54, .int .i64 t30)]) (by kernel_rfl) ?_
        obtain ⟨g124, hp125⟩ := ite_some hp119
        obtain ⟨b126, p127, hA128, hc129⟩ := ha0.atF g124.1 g124.2
        refine q_indexAddr (c := (cd13 [1, 1, 1, 1, 0, 1, 0, 0, 1, 0, 0, 1, 1, 1, 0])) (i := 11) (d := (some 55)) (ty := 0) (t := 23) (e := 52) (n := a0.length) (cp := ca0) (sz := 6) (kk := .i64) (x := (.tmp 53)) (y := (.tmp 54)) (b := b126) (o' := p127) (j := t30) (by kernel_rfl) (by kernel_rfl) (slv (by kernel_rfl) hA128) (by kernel_rfl) (by kernel_rfl) (by kernel_rfl) g124.1 g124.2 ?_
        refine q_run 1 (is' := [13, 14, 15]) (us := [(56, .pointer (some ⟨b126, p127 + t30.toNat * 6 + 3, none⟩))]) (by kernel_rfl) ?_
        refine q_load (c := (cd13 [1, 1, 1, 1, 0, 1, 0, 0, 1, 0, 0, 1, 1, 1, 0])) (i := 13) (d := (some 57)) (ty := 46) (t := 46) (x := (.tmp 56)) (p := ⟨b126, p127 + t30.toNat * 6 + 3, none⟩) (v := .agg (enc_api_Ref ((gt a0 t30).Ref)).toArray) (by kernel_rfl) (by kernel_rfl) (by kernel_rfl) (fun w hC => (loads_agg (sub_api_Node_Ref (hc129.cells hC)) (by kernel_rfl) (by kernel_rfl))) ?_
        refine q_val (c := (cd13 [1, 1, 1, 1, 0, 1, 0, 0, 1, 0, 0, 1, 1, 1, 0])) (i := 14) (d := (some 58)) (ty := 4) (op := .binOp .neq 46 (.tmp 52) (.tmp 57) 46) (v := .bool (!(decide ((gt t26 t56) = (gt a0 t30).Ref)))) (by kernel_rfl) (by kernel_rfl) (fun w hC o ho _ => x_neq_api_Ref (by kernel_rfl) (by kernel_rfl) ho) ?_
        refine q_split (!(decide ((gt t26 t56) = (gt a0 t30).Ref))) (fun h130 => ?_) (fun h131 => ?_)
        ·skip
         have hp132 := ite_t hp125 h130
         refine q_run 1 (is' := []) (us := [(59, .bool true)]) (by kernel_rfl) ?_
         refine Qs.nil ?_
         intro w133 hS134
         refine sx_run 3 (todo' := [.inRegion (opsOf (cd13 [1, 1, 1, 1, 0, 1, 0, 0, 1, 0, 0, 1, 1, 1, 1, 0, 0])) [0, 1, 2, 3, 4, 5], .code (cd13 [1, 1, 1, 1, 0, 1, 0, 0, 1, 0, 0, 1, 1, 1, 1, 0, 1]), .inBlock 1, .code (cd13 [1, 1, 1, 1, 0, 1, 0, 0, 1, 1]), .inLoop (cd13 [1, 1, 1, 1, 0, 1, 0, 0]), .inBlock 0, .code (cd13 [1, 1, 1, 1, 1])]) (us := []) (by kernel_rfl) ?_
         refine r_lit0 (c := (cd13 [1, 1, 1, 1, 0, 1, 0, 0, 1, 0, 0, 1, 1, 1, 1, 0, 0])) (i := 0) (d := (some 60)) (ty := 34) (t := 34) (e := 46) (sz := 2) hS134 (by kernel_rfl) (by kernel_rfl) (by kernel_rfl) (by kernel_rfl) ?_
         intro b136 w137 hS138
         refine sx_run 2 (todo' := [.inRegion (opsOf (cd13 [1, 1, 1, 1, 0, 1, 0, 0, 1, 0, 0, 1, 1, 1, 1, 0, 0])) [3, 4, 5], .code (cd13 [1, 1, 1, 1, 0, 1, 0, 0, 1, 0, 0, 1, 1, 1, 1, 0, 1]), .inBlock 1, .code (cd13 [1, 1, 1, 1, 0, 1, 0, 0, 1, 1]), .inLoop (cd13 [1, 1, 1, 1, 0, 1, 0, 0]), .inBlock 0, .code (cd13 [1, 1, 1, 1, 1])]) (us := [(61, .slice A27 t26.length c28), (62, .int .i64 t56)]) (by kernel_rfl) ?_
         obtain ⟨g139, hp140⟩ := ite_some hp132
         refine r_val (c := (cd13 [1, 1, 1, 1, 0, 1, 0, 0, 1, 0, 0, 1, 1, 1, 1, 0, 0])) (i := 3) (d := (some 63)) (ty := 34) (op := .slice 34 (.tmp 61) (some (.tmp 62)) none none) (v := .slice (vA A27 c28 t56.toNat 2) (t26.length - t56.toNat) (c28 - t56.toNat)) (by kernel_rfl) (by kernel_rfl) (fun o ho _ => x_cutSl_sn (e := 46) (sz := 2) (A := A27) (n := t26.length) (c := c28) (k := .i64) (by kernel_rfl) (by kernel_rfl) (by kernel_rfl) (by kernel_rfl) g139 rfl ho) ?_
         obtain ⟨g141, hp142⟩ := ite_some hp140
         refine r_append (c := (cd13 [1, 1, 1, 1, 0, 1, 0, 0, 1, 0, 0, 1, 1, 1, 1, 0, 0])) (i := 4) (d := (some 64)) (ty := 34) (enc := enc_api_Ref) (e := 46) (u := 46) (t := 34) (t2 := 34) (sz := 2) (cp := 0) (A := (some ⟨b136, 0, none⟩)) (bytes := 24) (xs := ([] : List api_Ref)) (ys := ((t26.drop t56.toNat).take (t26.length - t56.toNat))) (s := (.tmp 60)) (x := (.tmp 63)) (xv := .slice (vA A27 c28 t56.toNat 2) (t26.length - t56.toNat) (c28 - t56.toNat)) (info := infoOf Try.prog 46) (z := zeroOf Try.prog 46) (ycs := ((t26.drop t56.toNat).take (t26.length - t56.toNat)).flatMap enc_api_Ref) hS138 (by kernel_rfl) (by kernel_rfl) (by kernel_rfl) (by kernel_rfl) (by kernel_rfl) (.inl (by kernel_rfl)) (by kernel_rfl) (by kernel_rfl) (by kernel_rfl) (by kernel_rfl) (by kernel_rfl) (by omega) len_api_Ref one_api_Ref (src_rowV' (L := t56.toNat) (n := (t26.length - t56.toNat)) (hS138.row 1 rfl) (by omega) len_api_Ref (by omega)) rfl g141 (by omega) ?_
         intro A143 c144 w145 hS146
         refine sx_run 2 (todo' := [.code (cd13 [1, 1, 1, 1, 0, 1, 0, 0, 1, 0, 0, 1, 1, 1, 1, 0, 1]), .inBlock 1, .code (cd13 [1, 1, 1, 1, 0, 1, 0, 0, 1, 1]), .inLoop (cd13 [1, 1, 1, 1, 0, 1, 0, 0]), .inBlock 0, .code (cd13 [1, 1, 1, 1, 1])]) (us := [(8, .slice A143 (([] : List api_Ref) ++ ((t26.drop t56.toNat).take (t26.length - t56.toNat))).length c144)]) (by kernel_rfl) ?_
         obtain ⟨g148, hp149⟩ := ite_some hp142
         have hc155 := (hS146.row 1 rfl).cap len_api_Ref (by omega)
         have g156 : 0 ≤ t56 ∧ t56 ≤ (c28 : Int) := by omega
         obtain ⟨g157, hp158⟩ := ite_some hp149
         obtain ⟨b159, p160, hA161, hc162⟩ := ha0.atF g157.1 g157.2
         obtain ⟨g169, hp170⟩ := ite_some hp158
         obtain ⟨g175, hp176⟩ := ite_some hp170
         refine r_drawnP (S := Option Nat × Option (Option Addr × Nat) × Option (Option Addr × Nat)) (dn := (fun (st : Option Nat × Option (Option Addr × Nat) × Option (Option Addr × Nat)) k => [st.1.isSome, st.2.1.isSome, st.2.2.isSome].getD k true)) (C := (fun st w' => match st with | (none, none, none) => St w0 Z (xrow A143 c144 46 2 ((([] : List api_Ref) ++ ((t26.drop t56.toNat).take (t26.length - t56.toNat))).flatMap enc_api_Ref) :: xrow A27 c28 46 2 (t26.flatMap enc_api_Ref) :: fs) w' | (none, none, some x174) => False | (none, some x168, none) => False | (none, some x168, some x174) => False | (some b163, none, none) => St w0 Z (xrow (some ⟨b163, 0, none⟩) 1 46 2 (([(gt a0 t30).Ref] : List api_Ref).flatMap enc_api_Ref) :: xrow A143 c144 46 2 ((([] : List api_Ref) ++ ((t26.drop t56.toNat).take (t26.length - t56.toNat))).flatMap enc_api_Ref) :: xrow A27 c28 46 2 (t26.flatMap enc_api_Ref) :: fs) w' | (some b163, none, some x174) => False | (some b163, some x168, none) => St w0 Z (xrow x168.1 x168.2 46 2 (((t26.take t56.toNat) ++ ([(gt a0 t30).Ref] : List api_Ref)).flatMap enc_api_Ref) :: xrow (some ⟨b163, 0, none⟩) 1 46 2 (([(gt a0 t30).Ref] : List api_Ref).flatMap enc_api_Ref) :: xrow A143 c144 46 2 ((([] : List api_Ref) ++ ((t26.drop t56.toNat).take (t26.length - t56.toNat))).flatMap enc_api_Ref) :: fs) w' | (some b163, some x168, some x174) => St w0 Z (xrow x174.1 x174.2 46 2 ((((t26.take t56.toNat) ++ ([(gt a0 t30).Ref] : List api_Ref)) ++ (([] : List api_Ref) ++ ((t26.drop t56.toNat).take (t26.length - t56.toNat)))).flatMap enc_api_Ref) :: xrow (some ⟨b163, 0, none⟩) 1 46 2 (([(gt a0 t30).Ref] : List api_Ref).flatMap enc_api_Ref) :: xrow A143 c144 46 2 ((([] : List api_Ref) ++ ((t26.drop t56.toNat).take (t26.length - t56.toNat))).flatMap enc_api_Ref) :: fs) w')) (v := (fun st => match st with | (none, none, none) => [.slice A27 t26.length c28, .int .i64 t56, .slice A27 t56.toNat c28, .slice Aa0 a0.length ca0, .int .i64 t30, .pointer (some ⟨b159, p160 + t30.toNat * 6, none⟩), .pointer (some ⟨b159, p160 + t30.toNat * 6 + 3, none⟩), .agg (enc_api_Ref ((gt a0 t30).Ref)).toArray, undef, undef, .slice A143 (([] : List api_Ref) ++ ((t26.drop t56.toNat).take (t26.length - t56.toNat))).length c144, undef, undef] | (none, none, some x174) => [.slice A27 t26.length c28, .int .i64 t56, .slice A27 t56.toNat c28, .slice Aa0 a0.length ca0, .int .i64 t30, .pointer (some ⟨b159, p160 + t30.toNat * 6, none⟩), .pointer (some ⟨b159, p160 + t30.toNat * 6 + 3, none⟩), .agg (enc_api_Ref ((gt a0 t30).Ref)).toArray, undef, undef, .slice A143 (([] : List api_Ref) ++ ((t26.drop t56.toNat).take (t26.length - t56.toNat))).length c144, undef, undef] | (none, some x168, none) => [.slice A27 t26.length c28, .int .i64 t56, .slice A27 t56.toNat c28, .slice Aa0 a0.length ca0, .int .i64 t30, .pointer (some ⟨b159, p160 + t30.toNat * 6, none⟩), .pointer (some ⟨b159, p160 + t30.toNat * 6 + 3, none⟩), .agg (enc_api_Ref ((gt a0 t30).Ref)).toArray, undef, undef, .slice A143 (([] : List api_Ref) ++ ((t26.drop t56.toNat).take (t26.length - t56.toNat))).length c144, undef, undef] | (none, some x168, some x174) => [.slice A27 t26.length c28, .int .i64 t56, .slice A27 t56.toNat c28, .slice Aa0 a0.length ca0, .int .i64 t30, .pointer (some ⟨b159, p160 + t30.toNat * 6, none⟩), .pointer (some ⟨b159, p160 + t30.toNat * 6 + 3, none⟩), .agg (enc_api_Ref ((gt a0 t30).Ref)).toArray, undef, undef, .slice A143 (([] : List api_Ref) ++ ((t26.drop t56.toNat).take (t26.length - t56.toNat))).length c144, undef, undef] | (some b163, none, none) => [.slice A27 t26.length c28, .int .i64 t56, .slice A27 t56.toNat c28, .slice Aa0 a0.length ca0, .int .i64 t30, .pointer (some ⟨b159, p160 + t30.toNat * 6, none⟩), .pointer (some ⟨b159, p160 + t30.toNat * 6 + 3, none⟩), .agg (enc_api_Ref ((gt a0 t30).Ref)).toArray, .slice (some ⟨b163, 0, none⟩) ([(gt a0 t30).Ref] : List api_Ref).length 1, undef, .slice A143 (([] : List api_Ref) ++ ((t26.drop t56.toNat).take (t26.length - t56.toNat))).length c144, undef, undef] | (some b163, none, some x174) => [.slice A27 t26.length c28, .int .i64 t56, .slice A27 t56.toNat c28, .slice Aa0 a0.length ca0, .int .i64 t30, .pointer (some ⟨b159, p160 + t30.toNat * 6, none⟩), .pointer (some ⟨b159, p160 + t30.toNat * 6 + 3, none⟩), .agg (enc_api_Ref ((gt a0 t30).Ref)).toArray, .slice (some ⟨b163, 0, none⟩) ([(gt a0 t30).Ref] : List api_Ref).length 1, undef, .slice A143 (([] : List api_Ref) ++ ((t26.drop t56.toNat).take (t26.length - t56.toNat))).length c144, undef, undef] | (some b163, some x168, none) => [.slice A27 t26.length c28, .int .i64 t56, .slice A27 t56.toNat c28, .slice Aa0 a0.length ca0, .int .i64 t30, .pointer (some ⟨b159, p160 + t30.toNat * 6, none⟩), .pointer (some ⟨b159, p160 + t30.toNat * 6 + 3, none⟩), .agg (enc_api_Ref ((gt a0 t30).Ref)).toArray, .slice (some ⟨b163, 0, none⟩) ([(gt a0 t30).Ref] : List api_Ref).length 1, .slice x168.1 ((t26.take t56.toNat) ++ ([(gt a0 t30).Ref] : List api_Ref)).length x168.2, .slice A143 (([] : List api_Ref) ++ ((t26.drop t56.toNat).take (t26.length - t56.toNat))).length c144, undef, undef] | (some b163, some x168, some x174) => [.slice A27 t26.length c28, .int .i64 t56, .slice A27 t56.toNat c28, .slice Aa0 a0.length ca0, .int .i64 t30, .pointer (some ⟨b159, p160 + t30.toNat * 6, none⟩), .pointer (some ⟨b159, p160 + t30.toNat * 6 + 3, none⟩), .agg (enc_api_Ref ((gt a0 t30).Ref)).toArray, .slice (some ⟨b163, 0, none⟩) ([(gt a0 t30).Ref] : List api_Ref).length 1, .slice x168.1 ((t26.take t56.toNat) ++ ([(gt a0 t30).Ref] : List api_Ref)).length x168.2, .slice A143 (([] : List api_Ref) ++ ((t26.drop t56.toNat).take (t26.length - t56.toNat))).length c144, .slice x174.1 (((t26.take t56.toNat) ++ ([(gt a0 t30).Ref] : List api_Ref)) ++ (([] : List api_Ref) ++ ((t26.drop t56.toNat).take (t26.length - t56.toNat)))).length x174.2, .slice x174.1 (((t26.take t56.toNat) ++ ([(gt a0 t30).Ref] : List api_Ref)) ++ (([] : List api_Ref) ++ ((t26.drop t56.toNat).take (t26.length - t56.toNat)))).length x174.2])) (c := (cd13 [1, 1, 1, 1, 0, 1, 0, 0, 1, 0, 0, 1, 1, 1, 1, 0, 1])) (id := 14) (none, none, none) 0 13 [8, 9, 11] [[], [], [], [], [], [], [], [], [], [0], [], [0, 1], [0, 1, 2]] [[], [], [1], [], [], [], [], [0], [1], [2], [2], [], []] [12] [true, true, true, true, true, true, true, true, true, true, true, true, true] (by kernel_rfl) (by kernel_rfl) (by kernel_rfl) (by kernel_rfl) (by kernel_rfl) (by kernel_rfl) (by kernel_rfl) (by kernel_rfl) (by kernel_rfl) (fun k hk => match k, hk with | 0, _ => rfl | 1, _ => rfl | 2, _ => rfl | k + 3, hk => absurd hk (by simp)) hS146.drew ?_ (fun k hk => match k, hk with | 0, _ => rfl | 1, _ => rfl | 2, _ => rfl | k + 3, hk => absurd hk (by simp)) ?_ ?_ ?_
         ·intro i hi st w hC hd
          match i, hi with
          | 0, _ => (show _ = _; kernel_rfl)
          | 1, _ => (show _ = _; kernel_rfl)
          | 2, _ => (show _ = _; kernel_rfl)
          | 3, _ => (show _ = _; kernel_rfl)
          | 4, _ => (show _ = _; kernel_rfl)
          | 5, _ => (show _ = _; kernel_rfl)
          | 6, _ => (show _ = _; kernel_rfl)
          | 7, _ => (show _ = _; kernel_rfl)
          | 8, _ => (show _ = _; kernel_rfl)
          | 9, _ => (show _ = _; kernel_rfl)
          | 10, _ => (show _ = _; kernel_rfl)
          | 11, _ => (show _ = _; kernel_rfl)
          | 12, _ => (show _ = _; kernel_rfl)
          | i + 13, hi => exact absurd hi (by omega)
         ·intro i hi he st w hC hd hu
          match i, hi, he with
          | 0, _, _ =>
           rcases st with ⟨_ | b163, _ | x168, _ | x174⟩
           ·replace hC : St w0 Z (xrow A143 c144 46 2 ((([] : List api_Ref) ++ ((t26.drop t56.toNat).take (t26.length - t56.toNat))).flatMap enc_api_Ref) :: xrow A27 c28 46 2 (t26.flatMap enc_api_Ref) :: fs) w := hC
            exact ⟨fun _ => does_pure (v := .slice A27 t26.length c28) (by kernel_rfl) rfl hC, fun h => absurd h (by decide)⟩
           ·exact False.elim hC
           ·exact False.elim hC
           ·exact False.elim hC
           ·replace hC : St w0 Z (xrow (some ⟨b163, 0, none⟩) 1 46 2 (([(gt a0 t30).Ref] : List api_Ref).flatMap enc_api_Ref) :: xrow A143 c144 46 2 ((([] : List api_Ref) ++ ((t26.drop t56.toNat).take (t26.length - t56.toNat))).flatMap enc_api_Ref) :: xrow A27 c28 46 2 (t26.flatMap enc_api_Ref) :: fs) w := hC
            exact ⟨fun _ => does_pure (v := .slice A27 t26.length c28) (by kernel_rfl) rfl hC, fun h => absurd h (by decide)⟩
           ·exact False.elim hC
           ·replace hC : St w0 Z (xrow x168.1 x168.2 46 2 (((t26.take t56.toNat) ++ ([(gt a0 t30).Ref] : List api_Ref)).flatMap enc_api_Ref) :: xrow (some ⟨b163, 0, none⟩) 1 46 2 (([(gt a0 t30).Ref] : List api_Ref).flatMap enc_api_Ref) :: xrow A143 c144 46 2 ((([] : List api_Ref) ++ ((t26.drop t56.toNat).take (t26.length - t56.toNat))).flatMap enc_api_Ref) :: fs) w := hC
            exact ⟨fun _ => does_pure (v := .slice A27 t26.length c28) (by kernel_rfl) rfl hC, fun h => absurd h (by decide)⟩
           ·replace hC : St w0 Z (xrow x174.1 x174.2 46 2 ((((t26.take t56.toNat) ++ ([(gt a0 t30).Ref] : List api_Ref)) ++ (([] : List api_Ref) ++ ((t26.drop t56.toNat).take (t26.length - t56.toNat)))).flatMap enc_api_Ref) :: xrow (some ⟨b163, 0, none⟩) 1 46 2 (([(gt a0 t30).Ref] : List api_Ref).flatMap enc_api_Ref) :: xrow A143 c144 46 2 ((([] : List api_Ref) ++ ((t26.drop t56.toNat).take (t26.length - t56.toNat))).flatMap enc_api_Ref) :: fs) w := hC
            exact ⟨fun _ => does_pure (v := .slice A27 t26.length c28) (by kernel_rfl) rfl hC, fun h => absurd h (by decide)⟩
          | 1, _, _ =>
           rcases st with ⟨_ | b163, _ | x168, _ | x174⟩
           ·replace hC : St w0 Z (xrow A143 c144 46 2 ((([] : List api_Ref) ++ ((t26.drop t56.toNat).take (t26.length - t56.toNat))).flatMap enc_api_Ref) :: xrow A27 c28 46 2 (t26.flatMap enc_api_Ref) :: fs) w := hC
            exact ⟨fun _ => does_pure (v := .int .i64 t56) (by kernel_rfl) rfl hC, fun h => absurd h (by decide)⟩
           ·exact False.elim hC
           ·exact False.elim hC
           ·exact False.elim hC
           ·replace hC : St w0 Z (xrow (some ⟨b163, 0, none⟩) 1 46 2 (([(gt a0 t30).Ref] : List api_Ref).flatMap enc_api_Ref) :: xrow A143 c144 46 2 ((([] : List api_Ref) ++ ((t26.drop t56.toNat).take (t26.length - t56.toNat))).flatMap enc_api_Ref) :: xrow A27 c28 46 2 (t26.flatMap enc_api_Ref) :: fs) w := hC
            exact ⟨fun _ => does_pure (v := .int .i64 t56) (by kernel_rfl) rfl hC, fun h => absurd h (by decide)⟩
           ·exact False.elim hC
           ·replace hC : St w0 Z (xrow x168.1 x168.2 46 2 (((t26.take t56.toNat) ++ ([(gt a0 t30).Ref] : List api_Ref)).flatMap enc_api_Ref) :: xrow (some ⟨b163, 0, none⟩) 1 46 2 (([(gt a0 t30).Ref] : List api_Ref).flatMap enc_api_Ref) :: xrow A143 c144 46 2 ((([] : List api_Ref) ++ ((t26.drop t56.toNat).take (t26.length - t56.toNat))).flatMap enc_api_Ref) :: fs) w := hC
            exact ⟨fun _ => does_pure (v := .int .i64 t56) (by kernel_rfl) rfl hC, fun h => absurd h (by decide)⟩
           ·replace hC : St w0 Z (xrow x174.1 x174.2 46 2 ((((t26.take t56.toNat) ++ ([(gt a0 t30).Ref] : List api_Ref)) ++ (([] : List api_Ref) ++ ((t26.drop t56.toNat).take (t26.length - t56.toNat)))).flatMap enc_api_Ref) :: xrow (some ⟨b163, 0, none⟩) 1 46 2 (([(gt a0 t30).Ref] : List api_Ref).flatMap enc_api_Ref) :: xrow A143 c144 46 2 ((([] : List api_Ref) ++ ((t26.drop t56.toNat).take (t26.length - t56.toNat))).flatMap enc_api_Ref) :: fs) w := hC
            exact ⟨fun _ => does_pure (v := .int .i64 t56) (by kernel_rfl) rfl hC, fun h => absurd h (by decide)⟩
          | 2, _, _ =>
           rcases st with ⟨_ | b163, _ | x168, _ | x174⟩
           ·replace hC : St w0 Z (xrow A143 c144 46 2 ((([] : List api_Ref) ++ ((t26.drop t56.toNat).take (t26.length - t56.toNat))).flatMap enc_api_Ref) :: xrow A27 c28 46 2 (t26.flatMap enc_api_Ref) :: fs) w := hC
            exact ⟨fun _ => does_run (x_cutSl_nsC (t := 34) (x := (.tmp 65)) (hi := (.tmp 66)) (e := 46) (sz := 2) (A := A27) (n := t26.length) (c := c28) (k := .i64) (by kernel_rfl) (by kernel_rfl) (by kernel_rfl) (by kernel_rfl) g156 cut0 (by kernel_rfl)) rfl hC, fun h => absurd h (by decide)⟩
           ·exact False.elim hC
           ·exact False.elim hC
           ·exact False.elim hC
           ·replace hC : St w0 Z (xrow (some ⟨b163, 0, none⟩) 1 46 2 (([(gt a0 t30).Ref] : List api_Ref).flatMap enc_api_Ref) :: xrow A143 c144 46 2 ((([] : List api_Ref) ++ ((t26.drop t56.toNat).take (t26.length - t56.toNat))).flatMap enc_api_Ref) :: xrow A27 c28 46 2 (t26.flatMap enc_api_Ref) :: fs) w := hC
            exact ⟨fun _ => does_run (x_cutSl_nsC (t := 34) (x := (.tmp 65)) (hi := (.tmp 66)) (e := 46) (sz := 2) (A := A27) (n := t26.length) (c := c28) (k := .i64) (by kernel_rfl) (by kernel_rfl) (by kernel_rfl) (by kernel_rfl) g156 cut0 (by kernel_rfl)) rfl hC, fun h => absurd h (by decide)⟩
           ·exact False.elim hC
           ·exact Bool.noConfusion (hu 1 (by decide))
           ·exact Bool.noConfusion (hu 1 (by decide))
          | 3, _, _ =>
           rcases st with ⟨_ | b163, _ | x168, _ | x174⟩
           ·replace hC : St w0 Z (xrow A143 c144 46 2 ((([] : List api_Ref) ++ ((t26.drop t56.toNat).take (t26.length - t56.toNat))).flatMap enc_api_Ref) :: xrow A27 c28 46 2 (t26.flatMap enc_api_Ref) :: fs) w := hC
            exact ⟨fun _ => does_pure (v := .slice Aa0 a0.length ca0) (by kernel_rfl) rfl hC, fun h => absurd h (by decide)⟩
           ·exact False.elim hC
           ·exact False.elim hC
           ·exact False.elim hC
           ·replace hC : St w0 Z (xrow (some ⟨b163, 0, none⟩) 1 46 2 (([(gt a0 t30).Ref] : List api_Ref).flatMap enc_api_Ref) :: xrow A143 c144 46 2 ((([] : List api_Ref) ++ ((t26.drop t56.toNat).take (t26.length - t56.toNat))).flatMap enc_api_Ref) :: xrow A27 c28 46 2 (t26.flatMap enc_api_Ref) :: fs) w := hC
            exact ⟨fun _ => does_pure (v := .slice Aa0 a0.length ca0) (by kernel_rfl) rfl hC, fun h => absurd h (by decide)⟩
           ·exact False.elim hC
           ·replace hC : St w0 Z (xrow x168.1 x168.2 46 2 (((t26.take t56.toNat) ++ ([(gt a0 t30).Ref] : List api_Ref)).flatMap enc_api_Ref) :: xrow (some ⟨b163, 0, none⟩) 1 46 2 (([(gt a0 t30).Ref] : List api_Ref).flatMap enc_api_Ref) :: xrow A143 c144 46 2 ((([] : List api_Ref) ++ ((t26.drop t56.toNat).take (t26.length - t56.toNat))).flatMap enc_api_Ref) :: fs) w := hC
            exact ⟨fun _ => does_pure (v := .slice Aa0 a0.length ca0) (by kernel_rfl) rfl hC, fun h => absurd h (by decide)⟩
           ·replace hC : St w0 Z (xrow x174.1 x174.2 46 2 ((((t26.take t56.toNat) ++ ([(gt a0 t30).Ref] : List api_Ref)) ++ (([] : List api_Ref) ++ ((t26.drop t56.toNat).take (t26.length - t56.toNat)))).flatMap enc_api_Ref) :: xrow (some ⟨b163, 0, none⟩) 1 46 2 (([(gt a0 t30).Ref] : List api_Ref).flatMap enc_api_Ref) :: xrow A143 c144 46 2 ((([] : List api_Ref) ++ ((t26.drop t56.toNat).take (t26.length - t56.toNat))).flatMap enc_api_Ref) :: fs) w := hC
            exact ⟨fun _ => does_pure (v := .slice Aa0 a0.length ca0) (by kernel_rfl) rfl hC, fun h => absurd h (by decide)⟩
          | 4, _, _ =>
           rcases st with ⟨_ | b163, _ | x168, _ | x174⟩
           ·replace hC : St w0 Z (xrow A143 c144 46 2 ((([] : List api_Ref) ++ ((t26.drop t56.toNat).take (t26.length - t56.toNat))).flatMap enc_api_Ref) :: xrow A27 c28 46 2 (t26.flatMap enc_api_Ref) :: fs) w := hC
            exact ⟨fun _ => does_pure (v := .int .i64 t30) (by kernel_rfl) rfl hC, fun h => absurd h (by decide)⟩
           ·exact False.elim hC
           ·exact False.elim hC
           ·exact False.elim hC
           ·replace hC : St w0 Z (xrow (some ⟨b163, 0, none⟩) 1 46 2 (([(gt a0 t30).Ref] : List api_Ref).flatMap enc_api_Ref) :: xrow A143 c144 46 2 ((([] : List api_Ref) ++ ((t26.drop t56.toNat).take (t26.length - t56.toNat))).flatMap enc_api_Ref) :: xrow A27 c28 46 2 (t26.flatMap enc_api_Ref) :: fs) w := hC
            exact ⟨fun _ => does_pure (v := .int .i64 t30) (by kernel_rfl) rfl hC, fun h => absurd h (by decide)⟩
           ·exact False.elim hC
           ·replace hC : St w0 Z (xrow x168.1 x168.2 46 2 (((t26.take t56.toNat) ++ ([(gt a0 t30).Ref] : List api_Ref)).flatMap enc_api_Ref) :: xrow (some ⟨b163, 0, none⟩) 1 46 2 (([(gt a0 t30).Ref] : List api_Ref).flatMap enc_api_Ref) :: xrow A143 c144 46 2 ((([] : List api_Ref) ++ ((t26.drop t56.toNat).take (t26.length - t56.toNat))).flatMap enc_api_Ref) :: fs) w := hC
            exact ⟨fun _ => does_pure (v := .int .i64 t30) (by kernel_rfl) rfl hC, fun h => absurd h (by decide)⟩
           ·replace hC : St w0 Z (xrow x174.1 x174.2 46 2 ((((t26.take t56.toNat) ++ ([(gt a0 t30).Ref] : List api_Ref)) ++ (([] : List api_Ref) ++ ((t26.drop t56.toNat).take (t26.length - t56.toNat)))).flatMap enc_api_Ref) :: xrow (some ⟨b163, 0, none⟩) 1 46 2 (([(gt a0 t30).Ref] : List api_Ref).flatMap enc_api_Ref) :: xrow A143 c144 46 2 ((([] : List api_Ref) ++ ((t26.drop t56.toNat).take (t26.length - t56.toNat))).flatMap enc_api_Ref) :: fs) w := hC
            exact ⟨fun _ => does_pure (v := .int .i64 t30) (by kernel_rfl) rfl hC, fun h => absurd h (by decide)⟩
          | 5, _, _ =>
           rcases st with ⟨_ | b163, _ | x168, _ | x174⟩
           ·replace hC : St w0 Z (xrow A143 c144 46 2 ((([] : List api_Ref) ++ ((t26.drop t56.toNat).take (t26.length - t56.toNat))).flatMap enc_api_Ref) :: xrow A27 c28 46 2 (t26.flatMap enc_api_Ref) :: fs) w := hC
            exact ⟨fun _ => does_run (x_indexAddr (t := 23) (e := 52) (x := (.tmp 68)) (y := (.tmp 69)) (b := b159) (o' := p160) (n := a0.length) (cp := ca0) (sz := 6) (kk := .i64) (j := t30) (slv (by kernel_rfl) hA161) (by kernel_rfl) (by kernel_rfl) (by kernel_rfl) g157.1 g157.2 (by kernel_rfl)) rfl hC, fun h => absurd h (by decide)⟩
           ·exact False.elim hC
           ·exact False.elim hC
           ·exact False.elim hC
           ·replace hC : St w0 Z (xrow (some ⟨b163, 0, none⟩) 1 46 2 (([(gt a0 t30).Ref] : List api_Ref).flatMap enc_api_Ref) :: xrow A143 c144 46 2 ((([] : List api_Ref) ++ ((t26.drop t56.toNat).take (t26.length - t56.toNat))).flatMap enc_api_Ref) :: xrow A27 c28 46 2 (t26.flatMap enc_api_Ref) :: fs) w := hC
            exact ⟨fun _ => does_run (x_indexAddr (t := 23) (e := 52) (x := (.tmp 68)) (y := (.tmp 69)) (b := b159) (o' := p160) (n := a0.length) (cp := ca0) (sz := 6) (kk := .i64) (j := t30) (slv (by kernel_rfl) hA161) (by kernel_rfl) (by kernel_rfl) (by kernel_rfl) g157.1 g157.2 (by kernel_rfl)) rfl hC, fun h => absurd h (by decide)⟩
           ·exact False.elim hC
           ·replace hC : St w0 Z (xrow x168.1 x168.2 46 2 (((t26.take t56.toNat) ++ ([(gt a0 t30).Ref] : List api_Ref)).flatMap enc_api_Ref) :: xrow (some ⟨b163, 0, none⟩) 1 46 2 (([(gt a0 t30).Ref] : List api_Ref).flatMap enc_api_Ref) :: xrow A143 c144 46 2 ((([] : List api_Ref) ++ ((t26.drop t56.toNat).take (t26.length - t56.toNat))).flatMap enc_api_Ref) :: fs) w := hC
            exact ⟨fun _ => does_run (x_indexAddr (t := 23) (e := 52) (x := (.tmp 68)) (y := (.tmp 69)) (b := b159) (o' := p160) (n := a0.length) (cp := ca0) (sz := 6) (kk := .i64) (j := t30) (slv (by kernel_rfl) hA161) (by kernel_rfl) (by kernel_rfl) (by kernel_rfl) g157.1 g157.2 (by kernel_rfl)) rfl hC, fun h => absurd h (by decide)⟩
           ·replace hC : St w0 Z (xrow x174.1 x174.2 46 2 ((((t26.take t56.toNat) ++ ([(gt a0 t30).Ref] : List api_Ref)) ++ (([] : List api_Ref) ++ ((t26.drop t56.toNat).take (t26.length - t56.toNat)))).flatMap enc_api_Ref) :: xrow (some ⟨b163, 0, none⟩) 1 46 2 (([(gt a0 t30).Ref] : List api_Ref).flatMap enc_api_Ref) :: xrow A143 c144 46 2 ((([] : List api_Ref) ++ ((t26.drop t56.toNat).take (t26.length - t56.toNat))).flatMap enc_api_Ref) :: fs) w := hC
            exact ⟨fun _ => does_run (x_indexAddr (t := 23) (e := 52) (x := (.tmp 68)) (y := (.tmp 69)) (b := b159) (o' := p160) (n := a0.length) (cp := ca0) (sz := 6) (kk := .i64) (j := t30) (slv (by kernel_rfl) hA161) (by kernel_rfl) (by kernel_rfl) (by kernel_rfl) g157.1 g157.2 (by kernel_rfl)) rfl hC, fun h => absurd h (by decide)⟩
          | 6, _, _ =>
           rcases st with ⟨_ | b163, _ | x168, _ | x174⟩
           ·replace hC : St w0 Z (xrow A143 c144 46 2 ((([] : List api_Ref) ++ ((t26.drop t56.toNat).take (t26.length - t56.toNat))).flatMap enc_api_Ref) :: xrow A27 c28 46 2 (t26.flatMap enc_api_Ref) :: fs) w := hC
            exact ⟨fun _ => does_pure (v := .pointer (some ⟨b159, p160 + t30.toNat * 6 + 3, none⟩)) (by kernel_rfl) rfl hC, fun h => absurd h (by decide)⟩
           ·exact False.elim hC
           ·exact False.elim hC
           ·exact False.elim hC
           ·replace hC : St w0 Z (xrow (some ⟨b163, 0, none⟩) 1 46 2 (([(gt a0 t30).Ref] : List api_Ref).flatMap enc_api_Ref) :: xrow A143 c144 46 2 ((([] : List api_Ref) ++ ((t26.drop t56.toNat).take (t26.length - t56.toNat))).flatMap enc_api_Ref) :: xrow A27 c28 46 2 (t26.flatMap enc_api_Ref) :: fs) w := hC
            exact ⟨fun _ => does_pure (v := .pointer (some ⟨b159, p160 + t30.toNat * 6 + 3, none⟩)) (by kernel_rfl) rfl hC, fun h => absurd h (by decide)⟩
           ·exact False.elim hC
           ·replace hC : St w0 Z (xrow x168.1 x168.2 46 2 (((t26.take t56.toNat) ++ ([(gt a0 t30).Ref] : List api_Ref)).flatMap enc_api_Ref) :: xrow (some ⟨b163, 0, none⟩) 1 46 2 (([(gt a0 t30).Ref] : List api_Ref).flatMap enc_api_Ref) :: xrow A143 c144 46 2 ((([] : List api_Ref) ++ ((t26.drop t56.toNat).take (t26.length - t56.toNat))).flatMap enc_api_Ref) :: fs) w := hC
            exact ⟨fun _ => does_pure (v := .pointer (some ⟨b159, p160 + t30.toNat * 6 + 3, none⟩)) (by kernel_rfl) rfl hC, fun h => absurd h (by decide)⟩
           ·replace hC : St w0 Z (xrow x174.1 x174.2 46 2 ((((t26.take t56.toNat) ++ ([(gt a0 t30).Ref] : List api_Ref)) ++ (([] : List api_Ref) ++ ((t26.drop t56.toNat).take (t26.length - t56.toNat)))).flatMap enc_api_Ref) :: xrow (some ⟨b163, 0, none⟩) 1 46 2 (([(gt a0 t30).Ref] : List api_Ref).flatMap enc_api_Ref) :: xrow A143 c144 46 2 ((([] : List api_Ref) ++ ((t26.drop t56.toNat).take (t26.length - t56.toNat))).flatMap enc_api_Ref) :: fs) w := hC
            exact ⟨fun _ => does_pure (v := .pointer (some ⟨b159, p160 + t30.toNat * 6 + 3, none⟩)) (by kernel_rfl) rfl hC, fun h => absurd h (by decide)⟩
          | 7, _, _ =>
           rcases st with ⟨_ | b163, _ | x168, _ | x174⟩
           ·replace hC : St w0 Z (xrow A143 c144 46 2 ((([] : List api_Ref) ++ ((t26.drop t56.toNat).take (t26.length - t56.toNat))).flatMap enc_api_Ref) :: xrow A27 c28 46 2 (t26.flatMap enc_api_Ref) :: fs) w := hC
            exact ⟨fun _ => does_run (x_load (t := 46) (x := (.tmp 71)) (p := ⟨b159, p160 + t30.toNat * 6 + 3, none⟩) (v := .agg (enc_api_Ref ((gt a0 t30).Ref)).toArray) (by kernel_rfl) (loads_agg (sub_api_Node_Ref (hc162.cells hC)) (by kernel_rfl) (by kernel_rfl)) (by kernel_rfl)) rfl hC, fun h => absurd h (by decide)⟩
           ·exact False.elim hC
           ·exact False.elim hC
           ·exact False.elim hC
           ·exact Bool.noConfusion (hu 0 (by decide))
           ·exact False.elim hC
           ·exact Bool.noConfusion (hu 0 (by decide))
           ·exact Bool.noConfusion (hu 0 (by decide))
          | 8, _, he => exact absurd he (by decide)
          | 9, _, he => exact absurd he (by decide)
          | 10, _, _ =>
           rcases st with ⟨_ | b163, _ | x168, _ | x174⟩
           ·replace hC : St w0 Z (xrow A143 c144 46 2 ((([] : List api_Ref) ++ ((t26.drop t56.toNat).take (t26.length - t56.toNat))).flatMap enc_api_Ref) :: xrow A27 c28 46 2 (t26.flatMap enc_api_Ref) :: fs) w := hC
            exact ⟨fun _ => does_pure (v := .slice A143 (([] : List api_Ref) ++ ((t26.drop t56.toNat).take (t26.length - t56.toNat))).length c144) (by kernel_rfl) rfl hC, fun h => absurd h (by decide)⟩
           ·exact False.elim hC
           ·exact False.elim hC
           ·exact False.elim hC
           ·replace hC : St w0 Z (xrow (some ⟨b163, 0, none⟩) 1 46 2 (([(gt a0 t30).Ref] : List api_Ref).flatMap enc_api_Ref) :: xrow A143 c144 46 2 ((([] : List api_Ref) ++ ((t26.drop t56.toNat).take (t26.length - t56.toNat))).flatMap enc_api_Ref) :: xrow A27 c28 46 2 (t26.flatMap enc_api_Ref) :: fs) w := hC
            exact ⟨fun _ => does_pure (v := .slice A143 (([] : List api_Ref) ++ ((t26.drop t56.toNat).take (t26.length - t56.toNat))).length c144) (by kernel_rfl) rfl hC, fun h => absurd h (by decide)⟩
           ·exact False.elim hC
           ·replace hC : St w0 Z (xrow x168.1 x168.2 46 2 (((t26.take t56.toNat) ++ ([(gt a0 t30).Ref] : List api_Ref)).flatMap enc_api_Ref) :: xrow (some ⟨b163, 0, none⟩) 1 46 2 (([(gt a0 t30).Ref] : List api_Ref).flatMap enc_api_Ref) :: xrow A143 c144 46 2 ((([] : List api_Ref) ++ ((t26.drop t56.toNat).take (t26.length - t56.toNat))).flatMap enc_api_Ref) :: fs) w := hC
            exact ⟨fun _ => does_pure (v := .slice A143 (([] : List api_Ref) ++ ((t26.drop t56.toNat).take (t26.length - t56.toNat))).length c144) (by kernel_rfl) rfl hC, fun h => absurd h (by decide)⟩
           ·exact Bool.noConfusion (hu 2 (by decide))
          | 11, _, he => exact absurd he (by decide)
          | 12, _, _ =>
           rcases st with ⟨_ | b163, _ | x168, _ | x174⟩
           ·exact Bool.noConfusion (hd 0 (by decide))
           ·exact False.elim hC
           ·exact False.elim hC
           ·exact False.elim hC
           ·exact Bool.noConfusion (hd 1 (by decide))
           ·exact False.elim hC
           ·exact Bool.noConfusion (hd 2 (by decide))
           ·replace hC : St w0 Z (xrow x174.1 x174.2 46 2 ((((t26.take t56.toNat) ++ ([(gt a0 t30).Ref] : List api_Ref)) ++ (([] : List api_Ref) ++ ((t26.drop t56.toNat).take (t26.length - t56.toNat)))).flatMap enc_api_Ref) :: xrow (some ⟨b163, 0, none⟩) 1 46 2 (([(gt a0 t30).Ref] : List api_Ref).flatMap enc_api_Ref) :: xrow A143 c144 46 2 ((([] : List api_Ref) ++ ((t26.drop t56.toNat).take (t26.length - t56.toNat))).flatMap enc_api_Ref) :: fs) w := hC
            exact ⟨fun _ => does_pure (v := .slice x174.1 (((t26.take t56.toNat) ++ ([(gt a0 t30).Ref] : List api_Ref)) ++ (([] : List api_Ref) ++ ((t26.drop t56.toNat).take (t26.length - t56.toNat)))).length x174.2) (by kernel_rfl) rfl hC, fun h => absurd h (by decide)⟩
          | i + 13, hi, _ => exact absurd hi (by omega)
         ·intro k hk st w hC hr hm
          match k, hk with
          | 0, _ =>
           rcases st with ⟨_ | b163, _ | x168, _ | x174⟩
           ·replace hC : St w0 Z (xrow A143 c144 46 2 ((([] : List api_Ref) ++ ((t26.drop t56.toNat).take (t26.length - t56.toNat))).flatMap enc_api_Ref) :: xrow A27 c28 46 2 (t26.flatMap enc_api_Ref) :: fs) w := hC
            refine does_lit (t := 34) (e := 46) (sz := 2) (n := 1) (parts := #[(0, (.tmp 72))]) (vs := [(0, .agg (enc_api_Ref ((gt a0 t30).Ref)).toArray)]) (z := zeroOf Try.prog 46) (cs' := ([(gt a0 t30).Ref] : List api_Ref).flatMap enc_api_Ref) hC (by kernel_rfl) (by kernel_rfl) (by kernel_rfl) (by kernel_rfl) (by decide) (by decide) (by kernel_rfl) rfl (Parts.cons (c := enc_api_Ref ((gt a0 t30).Ref)) (by kernel_rfl) (len_api_Ref _) Parts.nil) rfl ?_
            intro b163 w2 h2
            have h2 := h2.pick2
            have h2 := h2.pick2
            have h2 := h2.pick2
            refine ⟨(some b163, none, none), rfl, ?_, ?_, .inr rfl, h2⟩
            ·intro m hne; match m, hne with
             | 0, hne => exact absurd rfl hne
             | 1, hne => exact rfl
             | 2, hne => exact rfl
             | m + 3, _ => exact rfl
            ·intro j hj; match j, hj with
             | 0, hj => exact rfl
             | 1, hj => exact rfl
             | 2, hj => exact rfl
             | 3, hj => exact rfl
             | 4, hj => exact rfl
             | 5, hj => exact rfl
             | 6, hj => exact rfl
             | 7, hj => exact rfl
             | 8, hj => exact absurd (by decide) hj
             | 9, hj => exact absurd (by decide) hj
             | 10, hj => exact rfl
             | 11, hj => exact absurd (by decide) hj
             | 12, hj => exact absurd (by decide) hj
             | j + 13, _ => exact rfl
           ·exact False.elim hC
           ·exact False.elim hC
           ·exact False.elim hC
           ·exact Bool.noConfusion hr
           ·exact False.elim hC
           ·exact Bool.noConfusion hr
           ·exact Bool.noConfusion hr
          | 1, _ =>
           rcases st with ⟨_ | b163, _ | x168, _ | x174⟩
           ·exact Bool.noConfusion (hm 0 (by decide))
           ·exact False.elim hC
           ·exact False.elim hC
           ·exact False.elim hC
           ·replace hC : St w0 Z (xrow (some ⟨b163, 0, none⟩) 1 46 2 (([(gt a0 t30).Ref] : List api_Ref).flatMap enc_api_Ref) :: xrow A143 c144 46 2 ((([] : List api_Ref) ++ ((t26.drop t56.toNat).take (t26.length - t56.toNat))).flatMap enc_api_Ref) :: xrow A27 c28 46 2 (t26.flatMap enc_api_Ref) :: fs) w := hC
            have hC := hC.pick2
            refine does_appendV (enc := enc_api_Ref) (e := 46) (u := 46) (t := 34) (t2 := 34) (sz := 2) (cp := c28) (n := t56.toNat) (A := A27) (bytes := 24) (xs := t26) (ys := ([(gt a0 t30).Ref] : List api_Ref)) (s := (.tmp 67)) (x := (.tmp 73)) (xv := .slice (some ⟨b163, 0, none⟩) ([(gt a0 t30).Ref] : List api_Ref).length 1) (info := infoOf Try.prog 46) (z := zeroOf Try.prog 46) (ycs := ([(gt a0 t30).Ref] : List api_Ref).flatMap enc_api_Ref) hC g169.2 (by kernel_rfl) (by kernel_rfl) (by kernel_rfl) (by kernel_rfl) (.inl (by kernel_rfl)) (by kernel_rfl) (by kernel_rfl) (by kernel_rfl) (by kernel_rfl) (by kernel_rfl) (by omega) len_api_Ref one_api_Ref (src_row (hC.row 1 rfl) (by omega) len_api_Ref) rfl g169.1 (by omega) ?_
            intro A165 c166 w2 h2
            have h2 := h2.pick2
            have h2 := h2.pick2
            have h2 := h2.pick2
            refine ⟨(some b163, some (A165, c166), none), rfl, ?_, ?_, .inr rfl, h2⟩
            ·intro m hne; match m, hne with
             | 0, hne => exact rfl
             | 1, hne => exact absurd rfl hne
             | 2, hne => exact rfl
             | m + 3, _ => exact rfl
            ·intro j hj; match j, hj with
             | 0, hj => exact rfl
             | 1, hj => exact rfl
             | 2, hj => exact rfl
             | 3, hj => exact rfl
             | 4, hj => exact rfl
             | 5, hj => exact rfl
             | 6, hj => exact rfl
             | 7, hj => exact rfl
             | 8, hj => exact rfl
             | 9, hj => exact absurd (by decide) hj
             | 10, hj => exact rfl
             | 11, hj => exact absurd (by decide) hj
             | 12, hj => exact absurd (by decide) hj
             | j + 13, _ => exact rfl
           ·exact False.elim hC
           ·exact Bool.noConfusion hr
           ·exact Bool.noConfusion hr
          | 2, _ =>
           rcases st with ⟨_ | b163, _ | x168, _ | x174⟩
           ·exact Bool.noConfusion (hm 0 (by decide))
           ·exact False.elim hC
           ·exact False.elim hC
           ·exact False.elim hC
           ·exact Bool.noConfusion (hm 1 (by decide))
           ·exact False.elim hC
           ·replace hC : St w0 Z (xrow x168.1 x168.2 46 2 (((t26.take t56.toNat) ++ ([(gt a0 t30).Ref] : List api_Ref)).flatMap enc_api_Ref) :: xrow (some ⟨b163, 0, none⟩) 1 46 2 (([(gt a0 t30).Ref] : List api_Ref).flatMap enc_api_Ref) :: xrow A143 c144 46 2 ((([] : List api_Ref) ++ ((t26.drop t56.toNat).take (t26.length - t56.toNat))).flatMap enc_api_Ref) :: fs) w := hC
            refine does_append (enc := enc_api_Ref) (e := 46) (u := 46) (t := 34) (t2 := 34) (sz := 2) (cp := x168.2) (A := x168.1) (bytes := 24) (xs := ((t26.take t56.toNat) ++ ([(gt a0 t30).Ref] : List api_Ref))) (ys := (([] : List api_Ref) ++ ((t26.drop t56.toNat).take (t26.length - t56.toNat)))) (s := (.tmp 74)) (x := (.tmp 75)) (xv := .slice A143 (([] : List api_Ref) ++ ((t26.drop t56.toNat).take (t26.length - t56.toNat))).length c144) (info := infoOf Try.prog 46) (z := zeroOf Try.prog 46) (ycs := (([] : List api_Ref) ++ ((t26.drop t56.toNat).take (t26.length - t56.toNat))).flatMap enc_api_Ref) hC (by kernel_rfl) (by kernel_rfl) (by kernel_rfl) (by kernel_rfl) (.inl (by kernel_rfl)) (by kernel_rfl) (by kernel_rfl) (by kernel_rfl) (by kernel_rfl) (by kernel_rfl) (by omega) len_api_Ref one_api_Ref (src_row (hC.row 2 rfl) (by omega) len_api_Ref) rfl g175 (by omega) ?_
            intro A171 c172 w2 h2
            have h2 := h2.pick2
            have h2 := h2.pick2
            have h2 := h2.pick2
            refine ⟨(some b163, some x168, some (A171, c172)), rfl, ?_, ?_, .inr rfl, h2⟩
            ·intro m hne; match m, hne with
             | 0, hne => exact rfl
             | 1, hne => exact rfl
             | 2, hne => exact absurd rfl hne
             | m + 3, _ => exact rfl
            ·intro j hj; match j, hj with
             | 0, hj => exact rfl
             | 1, hj => exact rfl
             | 2, hj => exact rfl
             | 3, hj => exact rfl
             | 4, hj => exact rfl
             | 5, hj => exact rfl
             | 6, hj => exact rfl
             | 7, hj => exact rfl
             | 8, hj => exact rfl
             | 9, hj => exact rfl
             | 10, hj => exact rfl
             | 11, hj => exact absurd (by decide) hj
             | 12, hj => exact absurd (by decide) hj
             | j + 13, _ => exact rfl
           ·exact Bool.noConfusion hr
          | k + 3, hk => exact absurd hk (by simp)
         intro st180 w177 hS178 hr179
         rcases st180 with ⟨_ | b163, _ | x168, _ | x174⟩
         ·exact Bool.noConfusion (hr179 0 (Nat.lt_of_sub_eq_succ rfl))
         ·exact Bool.noConfusion (hr179 0 (Nat.lt_of_sub_eq_succ rfl))
         ·exact Bool.noConfusion (hr179 0 (Nat.lt_of_sub_eq_succ rfl))
         ·exact Bool.noConfusion (hr179 0 (Nat.lt_of_sub_eq_succ rfl))
         ·exact Bool.noConfusion (hr179 1 (Nat.lt_of_sub_eq_succ rfl))
         ·exact Bool.noConfusion (hr179 1 (Nat.lt_of_sub_eq_succ rfl))
         ·exact Bool.noConfusion (hr179 2 (Nat.lt_of_sub_eq_succ rfl))
         replace hS178 : St w0 Z (xrow x174.1 x174.2 46 2 ((((t26.take t56.toNat) ++ ([(gt a0 t30).Ref] : List api_Ref)) ++ (([] : List api_Ref) ++ ((t26.drop t56.toNat).take (t26.length - t56.toNat)))).flatMap enc_api_Ref) :: xrow (some ⟨b163, 0, none⟩) 1 46 2 (([(gt a0 t30).Ref] : List api_Ref).flatMap enc_api_Ref) :: xrow A143 c144 46 2 ((([] : List api_Ref) ++ ((t26.drop t56.toNat).take (t26.length - t56.toNat))).flatMap enc_api_Ref) :: fs) w177 := hS178
         refine sx_run 6 (todo' := [.inLoop (cd13 [1, 1, 1, 1, 0, 1, 0, 0]), .inBlock 0, .code (cd13 [1, 1, 1, 1, 1])]) (us := [(18, .int .i64 t30), (19, .int .i64 (IntKind.i64.wrap (t30 + 1))), (6, .int .i64 (IntKind.i64.wrap (t30 + 1)))]) (by kernel_rfl) ?_
         have hS181 := hS178.pick1
         have hS182 := hS181.drop
         have hS183 := hS182.pick1
         have hS184 := hS183.drop
         refine sx_run 1 (todo' := [.code (cd13 [1, 1, 1, 1, 0, 1, 0, 0]), .inLoop (cd13 [1, 1, 1, 1, 0, 1, 0, 0]), .inBlock 0, .code (cd13 [1, 1, 1, 1, 1])]) (us := []) (by kernel_rfl) ?_
         refine Runs.fill (m := [some (.slice Aa0 a0.length ca0), none, none, none, none, some (.slice x174.1 (((t26.take t56.toNat) ++ ([(gt a0 t30).Ref] : List api_Ref)) ++ (([] : List api_Ref) ++ ((t26.drop t56.toNat).take (t26.length - t56.toNat)))).length x174.2), some (.int .i64 (IntKind.i64.wrap (t30 + 1))), none, none, none, none, none, none, none, none, none, none, none, none, none, none, none, none, none, none, none, none, none, none, none, none, none, none, none, none, none, none, none, none, none, none, none, none, none, none, none, none, none, none, none, none, none, none, none, none, none, none, none, none, none, none, none, none, none, none, none, none, none, none, none, none, none, none, none, none, none, none, none]) (by kernel_rfl) ?_
         exact ih37 (((t26.take t56.toNat) ++ ([(gt a0 t30).Ref] : List api_Ref)) ++ (([] : List api_Ref) ++ ((t26.drop t56.toNat).take (t26.length - t56.toNat)))) (IntKind.i64.wrap (t30 + 1)) _ hp176 he35 _ x174.1 x174.2 _ hS184
        ·skip
         have hp185 := ite_f hp125 h131
         refine q_run 1 (is' := []) (us := [(59, .bool false)]) (by kernel_rfl) ?_
         refine Qs.nil ?_
         intro w186 hS187
         refine sx_run 8 (todo' := [.inLoop (cd13 [1, 1, 1, 1, 0, 1, 0, 0]), .inBlock 0, .code (cd13 [1, 1, 1, 1, 1])]) (us := [(18, .int .i64 t30), (19, .int .i64 (IntKind.i64.wrap (t30 + 1))), (6, .int .i64 (IntKind.i64.wrap (t30 + 1)))]) (by kernel_rfl) ?_
         refine sx_run 1 (todo' := [.code (cd13 [1, 1, 1, 1, 0, 1, 0, 0]), .inLoop (cd13 [1, 1, 1, 1, 0, 1, 0, 0]), .inBlock 0, .code (cd13 [1, 1, 1, 1, 1])]) (us := []) (by kernel_rfl) ?_
         refine Runs.fill (m := [some (.slice Aa0 a0.length ca0), none, none, none, none, some (.slice A27 t26.length c28), some (.int .i64 (IntKind.i64.wrap (t30 + 1))), none, none, none, none, none, none, none, none, none, none, none, none, none, none, none, none, none, none, none, none, none, none, none, none, none, none, none, none, none, none, none, none, none, none, none, none, none, none, none, none, none, none, none, none, none, none, none, none, none, none, none, none, none, none, none, none, none, none, none, none, none, none, none, none, none, none, none, none, none, none, none]) (by kernel_rfl) ?_
         exact ih37 t26 (IntKind.i64.wrap (t30 + 1)) _ hp185 he35 _ A27 c28 _ hS187
      have L197 : ∀ (t188 : Int) (e192 : Int), weirref06_Refs.l1 a0 t26 t30 t188 = some e192 → e192 = v53 → ∀ (l191 : List Value) (w189 : World) (hS190 : St w0 Z (xrow A27 c28 46 2 (t26.flatMap enc_api_Ref) :: fs) w189), Runs Try.prog 13 [.code (cd13 [1, 1, 1, 1, 0, 1, 0, 0, 1, 0, 0, 1, 1, 0, 0, 0]), .inLoop (cd13 [1, 1, 1, 1, 0, 1, 0, 0, 1, 0, 0, 1, 1, 0, 0, 0]), .inBlock 2, .code (cd13 [1, 1, 1, 1, 0, 1, 0, 0, 1, 0, 0, 1, 1, 1]), .inBlock 1, .code (cd13 [1, 1, 1, 1, 0, 1, 0, 0, 1, 1]), .inLoop (cd13 [1, 1, 1, 1, 0, 1, 0, 0]), .inBlock 0, .code (cd13 [1, 1, 1, 1, 1])] (fill [some (.slice Aa0 a0.length ca0), none, none, none, none, some (.slice A27 t26.length c28), some (.int .i64 t30), some (.int .i64 t188), none, none, none, none, none, none, none, none, none, none, none, none, none, none, none, none, none, none, none, none, none, none, none, none, none, none, none, none, none, none, none, none, none, none, none, none, none, none, none, none, none, none, none, none, none, none, none, none, none, none, none, none, none, none, none, none, none, none, none, none, none, none, none, none, none, none, none, none, none, none] l191) w189 R := by
       refine weirref06_Refs.l1.partial_correctness a0 t26 t30 (fun t188 e192 => e192 = v53 → ∀ (l191 : List Value) (w189 : World) (hS190 : St w0 Z (xrow A27 c28 46 2 (t26.flatMap enc_api_Ref) :: fs) w189), Runs Try.prog 13 [.code (cd13 [1, 1, 1, 1, 0, 1, 0, 0, 1, 0, 0, 1, 1, 0, 0, 0]), .inLoop (cd13 [1, 1, 1, 1, 0, 1, 0, 0, 1, 0, 0, 1, 1, 0, 0, 0]), .inBlock 2, .code (cd13 [1, 1, 1, 1, 0, 1, 0, 0, 1, 0, 0, 1, 1, 1]), .inBlock 1, .code (cd13 [1, 1, 1, 1, 0, 1, 0, 0, 1, 1]), .inLoop (cd13 [1, 1, 1, 1, 0, 1, 0, 0]), .inBlock 0, .code (cd13 [1, 1, 1, 1, 1])] (fill [some (.slice Aa0 a0.length ca0), none, none, none, none, some (.slice A27 t26.length c28), some (.int .i64 t30), some (.int .i64 t188), none, none, none, none, none, none, none, none, none, none, none, none, none, none, none, none, none, none, none, none, none, none, none, none, none, none, none, none, none, none, none, none, none, none, none, none, none, none, none, none, none, none, none, none, none, none, none, none, none, none, none, none, none, none, none, none, none, none, none, none, none, none, none, none, none, none, none, none, none, none] l191) w189 R) ?_
       intro rec196 ih195 t188 e192 hb194 he193 l191 w189 hS190
       refine sx_run 2 (todo' := [.code (cd13 [1, 1, 1, 1, 0, 1, 0, 0, 1, 0, 0, 1, 1, 0, 0, 0, 0, 0]), .code (cd13 [1, 1, 1, 1, 0, 1, 0, 0, 1, 0, 0, 1, 1, 0, 0, 0, 0, 1]), .code (cd13 [1, 1, 1, 1, 0, 1, 0, 0, 1, 0, 0, 1, 1, 0, 0, 0, 1]), .inLoop (cd13 [1, 1, 1, 1, 0, 1, 0, 0, 1, 0, 0, 1, 1, 0, 0, 0]), .inBlock 2, .code (cd13 [1, 1, 1, 1, 0, 1, 0, 0, 1, 0, 0, 1, 1, 1]), .inBlock 1, .code (cd13 [1, 1, 1, 1, 0, 1, 0, 0, 1, 1]), .inLoop (cd13 [1, 1, 1, 1, 0, 1, 0, 0]), .inBlock 0, .code (cd13 [1, 1, 1, 1, 1])]) (us := []) (by kernel_rfl) ?_
       refine r_quiet hS190 (c := (cd13 [1, 1, 1, 1, 0, 1, 0, 0, 1, 0, 0, 1, 1, 0, 0, 0, 0, 0])) (id := 10) (by kernel_rfl) (by kernel_rfl) (by kernel_rfl) (is := [0, 1, 2, 3, 4, 5, 6, 7, 8, 9, 10, 11, 12, 13, 14, 15]) (by kernel_rfl) ?_
       refine q_splitr 4 (is' := [4, 5, 6, 7, 8, 9, 10, 11, 12, 13, 14, 15]) (us := [(26, .int .i64 t188), (27, .slice A27 t26.length c28), (28, .int .i64 (t26.length : Int))]) (d := 29) (t := (decide (t188 < (t26.length : Int)))) (by kernel_rfl) (fun h198 => ?_) (fun h199 => ?_)
       ·skip
        have hp200 := ite_t hb194 h198
        refine q_run 3 (is' := [7, 8, 9, 10, 11, 12, 13, 14, 15]) (us := [(30, .bool true), (31, .slice A27 t26.length c28), (32, .int .i64 t188)]) (by kernel_rfl) ?_
        obtain ⟨g201, hp202⟩ := ite_some hp200
        obtain ⟨b203, p204, hA205, -⟩ := (hS190.row 0 rfl).at_ len_api_Ref (by omega) g201.1 g201.2
        refine q_indexAddr (c := (cd13 [1, 1, 1, 1, 0, 1, 0, 0, 1, 0, 0, 1, 1, 0, 0, 0, 0, 0])) (i := 7) (d := (some 33)) (ty := 0) (t := 34) (e := 46) (n := t26.length) (cp := c28) (sz := 2) (kk := .i64) (x := (.tmp 31)) (y := (.tmp 32)) (b := b203) (o' := p204) (j := t188) (by kernel_rfl) (by kernel_rfl) (slv (by kernel_rfl) hA205) (by kernel_rfl) (by kernel_rfl) (by kernel_rfl) g201.1 g201.2 ?_
        refine q_load (c := (cd13 [1, 1, 1, 1, 0, 1, 0, 0, 1, 0, 0, 1, 1, 0, 0, 0, 0, 0])) (i := 8) (d := (some 34)) (ty := 46) (t := 46) (x := (.tmp 33)) (p := ⟨b203, p204 + t188.toNat * 2, none⟩) (v := .agg (enc_api_Ref (gt t26 t188)).toArray) (by kernel_rfl) (by kernel_rfl) (by kernel_rfl) (fun w hC => (loads_agg ((hC.row 0 rfl).at2 hA205 len_api_Ref (by omega) g201.1 g201.2) (by kernel_rfl) (by kernel_rfl))) ?_
        refine q_run 2 (is' := [11, 12, 13, 14, 15]) (us := [(35, .slice Aa0 a0.length ca0), (36, .int .i64 t30)]) (by kernel_rfl) ?_
        obtain ⟨g207, hp208⟩ := ite_some hp202
        obtain ⟨b209, p210, hA211, hc212⟩ := ha0.atF g207.1 g207.2
        refine q_indexAddr (c := (cd13 [1, 1, 1, 1, 0, 1, 0, 0, 1, 0, 0, 1, 1, 0, 0, 0, 0, 0])) (i := 11) (d := (some 37)) (ty := 0) (t := 23) (e := 52) (n := a0.length) (cp := ca0) (sz := 6) (kk := .i64) (x := (.tmp 35)) (y := (.tmp 36)) (b := b209) (o' := p210) (j := t30) (by kernel_rfl) (by kernel_rfl) (slv (by kernel_rfl) hA211) (by kernel_rfl) (by kernel_rfl) (by kernel_rfl) g207.1 g207.2 ?_
        refine q_run 1 (is' := [13, 14, 15]) (us := [(38, .pointer (some ⟨b209, p210 + t30.toNat * 6 + 3, none⟩))]) (by kernel_rfl) ?_
        refine q_load (c := (cd13 [1, 1, 1, 1, 0, 1, 0, 0, 1, 0, 0, 1, 1, 0, 0, 0, 0, 0])) (i := 13) (d := (some 39)) (ty := 46) (t := 46) (x := (.tmp 38)) (p := ⟨b209, p210 + t30.toNat * 6 + 3, none⟩) (v := .agg (enc_api_Ref ((gt a0 t30).Ref)).toArray) (by kernel_rfl) (by kernel_rfl) (by kernel_rfl) (fun w hC => (loads_agg (sub_api_Node_Ref (hc212.cells hC)) (by kernel_rfl) (by kernel_rfl))) ?_
        obtain ⟨t213, hr214, hp215⟩ := bind_some' hp208
        refine q_call1 (c := (cd13 [1, 1, 1, 1, 0, 1, 0, 0, 1, 0, 0, 1, 1, 0, 0, 0, 0, 0])) (i := 14) (d := (some 40)) (v := .bool t213) (g := 26) (args := #[.agg (enc_api_Ref (gt t26 t188)).toArray, .agg (enc_api_Ref ((gt a0 t30).Ref)).toArray]) (by kernel_rfl) (by kernel_rfl) (by kernel_rfl) (by kernel_rfl) (fun w hC => by
         refine (weirref06_Below.ok (gt t26 t188) ((gt a0 t30).Ref) hC hr214).mono ?_
         rintro e w2 ⟨rfl, h2⟩
         exact ⟨rfl, h2⟩) ?_
        refine q_run 1 (is' := []) (us := [(41, .bool t213)]) (by kernel_rfl) ?_
        refine Qs.nil ?_
        intro w216 hS217
        cases t213
        ·skip
         have hp218 := ite_f hp215 rfl
         refine sx_run 2 (todo' := [.code (cd13 [1, 1, 1, 1, 0, 1, 0, 0, 1, 0, 0, 1, 1, 1]), .inBlock 1, .code (cd13 [1, 1, 1, 1, 0, 1, 0, 0, 1, 1]), .inLoop (cd13 [1, 1, 1, 1, 0, 1, 0, 0]), .inBlock 0, .code (cd13 [1, 1, 1, 1, 1])]) (us := []) (by kernel_rfl) ?_
         refine Runs.fill (m := [some (.slice Aa0 a0.length ca0), none, none, none, none, some (.slice A27 t26.length c28), some (.int .i64 t30), some (.int .i64 t188), none, none, none, none, none, none, none, none, none, none, none, none, none, none, none, none, none, none, none, none, none, none, none, none, none, none, none, none, none, none, none, none, none, none, none, none, none, none, none, none, none, none, none, none, none, none, none, none, none, none, none, none, none, none, none, none, none, none, none, none, none, none, none, none, none, none, none, none, none, none]) (by kernel_rfl) ?_
         exact J59 t188 ((Option.some.inj hp218).trans he193) _ _ hS217
        ·skip
         have hp219 := ite_t hp215 rfl
         refine sx_run 9 (todo' := [.inLoop (cd13 [1, 1, 1, 1, 0, 1, 0, 0, 1, 0, 0, 1, 1, 0, 0, 0]), .inBlock 2, .code (cd13 [1, 1, 1, 1, 0, 1, 0, 0, 1, 0, 0, 1, 1, 1]), .inBlock 1, .code (cd13 [1, 1, 1, 1, 0, 1, 0, 0, 1, 1]), .inLoop (cd13 [1, 1, 1, 1, 0, 1, 0, 0]), .inBlock 0, .code (cd13 [1, 1, 1, 1, 1])]) (us := [(42, .int .i64 t188), (43, .int .i64 (IntKind.i64.wrap (t188 + 1))), (7, .int .i64 (IntKind.i64.wrap (t188 + 1)))]) (by kernel_rfl) ?_
         refine sx_run 1 (todo' := [.code (cd13 [1, 1, 1, 1, 0, 1, 0, 0, 1, 0, 0, 1, 1, 0, 0, 0]), .inLoop (cd13 [1, 1, 1, 1, 0, 1, 0, 0, 1, 0, 0, 1, 1, 0, 0, 0]), .inBlock 2, .code (cd13 [1, 1, 1, 1, 0, 1, 0, 0, 1, 0, 0, 1, 1, 1]), .inBlock 1, .code (cd13 [1, 1, 1, 1, 0, 1, 0, 0, 1, 1]), .inLoop (cd13 [1, 1, 1, 1, 0, 1, 0, 0]), .inBlock 0, .code (cd13 [1, 1, 1, 1, 1])]) (us := []) (by kernel_rfl) ?_
         refine Runs.fill (m := [some (.slice Aa0 a0.length ca0), none, none, none, none, some (.slice A27 t26.length c28), some (.int .i64 t30), some (.int .i64 (IntKind.i64.wrap (t188 + 1))), none, none, none, none, none, none, none, none, none, none, none, none, none, none, none, none, none, none, none, none, none, none, none, none, none, none, none, none, none, none, none, none, none, none, none, none, none, none, none, none, none, none, none, none, none, none, none, none, none, none, none, none, none, none, none, none, none, none, none, none, none, none, none, none, none, none, none, none, none, none]) (by kernel_rfl) ?_
         exact ih195 (IntKind.i64.wrap (t188 + 1)) _ hp219 he193 _ _ hS217
       ·skip
        have hp220 := ite_f hb194 h199
        refine q_run 12 (is' := []) (us := [(30, .bool false), (31, undef), (32, undef), (33, undef), (34, undef), (35, undef), (36, undef), (37, undef), (38, undef), (39, undef), (40, undef), (41, .bool false)]) (by kernel_rfl) ?_
        refine Qs.nil ?_
        intro w221 hS222
        refine sx_run 2 (todo' := [.code (cd13 [1, 1, 1, 1, 0, 1, 0, 0, 1, 0, 0, 1, 1, 1]), .inBlock 1, .code (cd13 [1, 1, 1, 1, 0, 1, 0, 0, 1, 1]), .inLoop (cd13 [1, 1, 1, 1, 0, 1, 0, 0]), .inBlock 0, .code (cd13 [1, 1, 1, 1, 1])]) (us := []) (by kernel_rfl) ?_
        refine Runs.fill (m := [some (.slice Aa0 a0.length ca0), none, none, none, none, some (.slice A27 t26.length c28), some (.int .i64 t30), some (.int .i64 t188), none, none, none, none, none, none, none, none, none, none, none, none, none, none, none, none, none, none, none, none, none, none, none, none, none, none, none, none, none, none, none, none, none, none, none, none, none, none, none, none, none, none, none, none, none, none, none, none, none, none, none, none, none, none, none, none, none, none, none, none, none, none, none, none, none, none, none, none, none, none]) (by kernel_rfl) ?_
        exact J59 t188 ((Option.some.inj hp220).trans he193) _ _ hS222
      refine Runs.fill (m := [some (.slice Aa0 a0.length ca0), none, none, none, none, some (.slice A27 t26.length c28), some (.int .i64 t30), some (.int .i64 0), none, none, none, none, none, none, none, none, none, none, none, none, none, none, none, none, none, none, none, none, none, none, none, none, none, none, none, none, none, none, none, none, none, none, none, none, none, none, none, none, none, none, none, none, none, none, none, none, none, none, none, none, none, none, none, none, none, none, none, none, none, none, none, none, none, none, none, none, none, none]) (by kernel_rfl) ?_
      exact L197 0 _ hv54 rfl _ _ hS32
    ·skip
     have hp223 := ite_f hb36 h41
     refine sx_run 3 (todo' := [.code (cd13 [1, 1, 1, 1, 1])]) (us := []) (by kernel_rfl) ?_
     refine Runs.fill (m := [none, none, none, none, none, some (.slice A27 t26.length c28), none, none, none, none, none, none, none, none, none, none, none, none, none, none, none, none, none, none, none, none, none, none, none, none, none, none, none, none, none, none, none, none, none, none, none, none, none, none, none, none, none, none, none, none, none, none, none, none, none, none, none, none, none, none, none, none, none, none, none, none, none, none, none, none, none, none, none, none, none, none, none, none]) (by kernel_rfl) ?_
     exact J22 t26 ((Option.some.inj hp223).trans he35) _ A27 c28 _ hS32
   have hS225 := hS5.nilrow none 46 2
   refine Runs.fill (m := [some (.slice Aa0 a0.length ca0), none, none, none, none, some (.slice none 0 0), some (.int .i64 0), none, none, none, none, none, none, none, none, none, none, none, none, none, none, none, none, none, none, none, none, none, none, none, none, none, none, none, none, none, none, none, none, none, none, none, none, none, none, none, none, none, none, none, none, none, none, none, none, none, none, none, none, none, none, none, none, none, none, none, none, none, none, none, none, none, none, none, none, none, none, none]) (by kernel_rfl) ?_
   exact L39 [] 0 _ hv14 rfl _ none 0 _ hS225

noncomputable def cd14 (p : List Nat) : Code := sub (bodyOf Try.f14) p
def weirlaw06_sameRefs.l0 (a0 : List api_Ref) (a1 : List api_Ref) (t16 : Int) : Option (Sum Unit Bool) :=
  (if (decide (t16 < (a0.length : Int))) = true then (if 0 ≤ t16 ∧ t16 < (a0.length : Int) then (if 0 ≤ t16 ∧ t16 < (a1.length : Int) then (if (!(decide ((gt a0 t16) = (gt a1 t16)))) = true then some (.inr (false)) else (weirlaw06_sameRefs.l0 a0 a1 (IntKind.i64.wrap (t16 + 1)))) else none) else none) else some (.inl ()))
 partial_fixpoint
def weirlaw06_sameRefs.f (a0 : List api_Ref) (a1 : List api_Ref) : Option Bool :=
  (if ((a0.length : Int) != (a1.length : Int)) = true then some (false) else (weirlaw06_sameRefs.l0 a0 a1 0 >>= (fun | .inl () => some (true) | .inr e => some e)))
set_option maxHeartbeats 16000000 in
theorem weirlaw06_sameRefs.ok (a0 : List api_Ref) (a1 : List api_Ref) (Aa0 : Option Addr) (ca0 : Nat) (Aa1 : Option Addr) (ca1 : Nat) {w0 : World} {Z : Zm} {fs : List XObj} {w : World} (hS0 : St w0 Z (fs) w) (ha0 : SlZ (flat enc_api_Ref) 2 Z Aa0 ca0 a0) (ha1 : SlZ (flat enc_api_Ref) 2 Z Aa1 ca1 a1) {q0 : Bool} (hp0 : weirlaw06_sameRefs.f a0 a1 = some q0) :
    Calls Try.prog 14 #[.slice Aa0 a0.length ca0, .slice Aa1 a1.length ca1] w (fun e w' => e = .returned (.bool q0) ∧ St w0 Z (fs) w') := by
  refine calls_abs ?_; intro R hR
  unfold weirlaw06_sameRefs.f at hp0
  refine calls_of_runs (fn := Try.f14) (c := cd14 []) Try.func14 (by kernel_rfl) (al := [.slice Aa0 a0.length ca0, .slice Aa1 a1.length ca1]) rfl (n := 24) rfl ?_
  refine sx_split 12 (todo' := [.inRegion (opsOf (cd14 [1, 0, 0])) [], .code (cd14 [1, 0, 1]), .code (cd14 [1, 1])]) (us := [(4, .bool false), (6, .slice Aa0 a0.length ca0), (7, .int .i64 (a0.length : Int)), (8, .slice Aa1 a1.length ca1), (9, .int .i64 (a1.length : Int))]) (d := 10) (t := ((a0.length : Int) != (a1.length : Int))) (by kernel_rfl) (fun h1 => ?_) (fun h2 => ?_)
  ·skip
   have hp3 := ite_t hp0 h1
   refine sx_run 6 (todo' := [.code (cd14 [1, 0, 1, 0, 1]), .code (cd14 [1, 1])]) (us := [(4, .bool false)]) (by kernel_rfl) ?_
   refine runs_ret (fn := Try.f14) (v := .bool false) Try.func14 (by kernel_rfl) ?_
   have hr4 := (Option.some.inj hp3)
   cases hr4
   exact hR _ _ ⟨rfl, hS0⟩
  ·skip
   have hp5 := ite_f hp0 h2
   refine sx_run 10 (todo' := [.code (cd14 [1, 1, 0, 1, 0, 0]), .inLoop (cd14 [1, 1, 0, 1, 0, 0]), .inBlock 0, .code (cd14 [1, 1, 1])]) (us := [(5, .int .i64 0)]) (by kernel_rfl) ?_
   obtain ⟨v6, hv7, hp8⟩ := bind_some' hp5
   have hq11 : ∀ x, Sum.inr x = v6 → x = q0 := by intro x hx; subst hx; simpa using hp8
   have J12 : ∀ (he14 : Sum.inl () = v6) (l13 : List Value) (w9 : World) (hS10 : St w0 Z (fs) w9), Runs Try.prog 14 [.code (cd14 [1, 1, 1])] (fill [none, none, none, none, none, none, none, none, none, none, none, none, none, none, none, none, none, none, none, none, none, none, none, none, none, none] l13) w9 R := by
    intro he14 l13 w9 hS10
    subst he14
    try dsimp only at hp8
    refine sx_run 4 (todo' := [.code (cd14 [1, 1, 1, 1])]) (us := [(4, .bool true)]) (by kernel_rfl) ?_
    refine runs_ret (fn := Try.f14) (v := .bool true) Try.func14 (by kernel_rfl) ?_
    have hr15 := (Option.some.inj hp8)
    cases hr15
    exact hR _ _ ⟨rfl, hS10⟩
   have L25 : ∀ (t16 : Int) (e20 : Sum Unit Bool), weirlaw06_sameRefs.l0 a0 a1 t16 = some e20 → e20 = v6 → ∀ (l19 : List Value) (w17 : World) (hS18 : St w0 Z (fs) w17), Runs Try.prog 14 [.code (cd14 [1, 1, 0, 1, 0, 0]), .inLoop (cd14 [1, 1, 0, 1, 0, 0]), .inBlock 0, .code (cd14 [1, 1, 1])] (fill [some (.slice Aa0 a0.length ca0), some (.slice Aa1 a1.length ca1), none, none, none, some (.int .i64 t16), none, none, none, none, none, none, none, none, none, none, none, none, none, none, none, none, none, none, none, none] l19) w17 R := by
    refine weirlaw06_sameRefs.l0.partial_correctness a0 a1 (fun t16 e20 => e20 = v6 → ∀ (l19 : List Value) (w17 : World) (hS18 : St w0 Z (fs) w17), Runs Try.prog 14 [.code (cd14 [1, 1, 0, 1, 0, 0]), .inLoop (cd14 [1, 1, 0, 1, 0, 0]), .inBlock 0, .code (cd14 [1, 1, 1])] (fill [some (.slice Aa0 a0.length ca0), some (.slice Aa1 a1.length ca1), none, none, none, some (.int .i64 t16), none, none, none, none, none, none, none, none, none, none, none, none, none, none, none, none, none, none, none, none] l19) w17 R) ?_
    intro rec24 ih23 t16 e20 hb22 he21 l19 w17 hS18
    have hq26 : ∀ x, Sum.inr x = e20 → x = q0 := fun x hx => hq11 x (hx.trans he21)
    refine sx_split 7 (todo' := [.inRegion (opsOf (cd14 [1, 1, 0, 1, 0, 0, 0, 0])) [], .code (cd14 [1, 1, 0, 1, 0, 0, 0, 1]), .code (cd14 [1, 1, 0, 1, 0, 0, 1]), .inLoop (cd14 [1, 1, 0, 1, 0, 0]), .inBlock 0, .code (cd14 [1, 1, 1])]) (us := [(11, .int .i64 t16), (12, .slice Aa0 a0.length ca0), (13, .int .i64 (a0.length : Int))]) (d := 14) (t := (decide (t16 < (a0.length : Int)))) (by kernel_rfl) (fun h27 => ?_) (fun h28 => ?_)
    ·skip
     have hp29 := ite_t hb22 h27
     refine sx_run 6 (todo' := [.code (cd14 [1, 1, 0, 1, 0, 0, 1, 0, 0, 0]), .code (cd14 [1, 1, 0, 1, 0, 0, 1, 0, 0, 1]), .inBlock 1, .code (cd14 [1, 1, 0, 1, 0, 0, 1, 1]), .inLoop (cd14 [1, 1, 0, 1, 0, 0]), .inBlock 0, .code (cd14 [1, 1, 1])]) (us := []) (by kernel_rfl) ?_
     refine r_quiet hS18 (c := (cd14 [1, 1, 0, 1, 0, 0, 1, 0, 0, 0])) (id := 6) (by kernel_rfl) (by kernel_rfl) (by kernel_rfl) (is := [0, 1, 2, 3, 4, 5, 6, 7, 8]) (by kernel_rfl) ?_
     refine q_run 2 (is' := [2, 3, 4, 5, 6, 7, 8]) (us := [(17, .slice Aa0 a0.length ca0), (18, .int .i64 t16)]) (by kernel_rfl) ?_
     obtain ⟨g30, hp31⟩ := ite_some hp29
     obtain ⟨b32, p33, hA34, hc35⟩ := ha0.atF g30.1 g30.2
     refine q_indexAddr (c := (cd14 [1, 1, 0, 1, 0, 0, 1, 0, 0, 0])) (i := 2) (d := (some 19)) (ty := 0) (t := 34) (e := 46) (n := a0.length) (cp := ca0) (sz := 2) (kk := .i64) (x := (.tmp 17)) (y := (.tmp 18)) (b := b32) (o' := p33) (j := t16) (by kernel_rfl) (by kernel_rfl) (slv (by kernel_rfl) hA34) (by kernel_rfl) (by kernel_rfl) (by kernel_rfl) g30.1 g30.2 ?_
     refine q_load (c := (cd14 [1, 1, 0, 1, 0, 0, 1, 0, 0, 0])) (i := 3) (d := (some 20)) (ty := 46) (t := 46) (x := (.tmp 19)) (p := ⟨b32, p33 + t16.toNat * 2, none⟩) (v := .agg (enc_api_Ref (gt a0 t16)).toArray) (by kernel_rfl) (by kernel_rfl) (by kernel_rfl) (fun w hC => (loads_agg (hc35.cells hC) (by kernel_rfl) (by kernel_rfl))) ?_
     refine q_run 2 (is' := [6, 7, 8]) (us := [(21, .slice Aa1 a1.length ca1), (22, .int .i64 t16)]) (by kernel_rfl) ?_
     obtain ⟨g36, hp37⟩ := ite_some hp31
     obtain ⟨b38, p39, hA40, hc41⟩ := ha1.atF g36.1 g36.2
     refine q_indexAddr (c := (cd14 [1, 1, 0, 1, 0, 0, 1, 0, 0, 0])) (i := 6) (d := (some 23)) (ty := 0) (t := 34) (e := 46) (n := a1.length) (cp := ca1) (sz := 2) (kk := .i64) (x := (.tmp 21)) (y := (.tmp 22)) (b := b38) (o' := p39) (j := t16) (by kernel_rfl) (by kernel_rfl) (slv (by kernel_rfl) hA40) (by kernel_rfl) (by kernel_rfl) (by kernel_rfl) g36.1 g36.2 ?_
     refine q_load (c := (cd14 [1, 1, 0, 1, 0, 0, 1, 0, 0, 0])) (i := 7) (d := (some 24)) (ty := 46) (t := 46) (x := (.tmp 23)) (p := ⟨b38, p39 + t16.toNat * 2, none⟩) (v := .agg (enc_api_Ref (gt a1 t16)).toArray) (by kernel_rfl) (by kernel_rfl) (by kernel_rfl) (fun w hC => (loads_agg (hc41.cells hC) (by kernel_rfl) (by kernel_rfl))) ?_
     refine q_val (c := (cd14 [1, 1, 0, 1, 0, 0, 1, 0, 0, 0])) (i := 8) (d := (some 25)) (ty := 4) (op := .binOp .neq 46 (.tmp 20) (.tmp 24) 46) (v := .bool (!(decide ((gt a0 t16) = (gt a1 t16))))) (by kernel_rfl) (by kernel_rfl) (fun w hC o ho _ => x_neq_api_Ref (by kernel_rfl) (by kernel_rfl) ho) ?_
     refine q_split (!(decide ((gt a0 t16) = (gt a1 t16)))) (fun h42 => ?_) (fun h43 => ?_)
     ·skip
      have hp44 := ite_t hp37 h42
      refine Qs.nil ?_
      intro w45 hS46
      refine sx_run 5 (todo' := [.code (cd14 [1, 1, 0, 1, 0, 0, 1, 0, 0, 1, 0, 1]), .inBlock 1, .code (cd14 [1, 1, 0, 1, 0, 0, 1, 1]), .inLoop (cd14 [1, 1, 0, 1, 0, 0]), .inBlock 0, .code (cd14 [1, 1, 1])]) (us := [(4, .bool false)]) (by kernel_rfl) ?_
      refine runs_ret (fn := Try.f14) (v := .bool false) Try.func14 (by kernel_rfl) ?_
      have hr47 := (hq26 _ (Option.some.inj hp44))
      cases hr47
      exact hR _ _ ⟨rfl, hS46⟩
     ·skip
      have hp48 := ite_f hp37 h43
      refine Qs.nil ?_
      intro w49 hS50
      refine sx_run 8 (todo' := [.inLoop (cd14 [1, 1, 0, 1, 0, 0]), .inBlock 0, .code (cd14 [1, 1, 1])]) (us := [(15, .int .i64 t16), (16, .int .i64 (IntKind.i64.wrap (t16 + 1))), (5, .int .i64 (IntKind.i64.wrap (t16 + 1)))]) (by kernel_rfl) ?_
      refine sx_run 1 (todo' := [.code (cd14 [1, 1, 0, 1, 0, 0]), .inLoop (cd14 [1, 1, 0, 1, 0, 0]), .inBlock 0, .code (cd14 [1, 1, 1])]) (us := []) (by kernel_rfl) ?_
      refine Runs.fill (m := [some (.slice Aa0 a0.length ca0), some (.slice Aa1 a1.length ca1), none, none, none, some (.int .i64 (IntKind.i64.wrap (t16 + 1))), none, none, none, none, none, none, none, none, none, none, none, none, none, none, none, none, none, none, none, none]) (by kernel_rfl) ?_
      exact ih23 (IntKind.i64.wrap (t16 + 1)) _ hp48 he21 _ _ hS50
    ·skip
     have hp51 := ite_f hb22 h28
     refine sx_run 3 (todo' := [.code (cd14 [1, 1, 1])]) (us := []) (by kernel_rfl) ?_
     refine Runs.fill (m := [none, none, none, none, none, none, none, none, none, none, none, none, none, none, none, none, none, none, none, none, none, none, none, none, none, none]) (by kernel_rfl) ?_
     exact J12 ((Option.some.inj hp51).trans he21) _ _ hS18
   refine Runs.fill (m := [some (.slice Aa0 a0.length ca0), some (.slice Aa1 a1.length ca1), none, none, none, some (.int .i64 0), none, none, none, none, none, none, none, none, none, none, none, none, none, none, none, none, none, none, none, none]) (by kernel_rfl) ?_
   exact L25 0 _ hv7 rfl _ _ hS0

noncomputable def cd9 (p : List Nat) : Code := sub (bodyOf Try.f9) p
def weirlaw06_num.f (a0 : Int) : Option Int :=
  some (a0)
set_option maxHeartbeats 16000000 in
theorem weirlaw06_num.ok (a0 : Int) {w0 : World} {Z : Zm} {fs : List XObj} {w : World} (hS0 : St w0 Z (fs) w) {q0 : Int} (hp0 : weirlaw06_num.f a0 = some q0) :
    Calls Try.prog 9 #[.int .i64 a0] w (fun e w' => e = .returned (.int .i64 q0) ∧ St w0 Z (fs) w') := by
  refine calls_abs ?_; intro R hR
  unfold weirlaw06_num.f at hp0
  refine calls_of_runs (fn := Try.f9) (c := cd9 []) Try.func9 (by kernel_rfl) (al := [.int .i64 a0]) rfl (n := 3) rfl ?_
  refine sx_run 9 (todo' := [.code (cd9 [1, 1])]) (us := [(2, .int .i64 0), (3, .int .i64 a0), (2, .int .i64 a0)]) (by kernel_rfl) ?_
  refine runs_ret (fn := Try.f9) (v := .int .i64 a0) Try.func9 (by kernel_rfl) ?_
  have hr1 := (Option.some.inj hp0)
  cases hr1
  exact hR _ _ ⟨rfl, hS0⟩

noncomputable def cd17 (p : List Nat) : Code := sub (bodyOf Try.f17) p
def weirlaw06_Set__of.l0 (a0 : weirlaw06_Set) (a1 : api_Ref) (t20 : Int) : Option (Sum Unit Int) :=
  (if (decide (t20 < (a0.Refs.length : Int))) = true then (if (decide (t20 < (a0.Values.length : Int))) = true then (if 0 ≤ t20 ∧ t20 < (a0.Refs.length : Int) then (if (decide ((gt a0.Refs t20) = a1)) = true then (if 0 ≤ t20 ∧ t20 < (a0.Values.length : Int) then some (.inr ((gt a0.Values t20))) else none) else (weirlaw06_Set__of.l0 a0 a1 (IntKind.i64.wrap (t20 + 1)))) else none) else some (.inl ())) else some (.inl ()))
 partial_fixpoint
def weirlaw06_Set__of.f (a0 : weirlaw06_Set) (a1 : api_Ref) : Option Int :=
  (weirlaw06_Set__of.l0 a0 a1 0 >>= (fun | .inl () => some (a0.Rest) | .inr e => some e))
set_option maxHeartbeats 16000000 in
theorem weirlaw06_Set__of.ok (a0 : weirlaw06_Set) (a1 : api_Ref) (Aa0_0 : Option Addr) (ca0_0 : Nat) (Aa0_1 : Option Addr) (ca0_1 : Nat) {w0 : World} {Z : Zm} {fs : List XObj} {w : World} (hS0 : St w0 Z (fs) w) (ha0_0 : SlZ (flat enc_api_Ref) 2 Z Aa0_0 ca0_0 a0.Refs) (ha0_1 : SlZ (flat (encI .i64)) 1 Z Aa0_1 ca0_1 a0.Values) {q0 : Int} (hp0 : weirlaw06_Set__of.f a0 a1 = some q0) :
    Calls Try.prog 17 #[.agg #[.slice Aa0_0 a0.Refs.length ca0_0, .slice Aa0_1 a0.Values.length ca0_1, .int .i64 a0.Rest], .agg (enc_api_Ref a1).toArray] w (fun e w' => e = .returned (.int .i64 q0) ∧ St w0 Z (fs) w') := by
  refine calls_abs ?_; intro R hR
  unfold weirlaw06_Set__of.f at hp0
  refine calls_of_runs (fn := Try.f17) (c := cd17 []) Try.func17 (by kernel_rfl) (al := [.agg #[.slice Aa0_0 a0.Refs.length ca0_0, .slice Aa0_1 a0.Values.length ca0_1, .int .i64 a0.Rest], .agg (enc_api_Ref a1).toArray]) rfl (n := 32) rfl ?_
  refine sx_run 2 (todo' := [.inRegion (opsOf (cd17 [0])) [0, 1, 2], .code (cd17 [1])]) (us := []) (by kernel_rfl) ?_
  refine r_box (c := (cd17 [0])) (i := 0) (d := (some 2)) (ty := 0) (x := (.tmp 0)) (v := .agg #[.slice Aa0_0 a0.Refs.length ca0_0, .slice Aa0_1 a0.Values.length ca0_1, .int .i64 a0.Rest]) (t := 37) (cs := [.slice Aa0_0 a0.Refs.length ca0_0, .slice Aa0_1 a0.Values.length ca0_1, .int .i64 a0.Rest]) hS0 (by kernel_rfl) (by kernel_rfl) (by kernel_rfl) (by kernel_rfl) ?_
  intro b1 w2 hS3
  refine r_box (c := (cd17 [0])) (i := 1) (d := (some 3)) (ty := 0) (x := (.tmp 1)) (v := .agg (enc_api_Ref a1).toArray) (t := 46) (cs := enc_api_Ref a1) hS3 (by kernel_rfl) (by kernel_rfl) (by kernel_rfl) (by kernel_rfl) ?_
  intro b5 w6 hS7
  refine sx_run 9 (todo' := [.code (cd17 [1, 0, 1, 0, 0]), .inLoop (cd17 [1, 0, 1, 0, 0]), .inBlock 0, .code (cd17 [1, 1])]) (us := [(4, .int .i64 0), (5, .int .i64 0)]) (by kernel_rfl) ?_
  obtain ⟨v9, hv10, hp11⟩ := bind_some' hp0
  have hq14 : ∀ x, Sum.inr x = v9 → x = q0 := by intro x hx; subst hx; simpa using hp11
  have J15 : ∀ (he17 : Sum.inl () = v9) (l16 : List Value) (w12 : World) (hS13 : St w0 Z (xblk b1 37 ([.slice Aa0_0 a0.Refs.length ca0_0, .slice Aa0_1 a0.Values.length ca0_1, .int .i64 a0.Rest]) :: fs) w12), Runs Try.prog 17 [.code (cd17 [1, 1])] (fill [none, none, some (.pointer (some ⟨b1, 0, none⟩)), none, none, none, none, none, none, none, none, none, none, none, none, none, none, none, none, none, none, none, none, none, none, none, none, none, none, none, none, none, none, none] l16) w12 R := by
   intro he17 l16 w12 hS13
   subst he17
   try dsimp only at hp11
   refine sx_run 3 (todo' := [.inRegion (opsOf (cd17 [1, 1, 0])) [1, 2], .code (cd17 [1, 1, 1])]) (us := [(32, .pointer (some ⟨b1, 2, none⟩))]) (by kernel_rfl) ?_
   refine r_load (c := (cd17 [1, 1, 0])) (i := 1) (d := (some 33)) (ty := 2) (t := 2) (x := (.tmp 32)) (p := ⟨b1, 2, none⟩) (v := .int .i64 a0.Rest) (by kernel_rfl) (by kernel_rfl) (by kernel_rfl) (loads_at 2 (hS13.blk 0 rfl) (by kernel_rfl) (by kernel_rfl)) ?_
   refine sx_run 2 (todo' := [.code (cd17 [1, 1, 1])]) (us := [(4, .int .i64 a0.Rest)]) (by kernel_rfl) ?_
   have hS18 := hS13.drop
   refine runs_ret (fn := Try.f17) (v := .int .i64 a0.Rest) Try.func17 (by kernel_rfl) ?_
   have hr19 := (Option.some.inj hp11)
   cases hr19
   exact hR _ _ ⟨rfl, hS18⟩
  have L29 : ∀ (t20 : Int) (e24 : Sum Unit Int), weirlaw06_Set__of.l0 a0 a1 t20 = some e24 → e24 = v9 → ∀ (l23 : List Value) (w21 : World) (hS22 : St w0 Z (xblk b1 37 ([.slice Aa0_0 a0.Refs.length ca0_0, .slice Aa0_1 a0.Values.length ca0_1, .int .i64 a0.Rest]) :: xblk b5 46 (enc_api_Ref a1) :: fs) w21), Runs Try.prog 17 [.code (cd17 [1, 0, 1, 0, 0]), .inLoop (cd17 [1, 0, 1, 0, 0]), .inBlock 0, .code (cd17 [1, 1])] (fill [none, none, some (.pointer (some ⟨b1, 0, none⟩)), some (.pointer (some ⟨b5, 0, none⟩)), none, some (.int .i64 t20), none, none, none, none, none, none, none, none, none, none, none, none, none, none, none, none, none, none, none, none, none, none, none, none, none, none, none, none] l23) w21 R := by
   refine weirlaw06_Set__of.l0.partial_correctness a0 a1 (fun t20 e24 => e24 = v9 → ∀ (l23 : List Value) (w21 : World) (hS22 : St w0 Z (xblk b1 37 ([.slice Aa0_0 a0.Refs.length ca0_0, .slice Aa0_1 a0.Values.length ca0_1, .int .i64 a0.Rest]) :: xblk b5 46 (enc_api_Ref a1) :: fs) w21), Runs Try.prog 17 [.code (cd17 [1, 0, 1, 0, 0]), .inLoop (cd17 [1, 0, 1, 0, 0]), .inBlock 0, .code (cd17 [1, 1])] (fill [none, none, some (.pointer (some ⟨b1, 0, none⟩)), some (.pointer (some ⟨b5, 0, none⟩)), none, some (.int .i64 t20), none, none, none, none, none, none, none, none, none, none, none, none, none, none, none, none, none, none, none, none, none, none, none, none, none, none, none, none] l23) w21 R) ?_
   intro rec28 ih27 t20 e24 hb26 he25 l23 w21 hS22
   have hq30 : ∀ x, Sum.inr x = e24 → x = q0 := fun x hx => hq14 x (hx.trans he25)
   refine sx_run 5 (todo' := [.inRegion (opsOf (cd17 [1, 0, 1, 0, 0, 0, 0])) [2, 3, 4, 5, 6, 7, 8, 9, 10, 11], .code (cd17 [1, 0, 1, 0, 0, 0, 1]), .code (cd17 [1, 0, 1, 0, 0, 1]), .inLoop (cd17 [1, 0, 1, 0, 0]), .inBlock 0, .code (cd17 [1, 1])]) (us := [(6, .int .i64 t20), (7, .pointer (some ⟨b1, 0, none⟩))]) (by kernel_rfl) ?_
   refine r_load (c := (cd17 [1, 0, 1, 0, 0, 0, 0])) (i := 2) (d := (some 8)) (ty := 34) (t := 34) (x := (.tmp 7)) (p := ⟨b1, 0, none⟩) (v := .slice Aa0_0 a0.Refs.length ca0_0) (by kernel_rfl) (by kernel_rfl) (by kernel_rfl) (loads_at 0 (hS22.blk 0 rfl) (by kernel_rfl) (by kernel_rfl)) ?_
   refine sx_split 2 (todo' := [.inRegion (opsOf (cd17 [1, 0, 1, 0, 0, 0, 0])) [5, 6, 7, 8, 9, 10, 11], .code (cd17 [1, 0, 1, 0, 0, 0, 1]), .code (cd17 [1, 0, 1, 0, 0, 1]), .inLoop (cd17 [1, 0, 1, 0, 0]), .inBlock 0, .code (cd17 [1, 1])]) (us := [(9, .int .i64 (a0.Refs.length : Int))]) (d := 10) (t := (decide (t20 < (a0.Refs.length : Int)))) (by kernel_rfl) (fun h31 => ?_) (fun h32 => ?_)
   ·skip
    have hp33 := ite_t hb26 h31
    refine sx_run 3 (todo' := [.inRegion (opsOf (cd17 [1, 0, 1, 0, 0, 0, 0])) [8, 9, 10, 11], .code (cd17 [1, 0, 1, 0, 0, 0, 1]), .code (cd17 [1, 0, 1, 0, 0, 1]), .inLoop (cd17 [1, 0, 1, 0, 0]), .inBlock 0, .code (cd17 [1, 1])]) (us := [(11, .bool true), (12, .int .i64 t20), (13, .pointer (some ⟨b1, 1, none⟩))]) (by kernel_rfl) ?_
    refine r_load (c := (cd17 [1, 0, 1, 0, 0, 0, 0])) (i := 8) (d := (some 14)) (ty := 35) (t := 35) (x := (.tmp 13)) (p := ⟨b1, 1, none⟩) (v := .slice Aa0_1 a0.Values.length ca0_1) (by kernel_rfl) (by kernel_rfl) (by kernel_rfl) (loads_at 1 (hS22.blk 0 rfl) (by kernel_rfl) (by kernel_rfl)) ?_
    refine sx_split 2 (todo' := [.inRegion (opsOf (cd17 [1, 0, 1, 0, 0, 0, 0])) [11], .code (cd17 [1, 0, 1, 0, 0, 0, 1]), .code (cd17 [1, 0, 1, 0, 0, 1]), .inLoop (cd17 [1, 0, 1, 0, 0]), .inBlock 0, .code (cd17 [1, 1])]) (us := [(15, .int .i64 (a0.Values.length : Int))]) (d := 16) (t := (decide (t20 < (a0.Values.length : Int)))) (by kernel_rfl) (fun h34 => ?_) (fun h35 => ?_)
    ·skip
     have hp36 := ite_t hp33 h34
     refine sx_run 7 (todo' := [.code (cd17 [1, 0, 1, 0, 0, 1, 0, 0, 0]), .code (cd17 [1, 0, 1, 0, 0, 1, 0, 0, 1]), .inBlock 1, .code (cd17 [1, 0, 1, 0, 0, 1, 1]), .inLoop (cd17 [1, 0, 1, 0, 0]), .inBlock 0, .code (cd17 [1, 1])]) (us := [(17, .bool true)]) (by kernel_rfl) ?_
     refine r_quiet hS22 (c := (cd17 [1, 0, 1, 0, 0, 1, 0, 0, 0])) (id := 4) (by kernel_rfl) (by kernel_rfl) (by kernel_rfl) (is := [0, 1, 2, 3, 4, 5, 6]) (by kernel_rfl) ?_
     refine q_run 1 (is' := [1, 2, 3, 4, 5, 6]) (us := [(20, .pointer (some ⟨b1, 0, none⟩))]) (by kernel_rfl) ?_
     refine q_load (c := (cd17 [1, 0, 1, 0, 0, 1, 0, 0, 0])) (i := 1) (d := (some 21)) (ty := 34) (t := 34) (x := (.tmp 20)) (p := ⟨b1, 0, none⟩) (v := .slice Aa0_0 a0.Refs.length ca0_0) (by kernel_rfl) (by kernel_rfl) (by kernel_rfl) (fun w hC => (loads_at 0 (hC.blk 0 rfl) (by kernel_rfl) (by kernel_rfl))) ?_
     refine q_run 1 (is' := [3, 4, 5, 6]) (us := [(22, .int .i64 t20)]) (by kernel_rfl) ?_
     obtain ⟨g37, hp38⟩ := ite_some hp36
     obtain ⟨b39, p40, hA41, hc42⟩ := ha0_0.atF g37.1 g37.2
     refine q_indexAddr (c := (cd17 [1, 0, 1, 0, 0, 1, 0, 0, 0])) (i := 3) (d := (some 23)) (ty := 0) (t := 34) (e := 46) (n := a0.Refs.length) (cp := ca0_0) (sz := 2) (kk := .i64) (x := (.tmp 21)) (y := (.tmp 22)) (b := b39) (o' := p40) (j := t20) (by kernel_rfl) (by kernel_rfl) (slv (by kernel_rfl) hA41) (by kernel_rfl) (by kernel_rfl) (by kernel_rfl) g37.1 g37.2 ?_
     refine q_load (c := (cd17 [1, 0, 1, 0, 0, 1, 0, 0, 0])) (i := 4) (d := (some 24)) (ty := 46) (t := 46) (x := (.tmp 23)) (p := ⟨b39, p40 + t20.toNat * 2, none⟩) (v := .agg (enc_api_Ref (gt a0.Refs t20)).toArray) (by kernel_rfl) (by kernel_rfl) (by kernel_rfl) (fun w hC => (loads_agg (hc42.cells hC) (by kernel_rfl) (by kernel_rfl))) ?_
     refine q_load (c := (cd17 [1, 0, 1, 0, 0, 1, 0, 0, 0])) (i := 5) (d := (some 25)) (ty := 46) (t := 46) (x := (.tmp 3)) (p := ⟨b5, 0, none⟩) (v := .agg (enc_api_Ref a1).toArray) (by kernel_rfl) (by kernel_rfl) (by kernel_rfl) (fun w hC => (loads_agg (hC.blk 1 rfl) (by kernel_rfl) (by kernel_rfl))) ?_
     refine q_val (c := (cd17 [1, 0, 1, 0, 0, 1, 0, 0, 0])) (i := 6) (d := (some 26)) (ty := 4) (op := .binOp .eql 46 (.tmp 24) (.tmp 25) 46) (v := .bool (decide ((gt a0.Refs t20) = a1))) (by kernel_rfl) (by kernel_rfl) (fun w hC o ho _ => x_eql_api_Ref (by kernel_rfl) (by kernel_rfl) ho) ?_
     refine q_split (decide ((gt a0.Refs t20) = a1)) (fun h43 => ?_) (fun h44 => ?_)
     ·skip
      have hp45 := ite_t hp38 h43
      refine Qs.nil ?_
      intro w46 hS47
      refine sx_run 4 (todo' := [.inRegion (opsOf (cd17 [1, 0, 1, 0, 0, 1, 0, 0, 1, 0, 0])) [1, 2, 3, 4, 5], .code (cd17 [1, 0, 1, 0, 0, 1, 0, 0, 1, 0, 1]), .inBlock 1, .code (cd17 [1, 0, 1, 0, 0, 1, 1]), .inLoop (cd17 [1, 0, 1, 0, 0]), .inBlock 0, .code (cd17 [1, 1])]) (us := [(27, .pointer (some ⟨b1, 1, none⟩))]) (by kernel_rfl) ?_
      refine r_load (c := (cd17 [1, 0, 1, 0, 0, 1, 0, 0, 1, 0, 0])) (i := 1) (d := (some 28)) (ty := 35) (t := 35) (x := (.tmp 27)) (p := ⟨b1, 1, none⟩) (v := .slice Aa0_1 a0.Values.length ca0_1) (by kernel_rfl) (by kernel_rfl) (by kernel_rfl) (loads_at 1 (hS47.blk 0 rfl) (by kernel_rfl) (by kernel_rfl)) ?_
      refine sx_run 1 (todo' := [.inRegion (opsOf (cd17 [1, 0, 1, 0, 0, 1, 0, 0, 1, 0, 0])) [3, 4, 5], .code (cd17 [1, 0, 1, 0, 0, 1, 0, 0, 1, 0, 1]), .inBlock 1, .code (cd17 [1, 0, 1, 0, 0, 1, 1]), .inLoop (cd17 [1, 0, 1, 0, 0]), .inBlock 0, .code (cd17 [1, 1])]) (us := [(29, .int .i64 t20)]) (by kernel_rfl) ?_
      obtain ⟨g48, hp49⟩ := ite_some hp45
      obtain ⟨b50, p51, hA52, hc53⟩ := ha0_1.atF g48.1 g48.2
      refine r_indexAddr (c := (cd17 [1, 0, 1, 0, 0, 1, 0, 0, 1, 0, 0])) (i := 3) (d := (some 30)) (ty := 0) (t := 35) (e := 2) (n := a0.Values.length) (cp := ca0_1) (sz := 1) (kk := .i64) (x := (.tmp 28)) (y := (.tmp 29)) (b := b50) (o' := p51) (j := t20) (by kernel_rfl) (by kernel_rfl) (slv (by kernel_rfl) hA52) (by kernel_rfl) (by kernel_rfl) (by kernel_rfl) g48.1 g48.2 ?_
      refine r_load (c := (cd17 [1, 0, 1, 0, 0, 1, 0, 0, 1, 0, 0])) (i := 4) (d := (some 31)) (ty := 2) (t := 2) (x := (.tmp 30)) (p := ⟨b50, p51 + t20.toNat * 1, none⟩) (v := .int .i64 (gt a0.Values t20)) (by kernel_rfl) (by kernel_rfl) (by kernel_rfl) (loads_at 0 (hc53.cells hS47) (by kernel_rfl) (by kernel_rfl)) ?_
      refine sx_run 2 (todo' := [.code (cd17 [1, 0, 1, 0, 0, 1, 0, 0, 1, 0, 1]), .inBlock 1, .code (cd17 [1, 0, 1, 0, 0, 1, 1]), .inLoop (cd17 [1, 0, 1, 0, 0]), .inBlock 0, .code (cd17 [1, 1])]) (us := [(4, .int .i64 (gt a0.Values t20))]) (by kernel_rfl) ?_
      have hS54 := hS47.drop
      have hS55 := hS54.drop
      refine runs_ret (fn := Try.f17) (v := .int .i64 (gt a0.Values t20)) Try.func17 (by kernel_rfl) ?_
      have hr56 := (hq30 _ (Option.some.inj hp49))
      cases hr56
      exact hR _ _ ⟨rfl, hS55⟩
     ·skip
      have hp57 := ite_f hp38 h44
      refine Qs.nil ?_
      intro w58 hS59
      refine sx_run 8 (todo' := [.inLoop (cd17 [1, 0, 1, 0, 0]), .inBlock 0, .code (cd17 [1, 1])]) (us := [(18, .int .i64 t20), (19, .int .i64 (IntKind.i64.wrap (t20 + 1))), (5, .int .i64 (IntKind.i64.wrap (t20 + 1)))]) (by kernel_rfl) ?_
      refine sx_run 1 (todo' := [.code (cd17 [1, 0, 1, 0, 0]), .inLoop (cd17 [1, 0, 1, 0, 0]), .inBlock 0, .code (cd17 [1, 1])]) (us := []) (by kernel_rfl) ?_
      refine Runs.fill (m := [none, none, some (.pointer (some ⟨b1, 0, none⟩)), some (.pointer (some ⟨b5, 0, none⟩)), none, some (.int .i64 (IntKind.i64.wrap (t20 + 1))), none, none, none, none, none, none, none, none, none, none, none, none, none, none, none, none, none, none, none, none, none, none, none, none, none, none, none, none]) (by kernel_rfl) ?_
      exact ih27 (IntKind.i64.wrap (t20 + 1)) _ hp57 he25 _ _ hS59
    ·skip
     have hp60 := ite_f hp33 h35
     refine sx_run 4 (todo' := [.code (cd17 [1, 1])]) (us := [(17, .bool false)]) (by kernel_rfl) ?_
     have hS61 := hS22.pick1
     have hS62 := hS61.drop
     refine Runs.fill (m := [none, none, some (.pointer (some ⟨b1, 0, none⟩)), none, none, none, none, none, none, none, none, none, none, none, none, none, none, none, none, none, none, none, none, none, none, none, none, none, none, none, none, none, none, none]) (by kernel_rfl) ?_
     exact J15 ((Option.some.inj hp60).trans he25) _ _ hS62
   ·skip
    have hp63 := ite_f hb26 h32
    refine sx_run 10 (todo' := [.code (cd17 [1, 1])]) (us := [(11, .bool false), (12, undef), (13, undef), (14, undef), (15, undef), (16, undef), (17, .bool false)]) (by kernel_rfl) ?_
    have hS64 := hS22.pick1
    have hS65 := hS64.drop
    refine Runs.fill (m := [none, none, some (.pointer (some ⟨b1, 0, none⟩)), none, none, none, none, none, none, none, none, none, none, none, none, none, none, none, none, none, none, none, none, none, none, none, none, none, none, none, none, none, none, none]) (by kernel_rfl) ?_
    exact J15 ((Option.some.inj hp63).trans he25) _ _ hS65
  have hS66 := hS7.pick1
  refine Runs.fill (m := [none, none, some (.pointer (some ⟨b1, 0, none⟩)), some (.pointer (some ⟨b5, 0, none⟩)), none, some (.int .i64 0), none, none, none, none, none, none, none, none, none, none, none, none, none, none, none, none, none, none, none, none, none, none, none, none, none, none, none, none]) (by kernel_rfl) ?_
  exact L29 0 _ hv10 rfl _ _ hS66

noncomputable def cd16 (p : List Nat) : Code := sub (bodyOf Try.f16) p
def weirlaw06_CondAsks_1.l0 (a0 : api_Ref) (a1v : List api_Ref) (t54 : Bool) (t55 : Int) : Option Bool :=
  (if (decide (t55 < (a1v.length : Int))) = true then (if t54 = true then (weirlaw06_CondAsks_1.l0 a0 a1v true (IntKind.i64.wrap (t55 + 1))) else (if 0 ≤ t55 ∧ t55 < (a1v.length : Int) then (if (decide ((gt a1v t55) = a0)) = true then (weirlaw06_CondAsks_1.l0 a0 a1v true (IntKind.i64.wrap (t55 + 1))) else (weirlaw06_CondAsks_1.l0 a0 a1v false (IntKind.i64.wrap (t55 + 1)))) else none)) else some (t54))
 partial_fixpoint
def weirlaw06_CondAsks_1.f (a0 : api_Ref) (a1v : List api_Ref) (a2v : Bool) (a3v : weirlaw06_Set) : Option (Int × Bool) :=
  (weirlaw06_CondAsks_1.l0 a0 a1v false 0 >>= (fun t8 => (((if a2v = true then some (true) else (if (!t8) = true then some (true) else some (false))) : Option Bool) >>= (fun t17 => (weirlaw06_Set__of.f (⟨a3v.Refs, a3v.Values, a3v.Rest⟩ : weirlaw06_Set) a0 >>= (fun t23 => some ((t23, t17))))))))
set_option maxHeartbeats 16000000 in
theorem weirlaw06_CondAsks_1.ok (a0 : api_Ref) (a1v : List api_Ref) (a2v : Bool) (a3v : weirlaw06_Set) (ba1 : Nat) (Aa1v : Option Addr) (ca1v : Nat) (ba2 : Nat) (ba3 : Nat) (Aa3v_0 : Option Addr) (ca3v_0 : Nat) (Aa3v_1 : Option Addr) (ca3v_1 : Nat) {w0 : World} {Z : Zm} {fs : List XObj} {w : World} (hS0 : St w0 Z (xblk ba1 34 ([.slice Aa1v a1v.length ca1v]) :: xblk ba2 4 ([.bool a2v]) :: xblk ba3 37 ([.slice Aa3v_0 a3v.Refs.length ca3v_0, .slice Aa3v_1 a3v.Values.length ca3v_1, .int .i64 a3v.Rest]) :: fs) w) (ha1v : SlZ (flat enc_api_Ref) 2 Z Aa1v ca1v a1v) (ha3v_0 : SlZ (flat enc_api_Ref) 2 Z Aa3v_0 ca3v_0 a3v.Refs) (ha3v_1 : SlZ (flat (encI .i64)) 1 Z Aa3v_1 ca3v_1 a3v.Values) {q0 : Int} {q1 : Bool} (hp0 : weirlaw06_CondAsks_1.f a0 a1v a2v a3v = some (q0, q1)) :
    Calls Try.prog 16 #[.agg (enc_api_Ref a0).toArray, .pointer (some ⟨ba1, 0, none⟩), .pointer (some ⟨ba2, 0, none⟩), .pointer (some ⟨ba3, 0, none⟩)] w (fun e w' => e = .returned (.int .i64 q0) ∧ St w0 Z (xblk ba1 34 ([.slice Aa1v a1v.length ca1v]) :: xblk ba2 4 ([.bool q1]) :: xblk ba3 37 ([.slice Aa3v_0 a3v.Refs.length ca3v_0, .slice Aa3v_1 a3v.Values.length ca3v_1, .int .i64 a3v.Rest]) :: fs) w') := by
  refine calls_abs ?_; intro R hR
  unfold weirlaw06_CondAsks_1.f at hp0
  refine calls_of_runs (fn := Try.f16) (c := cd16 []) Try.func16 (by kernel_rfl) (al := [.agg (enc_api_Ref a0).toArray, .pointer (some ⟨ba1, 0, none⟩), .pointer (some ⟨ba2, 0, none⟩), .pointer (some ⟨ba3, 0, none⟩)]) rfl (n := 27) rfl ?_
  refine sx_run 2 (todo' := [.inRegion (opsOf (cd16 [0])) [0, 1], .code (cd16 [1])]) (us := []) (by kernel_rfl) ?_
  refine r_box (c := (cd16 [0])) (i := 0) (d := (some 4)) (ty := 0) (x := (.tmp 0)) (v := .agg (enc_api_Ref a0).toArray) (t := 46) (cs := enc_api_Ref a0) hS0 (by kernel_rfl) (by kernel_rfl) (by kernel_rfl) (by kernel_rfl) ?_
  intro b1 w2 hS3
  refine sx_run 13 (todo' := [.code (cd16 [1, 1, 0, 1, 0, 0]), .inLoop (cd16 [1, 1, 0, 1, 0, 0]), .inBlock 0, .code (cd16 [1, 1, 1])]) (us := [(5, .int .i64 0), (6, .bool false), (7, .int .i64 0)]) (by kernel_rfl) ?_
  obtain ⟨v5, hv6, hp7⟩ := bind_some' hp0
  have J11 : ∀ (t8 : Bool) (he13 : t8 = v5) (l12 : List Value) (w9 : World) (hS10 : St w0 Z (xblk ba2 4 ([.bool a2v]) :: xblk ba3 37 ([.slice Aa3v_0 a3v.Refs.length ca3v_0, .slice Aa3v_1 a3v.Values.length ca3v_1, .int .i64 a3v.Rest]) :: xblk b1 46 (enc_api_Ref a0) :: xblk ba1 34 ([.slice Aa1v a1v.length ca1v]) :: fs) w9), Runs Try.prog 16 [.code (cd16 [1, 1, 1])] (fill [none, none, some (.pointer (some ⟨ba2, 0, none⟩)), some (.pointer (some ⟨ba3, 0, none⟩)), some (.pointer (some ⟨b1, 0, none⟩)), none, some (.bool t8), none, none, none, none, none, none, none, none, none, none, none, none, none, none, none, none, none, none, none, none, none, none, none, none] l12) w9 R := by
   intro t8 he13 l12 w9 hS10
   subst he13
   try dsimp only at hp7
   refine sx_run 2 (todo' := [.inRegion (opsOf (cd16 [1, 1, 1, 0])) [0, 1, 2, 3, 4, 5], .code (cd16 [1, 1, 1, 1])]) (us := []) (by kernel_rfl) ?_
   refine r_load (c := (cd16 [1, 1, 1, 0])) (i := 0) (d := (some 23)) (ty := 4) (t := 4) (x := (.tmp 2)) (p := ⟨ba2, 0, none⟩) (v := .bool a2v) (by kernel_rfl) (by kernel_rfl) (by kernel_rfl) (loads_at 0 (hS10.blk 0 rfl) (by kernel_rfl) (by kernel_rfl)) ?_
   refine sx_run 1 (todo' := [.inRegion (opsOf (cd16 [1, 1, 1, 0])) [2, 3, 4, 5], .code (cd16 [1, 1, 1, 1])]) (us := [(24, .bool a2v)]) (by kernel_rfl) ?_
   obtain ⟨v14, hv15, hp16⟩ := bind_some' hp7
   have J20 : ∀ (t17 : Bool) (he22 : t17 = v14) (l21 : List Value) (w18 : World) (hS19 : St w0 Z (xblk ba3 37 ([.slice Aa3v_0 a3v.Refs.length ca3v_0, .slice Aa3v_1 a3v.Values.length ca3v_1, .int .i64 a3v.Rest]) :: xblk b1 46 (enc_api_Ref a0) :: xblk ba1 34 ([.slice Aa1v a1v.length ca1v]) :: xblk ba2 4 ([.bool t17]) :: fs) w18), Runs Try.prog 16 [.code (cd16 [1, 1, 1, 1, 0]), .code (cd16 [1, 1, 1, 1, 1])] (fill [none, none, none, some (.pointer (some ⟨ba3, 0, none⟩)), some (.pointer (some ⟨b1, 0, none⟩)), none, none, none, none, none, none, none, none, none, none, none, none, none, none, none, none, none, none, none, none, none, none, none, none, none, none] l21) w18 R := by
    intro t17 he22 l21 w18 hS19
    subst he22
    try dsimp only at hp16
    refine sx_run 1 (todo' := [.inRegion (opsOf (cd16 [1, 1, 1, 1, 0])) [0, 1, 2, 3], .code (cd16 [1, 1, 1, 1, 1])]) (us := []) (by kernel_rfl) ?_
    refine r_load (c := (cd16 [1, 1, 1, 1, 0])) (i := 0) (d := (some 28)) (ty := 37) (t := 37) (x := (.tmp 3)) (p := ⟨ba3, 0, none⟩) (v := .agg #[.slice Aa3v_0 a3v.Refs.length ca3v_0, .slice Aa3v_1 a3v.Values.length ca3v_1, .int .i64 a3v.Rest]) (by kernel_rfl) (by kernel_rfl) (by kernel_rfl) (loads_agg (hS19.blk 0 rfl) (by kernel_rfl) (by kernel_rfl)) ?_
    refine r_load (c := (cd16 [1, 1, 1, 1, 0])) (i := 1) (d := (some 29)) (ty := 46) (t := 46) (x := (.tmp 4)) (p := ⟨b1, 0, none⟩) (v := .agg (enc_api_Ref a0).toArray) (by kernel_rfl) (by kernel_rfl) (by kernel_rfl) (loads_agg (hS19.blk 1 rfl) (by kernel_rfl) (by kernel_rfl)) ?_
    obtain ⟨t23, hr24, hp25⟩ := bind_some' hp16
    refine r_call1 (c := (cd16 [1, 1, 1, 1, 0])) (i := 2) (d := (some 30)) (g := 17) (args := #[.agg #[.slice Aa3v_0 a3v.Refs.length ca3v_0, .slice Aa3v_1 a3v.Values.length ca3v_1, .int .i64 a3v.Rest], .agg (enc_api_Ref a0).toArray]) (by kernel_rfl) (by kernel_rfl) (by kernel_rfl) (by kernel_rfl) (weirlaw06_Set__of.ok (⟨a3v.Refs, a3v.Values, a3v.Rest⟩ : weirlaw06_Set) a0 Aa3v_0 ca3v_0 Aa3v_1 ca3v_1 hS19 ha3v_0 ha3v_1 hr24) ?_
    rintro _ w26 ⟨rfl, hS27⟩
    refine ⟨.int .i64 t23, rfl, ?_⟩
    refine sx_run 2 (todo' := [.code (cd16 [1, 1, 1, 1, 1])]) (us := [(5, .int .i64 t23)]) (by kernel_rfl) ?_
    have hS28 := hS27.pick1
    have hS29 := hS28.drop
    have hS30 := hS29.pick2
    have hS31 := hS30.pick2
    refine runs_ret (fn := Try.f16) (v := .int .i64 t23) Try.func16 (by kernel_rfl) ?_
    have hr32 := (Option.some.inj hp25)
    cases hr32
    exact hR _ _ ⟨rfl, hS31⟩
   cases a2v
   ·skip
    have hp33 := ite_f hv15 rfl
    refine sx_split 2 (todo' := [.inRegion (opsOf (cd16 [1, 1, 1, 0])) [4, 5], .code (cd16 [1, 1, 1, 1])]) (us := [(25, .bool t8)]) (d := 26) (t := (!t8)) (by kernel_rfl) (fun h34 => ?_) (fun h35 => ?_)
    ·skip
     have hp36 := ite_t hp33 h34
     refine sx_run 1 (todo' := [.inRegion (opsOf (cd16 [1, 1, 1, 0])) [5], .code (cd16 [1, 1, 1, 1])]) (us := [(27, .bool true)]) (by kernel_rfl) ?_
     refine r_store (c := (cd16 [1, 1, 1, 0])) (i := 5) (d := none) (ty := 0) (t := 4) (x := (.tmp 2)) (y := (.tmp 27)) (b := ba2) (o := 0) (e := 4) (cs := [.bool false]) (v := .bool true) (vs := [.bool true]) (cs' := [.bool true]) hS10 (by kernel_rfl) (by kernel_rfl) (by kernel_rfl) (by kernel_rfl) (by kernel_rfl) (by kernel_rfl) (by kernel_rfl) (Nat.le_of_ble_eq_true (by kernel_rfl)) (by kernel_rfl) ?_
     intro w37 hS38
     refine sx_run 2 (todo' := [.code (cd16 [1, 1, 1, 1, 0]), .code (cd16 [1, 1, 1, 1, 1])]) (us := []) (by kernel_rfl) ?_
     have hS39 := hS38.pick3
     have hS40 := hS39.pick3
     have hS41 := hS40.pick3
     refine Runs.fill (m := [none, none, none, some (.pointer (some ⟨ba3, 0, none⟩)), some (.pointer (some ⟨b1, 0, none⟩)), none, none, none, none, none, none, none, none, none, none, none, none, none, none, none, none, none, none, none, none, none, none, none, none, none, none]) (by kernel_rfl) ?_
     exact J20 true (Option.some.inj hp36) _ _ hS41
    ·skip
     have hp42 := ite_f hp33 h35
     refine sx_run 1 (todo' := [.inRegion (opsOf (cd16 [1, 1, 1, 0])) [5], .code (cd16 [1, 1, 1, 1])]) (us := [(27, .bool false)]) (by kernel_rfl) ?_
     refine r_store (c := (cd16 [1, 1, 1, 0])) (i := 5) (d := none) (ty := 0) (t := 4) (x := (.tmp 2)) (y := (.tmp 27)) (b := ba2) (o := 0) (e := 4) (cs := [.bool false]) (v := .bool false) (vs := [.bool false]) (cs' := [.bool false]) hS10 (by kernel_rfl) (by kernel_rfl) (by kernel_rfl) (by kernel_rfl) (by kernel_rfl) (by kernel_rfl) (by kernel_rfl) (Nat.le_of_ble_eq_true (by kernel_rfl)) (by kernel_rfl) ?_
     intro w43 hS44
     refine sx_run 2 (todo' := [.code (cd16 [1, 1, 1, 1, 0]), .code (cd16 [1, 1, 1, 1, 1])]) (us := []) (by kernel_rfl) ?_
     have hS45 := hS44.pick3
     have hS46 := hS45.pick3
     have hS47 := hS46.pick3
     refine Runs.fill (m := [none, none, none, some (.pointer (some ⟨ba3, 0, none⟩)), some (.pointer (some ⟨b1, 0, none⟩)), none, none, none, none, none, none, none, none, none, none, none, none, none, none, none, none, none, none, none, none, none, none, none, none, none, none]) (by kernel_rfl) ?_
     exact J20 false (Option.some.inj hp42) _ _ hS47
   ·skip
    have hp48 := ite_t hv15 rfl
    refine sx_run 3 (todo' := [.inRegion (opsOf (cd16 [1, 1, 1, 0])) [5], .code (cd16 [1, 1, 1, 1])]) (us := [(25, undef), (26, undef), (27, .bool true)]) (by kernel_rfl) ?_
    refine r_store (c := (cd16 [1, 1, 1, 0])) (i := 5) (d := none) (ty := 0) (t := 4) (x := (.tmp 2)) (y := (.tmp 27)) (b := ba2) (o := 0) (e := 4) (cs := [.bool true]) (v := .bool true) (vs := [.bool true]) (cs' := [.bool true]) hS10 (by kernel_rfl) (by kernel_rfl) (by kernel_rfl) (by kernel_rfl) (by kernel_rfl) (by kernel_rfl) (by kernel_rfl) (Nat.le_of_ble_eq_true (by kernel_rfl)) (by kernel_rfl) ?_
    intro w49 hS50
    refine sx_run 2 (todo' := [.code (cd16 [1, 1, 1, 1, 0]), .code (cd16 [1, 1, 1, 1, 1])]) (us := []) (by kernel_rfl) ?_
    have hS51 := hS50.pick3
    have hS52 := hS51.pick3
    have hS53 := hS52.pick3
    refine Runs.fill (m := [none, none, none, some (.pointer (some ⟨ba3, 0, none⟩)), some (.pointer (some ⟨b1, 0, none⟩)), none, none, none, none, none, none, none, none, none, none, none, none, none, none, none, none, none, none, none, none, none, none, none, none, none, none]) (by kernel_rfl) ?_
    exact J20 true (Option.some.inj hp48) _ _ hS53
  have L64 : ∀ (t54 : Bool) (t55 : Int) (e59 : Bool), weirlaw06_CondAsks_1.l0 a0 a1v t54 t55 = some e59 → e59 = v5 → ∀ (l58 : List Value) (w56 : World) (hS57 : St w0 Z (xblk ba1 34 ([.slice Aa1v a1v.length ca1v]) :: xblk ba2 4 ([.bool a2v]) :: xblk ba3 37 ([.slice Aa3v_0 a3v.Refs.length ca3v_0, .slice Aa3v_1 a3v.Values.length ca3v_1, .int .i64 a3v.Rest]) :: xblk b1 46 (enc_api_Ref a0) :: fs) w56), Runs Try.prog 16 [.code (cd16 [1, 1, 0, 1, 0, 0]), .inLoop (cd16 [1, 1, 0, 1, 0, 0]), .inBlock 0, .code (cd16 [1, 1, 1])] (fill [none, some (.pointer (some ⟨ba1, 0, none⟩)), some (.pointer (some ⟨ba2, 0, none⟩)), some (.pointer (some ⟨ba3, 0, none⟩)), some (.pointer (some ⟨b1, 0, none⟩)), none, some (.bool t54), some (.int .i64 t55), none, none, none, none, none, none, none, none, none, none, none, none, none, none, none, none, none, none, none, none, none, none, none] l58) w56 R := by
   refine weirlaw06_CondAsks_1.l0.partial_correctness a0 a1v (fun t54 t55 e59 => e59 = v5 → ∀ (l58 : List Value) (w56 : World) (hS57 : St w0 Z (xblk ba1 34 ([.slice Aa1v a1v.length ca1v]) :: xblk ba2 4 ([.bool a2v]) :: xblk ba3 37 ([.slice Aa3v_0 a3v.Refs.length ca3v_0, .slice Aa3v_1 a3v.Values.length ca3v_1, .int .i64 a3v.Rest]) :: xblk b1 46 (enc_api_Ref a0) :: fs) w56), Runs Try.prog 16 [.code (cd16 [1, 1, 0, 1, 0, 0]), .inLoop (cd16 [1, 1, 0, 1, 0, 0]), .inBlock 0, .code (cd16 [1, 1, 1])] (fill [none, some (.pointer (some ⟨ba1, 0, none⟩)), some (.pointer (some ⟨ba2, 0, none⟩)), some (.pointer (some ⟨ba3, 0, none⟩)), some (.pointer (some ⟨b1, 0, none⟩)), none, some (.bool t54), some (.int .i64 t55), none, none, none, none, none, none, none, none, none, none, none, none, none, none, none, none, none, none, none, none, none, none, none] l58) w56 R) ?_
   intro rec63 ih62 t54 t55 e59 hb61 he60 l58 w56 hS57
   refine sx_run 4 (todo' := [.inRegion (opsOf (cd16 [1, 1, 0, 1, 0, 0, 0, 0])) [1, 2, 3], .code (cd16 [1, 1, 0, 1, 0, 0, 0, 1]), .code (cd16 [1, 1, 0, 1, 0, 0, 1]), .inLoop (cd16 [1, 1, 0, 1, 0, 0]), .inBlock 0, .code (cd16 [1, 1, 1])]) (us := [(8, .int .i64 t55)]) (by kernel_rfl) ?_
   refine r_load (c := (cd16 [1, 1, 0, 1, 0, 0, 0, 0])) (i := 1) (d := (some 9)) (ty := 34) (t := 34) (x := (.tmp 1)) (p := ⟨ba1, 0, none⟩) (v := .slice Aa1v a1v.length ca1v) (by kernel_rfl) (by kernel_rfl) (by kernel_rfl) (loads_at 0 (hS57.blk 0 rfl) (by kernel_rfl) (by kernel_rfl)) ?_
   refine sx_split 2 (todo' := [.inRegion (opsOf (cd16 [1, 1, 0, 1, 0, 0, 0, 0])) [], .code (cd16 [1, 1, 0, 1, 0, 0, 0, 1]), .code (cd16 [1, 1, 0, 1, 0, 0, 1]), .inLoop (cd16 [1, 1, 0, 1, 0, 0]), .inBlock 0, .code (cd16 [1, 1, 1])]) (us := [(10, .int .i64 (a1v.length : Int))]) (d := 11) (t := (decide (t55 < (a1v.length : Int)))) (by kernel_rfl) (fun h65 => ?_) (fun h66 => ?_)
   ·skip
    have hp67 := ite_t hb61 h65
    refine sx_run 5 (todo' := [.code (cd16 [1, 1, 0, 1, 0, 0, 1, 0, 0]), .inBlock 1, .code (cd16 [1, 1, 0, 1, 0, 0, 1, 1]), .inLoop (cd16 [1, 1, 0, 1, 0, 0]), .inBlock 0, .code (cd16 [1, 1, 1])]) (us := []) (by kernel_rfl) ?_
    refine r_quiet hS57 (c := (cd16 [1, 1, 0, 1, 0, 0, 1, 0, 0])) (id := 5) (by kernel_rfl) (by kernel_rfl) (by kernel_rfl) (is := [0, 1, 2, 3, 4, 5, 6, 7, 8, 9]) (by kernel_rfl) ?_
    refine q_run 2 (is' := [2, 3, 4, 5, 6, 7, 8, 9]) (us := [(14, .bool t54), (15, .bool t54)]) (by kernel_rfl) ?_
    cases t54
    ·skip
     have hp68 := ite_f hp67 rfl
     refine q_load (c := (cd16 [1, 1, 0, 1, 0, 0, 1, 0, 0])) (i := 2) (d := (some 16)) (ty := 34) (t := 34) (x := (.tmp 1)) (p := ⟨ba1, 0, none⟩) (v := .slice Aa1v a1v.length ca1v) (by kernel_rfl) (by kernel_rfl) (by kernel_rfl) (fun w hC => (loads_at 0 (hC.blk 0 rfl) (by kernel_rfl) (by kernel_rfl))) ?_
     refine q_run 1 (is' := [4, 5, 6, 7, 8, 9]) (us := [(17, .int .i64 t55)]) (by kernel_rfl) ?_
     obtain ⟨g69, hp70⟩ := ite_some hp68
     obtain ⟨b71, p72, hA73, hc74⟩ := ha1v.atF g69.1 g69.2
     refine q_indexAddr (c := (cd16 [1, 1, 0, 1, 0, 0, 1, 0, 0])) (i := 4) (d := (some 18)) (ty := 0) (t := 34) (e := 46) (n := a1v.length) (cp := ca1v) (sz := 2) (kk := .i64) (x := (.tmp 16)) (y := (.tmp 17)) (b := b71) (o' := p72) (j := t55) (by kernel_rfl) (by kernel_rfl) (slv (by kernel_rfl) hA73) (by kernel_rfl) (by kernel_rfl) (by kernel_rfl) g69.1 g69.2 ?_
     refine q_load (c := (cd16 [1, 1, 0, 1, 0, 0, 1, 0, 0])) (i := 5) (d := (some 19)) (ty := 46) (t := 46) (x := (.tmp 18)) (p := ⟨b71, p72 + t55.toNat * 2, none⟩) (v := .agg (enc_api_Ref (gt a1v t55)).toArray) (by kernel_rfl) (by kernel_rfl) (by kernel_rfl) (fun w hC => (loads_agg (hc74.cells hC) (by kernel_rfl) (by kernel_rfl))) ?_
     refine q_load (c := (cd16 [1, 1, 0, 1, 0, 0, 1, 0, 0])) (i := 6) (d := (some 20)) (ty := 46) (t := 46) (x := (.tmp 4)) (p := ⟨b1, 0, none⟩) (v := .agg (enc_api_Ref a0).toArray) (by kernel_rfl) (by kernel_rfl) (by kernel_rfl) (fun w hC => (loads_agg (hC.blk 3 rfl) (by kernel_rfl) (by kernel_rfl))) ?_
     refine q_val (c := (cd16 [1, 1, 0, 1, 0, 0, 1, 0, 0])) (i := 7) (d := (some 21)) (ty := 4) (op := .binOp .eql 46 (.tmp 19) (.tmp 20) 46) (v := .bool (decide ((gt a1v t55) = a0))) (by kernel_rfl) (by kernel_rfl) (fun w hC o ho _ => x_eql_api_Ref (by kernel_rfl) (by kernel_rfl) ho) ?_
     refine q_split (decide ((gt a1v t55) = a0)) (fun h75 => ?_) (fun h76 => ?_)
     ·skip
      have hp77 := ite_t hp70 h75
      refine q_run 2 (is' := []) (us := [(22, .bool true), (6, .bool true)]) (by kernel_rfl) ?_
      refine Qs.nil ?_
      intro w78 hS79
      refine sx_run 6 (todo' := [.inLoop (cd16 [1, 1, 0, 1, 0, 0]), .inBlock 0, .code (cd16 [1, 1, 1])]) (us := [(12, .int .i64 t55), (13, .int .i64 (IntKind.i64.wrap (t55 + 1))), (7, .int .i64 (IntKind.i64.wrap (t55 + 1)))]) (by kernel_rfl) ?_
      refine sx_run 1 (todo' := [.code (cd16 [1, 1, 0, 1, 0, 0]), .inLoop (cd16 [1, 1, 0, 1, 0, 0]), .inBlock 0, .code (cd16 [1, 1, 1])]) (us := []) (by kernel_rfl) ?_
      refine Runs.fill (m := [none, some (.pointer (some ⟨ba1, 0, none⟩)), some (.pointer (some ⟨ba2, 0, none⟩)), some (.pointer (some ⟨ba3, 0, none⟩)), some (.pointer (some ⟨b1, 0, none⟩)), none, some (.bool true), some (.int .i64 (IntKind.i64.wrap (t55 + 1))), none, none, none, none, none, none, none, none, none, none, none, none, none, none, none, none, none, none, none, none, none, none, none]) (by kernel_rfl) ?_
      exact ih62 true (IntKind.i64.wrap (t55 + 1)) _ hp77 he60 _ _ hS79
     ·skip
      have hp80 := ite_f hp70 h76
      refine q_run 2 (is' := []) (us := [(22, .bool false), (6, .bool false)]) (by kernel_rfl) ?_
      refine Qs.nil ?_
      intro w81 hS82
      refine sx_run 6 (todo' := [.inLoop (cd16 [1, 1, 0, 1, 0, 0]), .inBlock 0, .code (cd16 [1, 1, 1])]) (us := [(12, .int .i64 t55), (13, .int .i64 (IntKind.i64.wrap (t55 + 1))), (7, .int .i64 (IntKind.i64.wrap (t55 + 1)))]) (by kernel_rfl) ?_
      refine sx_run 1 (todo' := [.code (cd16 [1, 1, 0, 1, 0, 0]), .inLoop (cd16 [1, 1, 0, 1, 0, 0]), .inBlock 0, .code (cd16 [1, 1, 1])]) (us := []) (by kernel_rfl) ?_
      refine Runs.fill (m := [none, some (.pointer (some ⟨ba1, 0, none⟩)), some (.pointer (some ⟨ba2, 0, none⟩)), some (.pointer (some ⟨ba3, 0, none⟩)), some (.pointer (some ⟨b1, 0, none⟩)), none, some (.bool false), some (.int .i64 (IntKind.i64.wrap (t55 + 1))), none, none, none, none, none, none, none, none, none, none, none, none, none, none, none, none, none, none, none, none, none, none, none]) (by kernel_rfl) ?_
      exact ih62 false (IntKind.i64.wrap (t55 + 1)) _ hp80 he60 _ _ hS82
    ·skip
     have hp83 := ite_t hp67 rfl
     refine q_run 8 (is' := []) (us := [(16, undef), (17, undef), (18, undef), (19, undef), (20, undef), (21, undef), (22, .bool true), (6, .bool true)]) (by kernel_rfl) ?_
     refine Qs.nil ?_
     intro w84 hS85
     refine sx_run 6 (todo' := [.inLoop (cd16 [1, 1, 0, 1, 0, 0]), .inBlock 0, .code (cd16 [1, 1, 1])]) (us := [(12, .int .i64 t55), (13, .int .i64 (IntKind.i64.wrap (t55 + 1))), (7, .int .i64 (IntKind.i64.wrap (t55 + 1)))]) (by kernel_rfl) ?_
     refine sx_run 1 (todo' := [.code (cd16 [1, 1, 0, 1, 0, 0]), .inLoop (cd16 [1, 1, 0, 1, 0, 0]), .inBlock 0, .code (cd16 [1, 1, 1])]) (us := []) (by kernel_rfl) ?_
     refine Runs.fill (m := [none, some (.pointer (some ⟨ba1, 0, none⟩)), some (.pointer (some ⟨ba2, 0, none⟩)), some (.pointer (some ⟨ba3, 0, none⟩)), some (.pointer (some ⟨b1, 0, none⟩)), none, some (.bool true), some (.int .i64 (IntKind.i64.wrap (t55 + 1))), none, none, none, none, none, none, none, none, none, none, none, none, none, none, none, none, none, none, none, none, none, none, none]) (by kernel_rfl) ?_
     exact ih62 true (IntKind.i64.wrap (t55 + 1)) _ hp83 he60 _ _ hS85
   ·skip
    have hp86 := ite_f hb61 h66
    refine sx_run 3 (todo' := [.code (cd16 [1, 1, 1])]) (us := []) (by kernel_rfl) ?_
    have hS87 := hS57.pick3
    have hS88 := hS87.pick3
    have hS89 := hS88.pick3
    refine Runs.fill (m := [none, none, some (.pointer (some ⟨ba2, 0, none⟩)), some (.pointer (some ⟨ba3, 0, none⟩)), some (.pointer (some ⟨b1, 0, none⟩)), none, some (.bool t54), none, none, none, none, none, none, none, none, none, none, none, none, none, none, none, none, none, none, none, none, none, none, none, none]) (by kernel_rfl) ?_
    exact J11 t54 ((Option.some.inj hp86).trans he60) _ _ hS89
  have hS90 := hS3.pick3
  have hS91 := hS90.pick3
  have hS92 := hS91.pick3
  refine Runs.fill (m := [none, some (.pointer (some ⟨ba1, 0, none⟩)), some (.pointer (some ⟨ba2, 0, none⟩)), some (.pointer (some ⟨ba3, 0, none⟩)), some (.pointer (some ⟨b1, 0, none⟩)), none, some (.bool false), some (.int .i64 0), none, none, none, none, none, none, none, none, none, none, none, none, none, none, none, none, none, none, none, none, none, none, none]) (by kernel_rfl) ?_
  exact L64 false 0 _ hv6 rfl _ _ hS92

end
end Go.Proofs.Ythkpeoiphkndiaa.K
