/- The walk, part 3: each Go function as a plain Lean function, and that its call answers as that function says. No condition. -/
import Derived.Test.YthkpeoiphkndiaaE
import Derived.Test.YthkpeoiphkndiaaNG
import Derived.Test.YthkpeoiphkndiaaF2
set_option linter.unusedVariables false
set_option linter.unusedSimpArgs false
set_option maxRecDepth 100000
namespace Go.Proofs.Ythkpeoiphkndiaa.K
open Go Go.RowKit
noncomputable section
noncomputable def cd32 (p : List Nat) : Code := sub (bodyOf Try.f32) p
def weirref06_Deep.body (rec_weirref06_Deep : (List api_Node) → Int → Option Int) (a0 : List api_Node) (a1 : Int) : Option Int :=
  (if 0 ≤ a1 ∧ a1 < (a0.length : Int) then (((if (((gt a0 a1).Op) == 3) = true then (rec_weirref06_Deep a0 ((gt a0 a1).A) >>= (fun t86 => (if 0 ≤ ((gt a0 a1).A) ∧ ((gt a0 a1).A) < (a0.length : Int) then (weirref06_bracketed.f ((gt a0 a1).Op) ((gt a0 ((gt a0 a1).A)).Op) false >>= (fun t97 => (if t97 = true then some ((IntKind.i64.wrap (t86 + 1))) else some (t86)))) else none))) else (if (((gt a0 a1).Op) == 4) = true then (rec_weirref06_Deep a0 ((gt a0 a1).A) >>= (fun t108 => (if 0 ≤ ((gt a0 a1).A) ∧ ((gt a0 a1).A) < (a0.length : Int) then (weirref06_bracketed.f ((gt a0 a1).Op) ((gt a0 ((gt a0 a1).A)).Op) false >>= (fun t119 => (if t119 = true then some ((IntKind.i64.wrap (t108 + 1))) else some (t108)))) else none))) else (if (((gt a0 a1).Op) == 5) = true then (rec_weirref06_Deep a0 ((gt a0 a1).A) >>= (fun t130 => (if 0 ≤ ((gt a0 a1).A) ∧ ((gt a0 a1).A) < (a0.length : Int) then (weirref06_bracketed.f ((gt a0 a1).Op) ((gt a0 ((gt a0 a1).A)).Op) false >>= (fun t141 => (if t141 = true then some ((IntKind.i64.wrap (t130 + 1))) else some (t130)))) else none))) else some (0)))) : Option Int) >>= (fun t16 => (((if (((gt a0 a1).Op) == 4) = true then (rec_weirref06_Deep a0 ((gt a0 a1).B) >>= (fun t42 => (if 0 ≤ ((gt a0 a1).B) ∧ ((gt a0 a1).B) < (a0.length : Int) then (weirref06_bracketed.f ((gt a0 a1).Op) ((gt a0 ((gt a0 a1).B)).Op) true >>= (fun t53 => (if t53 = true then some ((IntKind.i64.wrap (t42 + 1))) else some (t42)))) else none))) else (if (((gt a0 a1).Op) == 5) = true then (rec_weirref06_Deep a0 ((gt a0 a1).B) >>= (fun t64 => (if 0 ≤ ((gt a0 a1).B) ∧ ((gt a0 a1).B) < (a0.length : Int) then (weirref06_bracketed.f ((gt a0 a1).Op) ((gt a0 ((gt a0 a1).B)).Op) true >>= (fun t75 => (if t75 = true then some ((IntKind.i64.wrap (t64 + 1))) else some (t64)))) else none))) else some (0))) : Option Int) >>= (fun t25 => (if (((gt a0 a1).Op) == 3) = true then some ((IntKind.i64.wrap (t16 + 1))) else some ((bmax t16 t25))))))) else none)
set_option maxHeartbeats 16000000 in
theorem weirref06_Deep.bok (rec_weirref06_Deep : (List api_Node) → Int → Option Int) (hrec_weirref06_Deep : weirref06_Deep.Spec rec_weirref06_Deep) : weirref06_Deep.Spec (weirref06_Deep.body rec_weirref06_Deep) := by
  intro a0 a1 Aa0 ca0 w0 Z fs w hS0 ha0 q0 hp0
  refine calls_abs ?_; intro R hR
  unfold weirref06_Deep.body at hp0
  refine calls_of_runs (fn := Try.f32) (c := cd32 []) Try.func32 (by kernel_rfl) (al := [.slice Aa0 a0.length ca0, .int .i64 a1]) rfl (n := 69) rfl ?_
  refine sx_run 8 (todo' := [.inRegion (opsOf (cd32 [1, 0])) [2, 3, 4, 5], .code (cd32 [1, 1])]) (us := [(4, .int .i64 0), (8, .slice Aa0 a0.length ca0), (9, .int .i64 a1)]) (by kernel_rfl) ?_
  obtain ⟨g1, hp2⟩ := ite_some hp0
  obtain ⟨b3, p4, hA5, hc6⟩ := ha0.atF g1.1 g1.2
  refine r_indexAddr (c := (cd32 [1, 0])) (i := 2) (d := (some 10)) (ty := 0) (t := 23) (e := 52) (n := a0.length) (cp := ca0) (sz := 6) (kk := .i64) (x := (.tmp 8)) (y := (.tmp 9)) (b := b3) (o' := p4) (j := a1) (by kernel_rfl) (by kernel_rfl) (slv (by kernel_rfl) hA5) (by kernel_rfl) (by kernel_rfl) (by kernel_rfl) g1.1 g1.2 ?_
  refine r_load (c := (cd32 [1, 0])) (i := 3) (d := (some 11)) (ty := 52) (t := 52) (x := (.tmp 10)) (p := ⟨b3, p4 + a1.toNat * 6, none⟩) (v := .agg (enc_api_Node (gt a0 a1)).toArray) (by kernel_rfl) (by kernel_rfl) (by kernel_rfl) (loads_agg (hc6.cells hS0) (by kernel_rfl) (by kernel_rfl)) ?_
  refine r_alloc (c := (cd32 [1, 0])) (i := 4) (d := (some 5)) (ty := 0) (z := .agg (enc_api_Node (⟨0, 0, 0, ⟨0, (⟨#[]⟩ : ByteArray)⟩, 0⟩ : api_Node)).toArray) (t := 52) (cs := enc_api_Node (⟨0, 0, 0, ⟨0, (⟨#[]⟩ : ByteArray)⟩, 0⟩ : api_Node)) hS0 (by kernel_rfl) (by kernel_rfl) (by kernel_rfl) (by kernel_rfl) ?_
  intro b7 w8 hS9
  refine r_store (c := (cd32 [1, 0])) (i := 5) (d := none) (ty := 0) (t := 52) (x := (.tmp 5)) (y := (.tmp 11)) (b := b7) (o := 0) (e := 52) (cs := enc_api_Node (⟨0, 0, 0, ⟨0, (⟨#[]⟩ : ByteArray)⟩, 0⟩ : api_Node)) (v := .agg (enc_api_Node (gt a0 a1)).toArray) (vs := enc_api_Node (gt a0 a1)) (cs' := enc_api_Node (gt a0 a1)) hS9 (by kernel_rfl) (by kernel_rfl) (by kernel_rfl) (by kernel_rfl) (by kernel_rfl) (by kernel_rfl) (one_api_Node _) (Nat.le_of_ble_eq_true (by kernel_rfl)) (by kernel_rfl) ?_
  intro w11 hS12
  refine sx_run 13 (todo' := [.inRegion (opsOf (cd32 [1, 1, 1, 1, 0, 0])) [1, 2, 3, 4, 5, 6, 7, 8, 9, 10, 11, 12], .code (cd32 [1, 1, 1, 1, 0, 1]), .code (cd32 [1, 1, 1, 1, 1])]) (us := [(6, .int .i64 0), (7, .int .i64 0), (12, .pointer (some ⟨b7, 0, none⟩))]) (by kernel_rfl) ?_
  refine r_load (c := (cd32 [1, 1, 1, 1, 0, 0])) (i := 1) (d := (some 13)) (ty := 3) (t := 3) (x := (.tmp 12)) (p := ⟨b7, 0, none⟩) (v := .int .i64 ((gt a0 a1).Op)) (by kernel_rfl) (by kernel_rfl) (by kernel_rfl) (loads_at 0 (hS12.blk 0 rfl) (by kernel_rfl) (by kernel_rfl)) ?_
  obtain ⟨v13, hv14, hp15⟩ := bind_some' hp2
  have J19 : ∀ (t16 : Int) (he21 : t16 = v13) (l20 : List Value) (w17 : World) (hS18 : St w0 Z (xblk b7 52 (enc_api_Node (gt a0 a1)) :: fs) w17), Runs Try.prog 32 [.code (cd32 [1, 1, 1, 1, 1])] (fill [some (.slice Aa0 a0.length ca0), none, none, none, none, some (.pointer (some ⟨b7, 0, none⟩)), some (.int .i64 t16), some (.int .i64 0), none, none, none, none, none, none, none, none, none, none, none, none, none, none, none, none, none, none, none, none, none, none, none, none, none, none, none, none, none, none, none, none, none, none, none, none, none, none, none, none, none, none, none, none, none, none, none, none, none, none, none, none, none, none, none, none, none, none, none, none, none, none, none] l20) w17 R := by
   intro t16 he21 l20 w17 hS18
   subst he21
   try dsimp only at hp15
   refine sx_run 4 (todo' := [.inRegion (opsOf (cd32 [1, 1, 1, 1, 1, 0, 0])) [1, 2, 3, 4, 5, 6, 7], .code (cd32 [1, 1, 1, 1, 1, 0, 1]), .code (cd32 [1, 1, 1, 1, 1, 1])]) (us := [(40, .pointer (some ⟨b7, 0, none⟩))]) (by kernel_rfl) ?_
   refine r_load (c := (cd32 [1, 1, 1, 1, 1, 0, 0])) (i := 1) (d := (some 41)) (ty := 3) (t := 3) (x := (.tmp 40)) (p := ⟨b7, 0, none⟩) (v := .int .i64 ((gt a0 a1).Op)) (by kernel_rfl) (by kernel_rfl) (by kernel_rfl) (loads_at 0 (hS18.blk 0 rfl) (by kernel_rfl) (by kernel_rfl)) ?_
   obtain ⟨v22, hv23, hp24⟩ := bind_some' hp15
   have J28 : ∀ (t25 : Int) (he30 : t25 = v22) (l29 : List Value) (w26 : World) (hS27 : St w0 Z (xblk b7 52 (enc_api_Node (gt a0 a1)) :: fs) w26), Runs Try.prog 32 [.code (cd32 [1, 1, 1, 1, 1, 1])] (fill [none, none, none, none, none, some (.pointer (some ⟨b7, 0, none⟩)), some (.int .i64 t16), some (.int .i64 t25), none, none, none, none, none, none, none, none, none, none, none, none, none, none, none, none, none, none, none, none, none, none, none, none, none, none, none, none, none, none, none, none, none, none, none, none, none, none, none, none, none, none, none, none, none, none, none, none, none, none, none, none, none, none, none, none, none, none, none, none, none, none, none] l29) w26 R := by
    intro t25 he30 l29 w26 hS27
    subst he30
    try dsimp only at hp24
    refine sx_run 4 (todo' := [.inRegion (opsOf (cd32 [1, 1, 1, 1, 1, 1, 0, 0])) [1, 2], .code (cd32 [1, 1, 1, 1, 1, 1, 0, 1]), .code (cd32 [1, 1, 1, 1, 1, 1, 1])]) (us := [(63, .pointer (some ⟨b7, 0, none⟩))]) (by kernel_rfl) ?_
    refine r_load (c := (cd32 [1, 1, 1, 1, 1, 1, 0, 0])) (i := 1) (d := (some 64)) (ty := 3) (t := 3) (x := (.tmp 63)) (p := ⟨b7, 0, none⟩) (v := .int .i64 ((gt a0 a1).Op)) (by kernel_rfl) (by kernel_rfl) (by kernel_rfl) (loads_at 0 (hS27.blk 0 rfl) (by kernel_rfl) (by kernel_rfl)) ?_
    refine sx_split 1 (todo' := [.inRegion (opsOf (cd32 [1, 1, 1, 1, 1, 1, 0, 0])) [], .code (cd32 [1, 1, 1, 1, 1, 1, 0, 1]), .code (cd32 [1, 1, 1, 1, 1, 1, 1])]) (us := []) (d := 65) (t := (((gt a0 a1).Op) == 3)) (by kernel_rfl) (fun h31 => ?_) (fun h32 => ?_)
    ·skip
     have hp33 := ite_t hp24 h31
     refine sx_run 8 (todo' := [.code (cd32 [1, 1, 1, 1, 1, 1, 0, 1, 0, 1]), .code (cd32 [1, 1, 1, 1, 1, 1, 1])]) (us := [(66, .int .i64 t16), (67, .int .i64 (IntKind.i64.wrap (t16 + 1))), (4, .int .i64 (IntKind.i64.wrap (t16 + 1)))]) (by kernel_rfl) ?_
     have hS34 := hS27.drop
     refine runs_ret (fn := Try.f32) (v := .int .i64 (IntKind.i64.wrap (t16 + 1))) Try.func32 (by kernel_rfl) ?_
     have hr35 := (Option.some.inj hp33)
     cases hr35
     exact hR _ _ ⟨rfl, hS34⟩
    ·skip
     have hp36 := ite_f hp24 h32
     refine sx_run 10 (todo' := [.code (cd32 [1, 1, 1, 1, 1, 1, 1, 1])]) (us := [(68, .int .i64 t16), (69, .int .i64 t25), (70, .int .i64 (bmax t16 t25)), (4, .int .i64 (bmax t16 t25))]) (by kernel_rfl) ?_
     have hS37 := hS27.drop
     refine runs_ret (fn := Try.f32) (v := .int .i64 (bmax t16 t25)) Try.func32 (by kernel_rfl) ?_
     have hr38 := (Option.some.inj hp36)
     cases hr38
     exact hR _ _ ⟨rfl, hS37⟩
   refine sx_split 1 (todo' := [.inRegion (opsOf (cd32 [1, 1, 1, 1, 1, 0, 0])) [3, 4, 5, 6, 7], .code (cd32 [1, 1, 1, 1, 1, 0, 1]), .code (cd32 [1, 1, 1, 1, 1, 1])]) (us := []) (d := 42) (t := (((gt a0 a1).Op) == 4)) (by kernel_rfl) (fun h39 => ?_) (fun h40 => ?_)
   ·skip
    have hp41 := ite_t hv23 h39
    refine sx_run 11 (todo' := [.inRegion (opsOf (cd32 [1, 1, 1, 1, 1, 0, 1, 0, 0])) [2, 3, 4], .code (cd32 [1, 1, 1, 1, 1, 0, 1, 0, 1]), .code (cd32 [1, 1, 1, 1, 1, 1])]) (us := [(43, .bool true), (44, undef), (45, undef), (46, undef), (47, .bool true), (48, .slice Aa0 a0.length ca0), (49, .pointer (some ⟨b7, 2, none⟩))]) (by kernel_rfl) ?_
    refine r_load (c := (cd32 [1, 1, 1, 1, 1, 0, 1, 0, 0])) (i := 2) (d := (some 50)) (ty := 3) (t := 3) (x := (.tmp 49)) (p := ⟨b7, 2, none⟩) (v := .int .i64 ((gt a0 a1).B)) (by kernel_rfl) (by kernel_rfl) (by kernel_rfl) (loads_at 2 (hS18.blk 0 rfl) (by kernel_rfl) (by kernel_rfl)) ?_
    obtain ⟨t42, hr43, hp44⟩ := bind_some' hp41
    refine r_call1 (c := (cd32 [1, 1, 1, 1, 1, 0, 1, 0, 0])) (i := 3) (d := (some 51)) (g := 32) (args := #[.slice Aa0 a0.length ca0, .int .i64 ((gt a0 a1).B)]) (by kernel_rfl) (by kernel_rfl) (by kernel_rfl) (by kernel_rfl) (hrec_weirref06_Deep a0 ((gt a0 a1).B) Aa0 ca0 hS18 ha0 hr43) ?_
    rintro _ w45 ⟨rfl, hS46⟩
    refine ⟨.int .i64 t42, rfl, ?_⟩
    refine sx_run 3 (todo' := [.code (cd32 [1, 1, 1, 1, 1, 0, 1, 0, 1, 0]), .code (cd32 [1, 1, 1, 1, 1, 0, 1, 0, 1, 1]), .code (cd32 [1, 1, 1, 1, 1, 1])]) (us := [(7, .int .i64 t42)]) (by kernel_rfl) ?_
    refine r_quiet hS46 (c := (cd32 [1, 1, 1, 1, 1, 0, 1, 0, 1, 0])) (id := 10) (by kernel_rfl) (by kernel_rfl) (by kernel_rfl) (is := [0, 1, 2, 3, 4, 5, 6, 7, 8]) (by kernel_rfl) ?_
    refine q_run 1 (is' := [1, 2, 3, 4, 5, 6, 7, 8]) (us := [(52, .pointer (some ⟨b7, 0, none⟩))]) (by kernel_rfl) ?_
    refine q_load (c := (cd32 [1, 1, 1, 1, 1, 0, 1, 0, 1, 0])) (i := 1) (d := (some 53)) (ty := 3) (t := 3) (x := (.tmp 52)) (p := ⟨b7, 0, none⟩) (v := .int .i64 ((gt a0 a1).Op)) (by kernel_rfl) (by kernel_rfl) (by kernel_rfl) (fun w hC => (loads_at 0 (hC.blk 0 rfl) (by kernel_rfl) (by kernel_rfl))) ?_
    refine q_run 2 (is' := [4, 5, 6, 7, 8]) (us := [(54, .slice Aa0 a0.length ca0), (55, .pointer (some ⟨b7, 2, none⟩))]) (by kernel_rfl) ?_
    refine q_load (c := (cd32 [1, 1, 1, 1, 1, 0, 1, 0, 1, 0])) (i := 4) (d := (some 56)) (ty := 3) (t := 3) (x := (.tmp 55)) (p := ⟨b7, 2, none⟩) (v := .int .i64 ((gt a0 a1).B)) (by kernel_rfl) (by kernel_rfl) (by kernel_rfl) (fun w hC => (loads_at 2 (hC.blk 0 rfl) (by kernel_rfl) (by kernel_rfl))) ?_
    obtain ⟨g47, hp48⟩ := ite_some hp44
    obtain ⟨b49, p50, hA51, hc52⟩ := ha0.atF g47.1 g47.2
    refine q_indexAddr (c := (cd32 [1, 1, 1, 1, 1, 0, 1, 0, 1, 0])) (i := 5) (d := (some 57)) (ty := 0) (t := 23) (e := 52) (n := a0.length) (cp := ca0) (sz := 6) (kk := .i64) (x := (.tmp 54)) (y := (.tmp 56)) (b := b49) (o' := p50) (j := (gt a0 a1).B) (by kernel_rfl) (by kernel_rfl) (slv (by kernel_rfl) hA51) (by kernel_rfl) (by kernel_rfl) (by kernel_rfl) g47.1 g47.2 ?_
    refine q_run 1 (is' := [7, 8]) (us := [(58, .pointer (some ⟨b49, p50 + ((gt a0 a1).B).toNat * 6, none⟩))]) (by kernel_rfl) ?_
    refine q_load (c := (cd32 [1, 1, 1, 1, 1, 0, 1, 0, 1, 0])) (i := 7) (d := (some 59)) (ty := 3) (t := 3) (x := (.tmp 58)) (p := ⟨b49, p50 + ((gt a0 a1).B).toNat * 6, none⟩) (v := .int .i64 ((gt a0 ((gt a0 a1).B)).Op)) (by kernel_rfl) (by kernel_rfl) (by kernel_rfl) (fun w hC => (loads_at 0 (hc52.cells hC) (by kernel_rfl) (by kernel_rfl))) ?_
    obtain ⟨t53, hr54, hp55⟩ := bind_some' hp48
    refine q_call1 (c := (cd32 [1, 1, 1, 1, 1, 0, 1, 0, 1, 0])) (i := 8) (d := (some 60)) (v := .bool t53) (g := 40) (args := #[.int .i64 ((gt a0 a1).Op), .int .i64 ((gt a0 ((gt a0 a1).B)).Op), .bool true]) (by kernel_rfl) (by kernel_rfl) (by kernel_rfl) (by kernel_rfl) (fun w hC => by
     refine (weirref06_bracketed.ok ((gt a0 a1).Op) ((gt a0 ((gt a0 a1).B)).Op) true hC hr54).mono ?_
     rintro e w2 ⟨rfl, h2⟩
     exact ⟨rfl, h2⟩) ?_
    refine Qs.nil ?_
    intro w56 hS57
    cases t53
    ·skip
     have hp58 := ite_f hp55 rfl
     refine sx_run 2 (todo' := [.code (cd32 [1, 1, 1, 1, 1, 1])]) (us := []) (by kernel_rfl) ?_
     refine Runs.fill (m := [none, none, none, none, none, some (.pointer (some ⟨b7, 0, none⟩)), some (.int .i64 t16), some (.int .i64 t42), none, none, none, none, none, none, none, none, none, none, none, none, none, none, none, none, none, none, none, none, none, none, none, none, none, none, none, none, none, none, none, none, none, none, none, none, none, none, none, none, none, none, none, none, none, none, none, none, none, none, none, none, none, none, none, none, none, none, none, none, none, none, none]) (by kernel_rfl) ?_
     exact J28 t42 (Option.some.inj hp58) _ _ hS57
    ·skip
     have hp59 := ite_t hp55 rfl
     refine sx_run 6 (todo' := [.code (cd32 [1, 1, 1, 1, 1, 1])]) (us := [(61, .int .i64 t42), (62, .int .i64 (IntKind.i64.wrap (t42 + 1))), (7, .int .i64 (IntKind.i64.wrap (t42 + 1)))]) (by kernel_rfl) ?_
     refine Runs.fill (m := [none, none, none, none, none, some (.pointer (some ⟨b7, 0, none⟩)), some (.int .i64 t16), some (.int .i64 (IntKind.i64.wrap (t42 + 1))), none, none, none, none, none, none, none, none, none, none, none, none, none, none, none, none, none, none, none, none, none, none, none, none, none, none, none, none, none, none, none, none, none, none, none, none, none, none, none, none, none, none, none, none, none, none, none, none, none, none, none, none, none, none, none, none, none, none, none, none, none, none, none]) (by kernel_rfl) ?_
     exact J28 (IntKind.i64.wrap (t42 + 1)) (Option.some.inj hp59) _ _ hS57
   ·skip
    have hp60 := ite_f hv23 h40
    refine sx_run 2 (todo' := [.inRegion (opsOf (cd32 [1, 1, 1, 1, 1, 0, 0])) [5, 6, 7], .code (cd32 [1, 1, 1, 1, 1, 0, 1]), .code (cd32 [1, 1, 1, 1, 1, 1])]) (us := [(43, .bool false), (44, .pointer (some ⟨b7, 0, none⟩))]) (by kernel_rfl) ?_
    refine r_load (c := (cd32 [1, 1, 1, 1, 1, 0, 0])) (i := 5) (d := (some 45)) (ty := 3) (t := 3) (x := (.tmp 44)) (p := ⟨b7, 0, none⟩) (v := .int .i64 ((gt a0 a1).Op)) (by kernel_rfl) (by kernel_rfl) (by kernel_rfl) (loads_at 0 (hS18.blk 0 rfl) (by kernel_rfl) (by kernel_rfl)) ?_
    refine sx_split 1 (todo' := [.inRegion (opsOf (cd32 [1, 1, 1, 1, 1, 0, 0])) [7], .code (cd32 [1, 1, 1, 1, 1, 0, 1]), .code (cd32 [1, 1, 1, 1, 1, 1])]) (us := []) (d := 46) (t := (((gt a0 a1).Op) == 5)) (by kernel_rfl) (fun h61 => ?_) (fun h62 => ?_)
    ·skip
     have hp63 := ite_t hp60 h61
     refine sx_run 7 (todo' := [.inRegion (opsOf (cd32 [1, 1, 1, 1, 1, 0, 1, 0, 0])) [2, 3, 4], .code (cd32 [1, 1, 1, 1, 1, 0, 1, 0, 1]), .code (cd32 [1, 1, 1, 1, 1, 1])]) (us := [(47, .bool true), (48, .slice Aa0 a0.length ca0), (49, .pointer (some ⟨b7, 2, none⟩))]) (by kernel_rfl) ?_
     refine r_load (c := (cd32 [1, 1, 1, 1, 1, 0, 1, 0, 0])) (i := 2) (d := (some 50)) (ty := 3) (t := 3) (x := (.tmp 49)) (p := ⟨b7, 2, none⟩) (v := .int .i64 ((gt a0 a1).B)) (by kernel_rfl) (by kernel_rfl) (by kernel_rfl) (loads_at 2 (hS18.blk 0 rfl) (by kernel_rfl) (by kernel_rfl)) ?_
     obtain ⟨t64, hr65, hp66⟩ := bind_some' hp63
     refine r_call1 (c := (cd32 [1, 1, 1, 1, 1, 0, 1, 0, 0])) (i := 3) (d := (some 51)) (g := 32) (args := #[.slice Aa0 a0.length ca0, .int .i64 ((gt a0 a1).B)]) (by kernel_rfl) (by kernel_rfl) (by kernel_rfl) (by kernel_rfl) (hrec_weirref06_Deep a0 ((gt a0 a1).B) Aa0 ca0 hS18 ha0 hr65) ?_
     rintro _ w67 ⟨rfl, hS68⟩
     refine ⟨.int .i64 t64, rfl, ?_⟩
     refine sx_run 3 (todo' := [.code (cd32 [1, 1, 1, 1, 1, 0, 1, 0, 1, 0]), .code (cd32 [1, 1, 1, 1, 1, 0, 1, 0, 1, 1]), .code (cd32 [1, 1, 1, 1, 1, 1])]) (us := [(7, .int .i64 t64)]) (by kernel_rfl) ?_
     refine r_quiet hS68 (c := (cd32 [1, 1, 1, 1, 1, 0, 1, 0, 1, 0])) (id := 10) (by kernel_rfl) (by kernel_rfl) (by kernel_rfl) (is := [0, 1, 2, 3, 4, 5, 6, 7, 8]) (by kernel_rfl) ?_
     refine q_run 1 (is' := [1, 2, 3, 4, 5, 6, 7, 8]) (us := [(52, .pointer (some ⟨b7, 0, none⟩))]) (by kernel_rfl) ?_
     refine q_load (c := (cd32 [1, 1, 1, 1, 1, 0, 1, 0, 1, 0])) (i := 1) (d := (some 53)) (ty := 3) (t := 3) (x := (.tmp 52)) (p := ⟨b7, 0, none⟩) (v := .int .i64 ((gt a0 a1).Op)) (by kernel_rfl) (by kernel_rfl) (by kernel_rfl) (fun w hC => (loads_at 0 (hC.blk 0 rfl) (by kernel_rfl) (by kernel_rfl))) ?_
     refine q_run 2 (is' := [4, 5, 6, 7, 8]) (us := [(54, .slice Aa0 a0.length ca0), (55, .pointer (some ⟨b7, 2, none⟩))]) (by kernel_rfl) ?_
     refine q_load (c := (cd32 [1, 1, 1, 1, 1, 0, 1, 0, 1, 0])) (i := 4) (d := (some 56)) (ty := 3) (t := 3) (x := (.tmp 55)) (p := ⟨b7, 2, none⟩) (v := .int .i64 ((gt a0 a1).B)) (by kernel_rfl) (by kernel_rfl) (by kernel_rfl) (fun w hC => (loads_at 2 (hC.blk 0 rfl) (by kernel_rfl) (by kernel_rfl))) ?_
     obtain ⟨g69, hp70⟩ := ite_some hp66
     obtain ⟨b71, p72, hA73, hc74⟩ := ha0.atF g69.1 g69.2
     refine q_indexAddr (c := (cd32 [1, 1, 1, 1, 1, 0, 1, 0, 1, 0])) (i := 5) (d := (some 57)) (ty := 0) (t := 23) (e := 52) (n := a0.length) (cp := ca0) (sz := 6) (kk := .i64) (x := (.tmp 54)) (y := (.tmp 56)) (b := b71) (o' := p72) (j := (gt a0 a1).B) (by kernel_rfl) (by kernel_rfl) (slv (by kernel_rfl) hA73) (by kernel_rfl) (by kernel_rfl) (by kernel_rfl) g69.1 g69.2 ?_
     refine q_run 1 (is' := [7, 8]) (us := [(58, .pointer (some ⟨b71, p72 + ((gt a0 a1).B).toNat * 6, none⟩))]) (by kernel_rfl) ?_
     refine q_load (c := (cd32 [1, 1, 1, 1, 1, 0, 1, 0, 1, 0])) (i := 7) (d := (some 59)) (ty := 3) (t := 3) (x := (.tmp 58)) (p := ⟨b71, p72 + ((gt a0 a1).B).toNat * 6, none⟩) (v := .int .i64 ((gt a0 ((gt a0 a1).B)).Op)) (by kernel_rfl) (by kernel_rfl) (by kernel_rfl) (fun w hC => (loads_at 0 (hc74.cells hC) (by kernel_rfl) (by kernel_rfl))) ?_
     obtain ⟨t75, hr76, hp77⟩ := bind_some' hp70
     refine q_call1 (c := (cd32 [1, 1, 1, 1, 1, 0, 1, 0, 1, 0])) (i := 8) (d := (some 60)) (v := .bool t75) (g := 40) (args := #[.int .i64 ((gt a0 a1).Op), .int .i64 ((gt a0 ((gt a0 a1).B)).Op), .bool true]) (by kernel_rfl) (by kernel_rfl) (by kernel_rfl) (by kernel_rfl) (fun w hC => by
      refine (weirref06_bracketed.ok ((gt a0 a1).Op) ((gt a0 ((gt a0 a1).B)).Op) true hC hr76).mono ?_
      rintro e w2 ⟨rfl, h2⟩
      exact ⟨rfl, h2⟩) ?_
     refine Qs.nil ?_
     intro w78 hS79
     cases t75
     ·skip
      have hp80 := ite_f hp77 rfl
      refine sx_run 2 (todo' := [.code (cd32 [1, 1, 1, 1, 1, 1])]) (us := []) (by kernel_rfl) ?_
      refine Runs.fill (m := [none, none, none, none, none, some (.pointer (some ⟨b7, 0, none⟩)), some (.int .i64 t16), some (.int .i64 t64), none, none, none, none, none, none, none, none, none, none, none, none, none, none, none, none, none, none, none, none, none, none, none, none, none, none, none, none, none, none, none, none, none, none, none, none, none, none, none, none, none, none, none, none, none, none, none, none, none, none, none, none, none, none, none, none, none, none, none, none, none, none, none]) (by kernel_rfl) ?_
      exact J28 t64 (Option.some.inj hp80) _ _ hS79
     ·skip
      have hp81 := ite_t hp77 rfl
      refine sx_run 6 (todo' := [.code (cd32 [1, 1, 1, 1, 1, 1])]) (us := [(61, .int .i64 t64), (62, .int .i64 (IntKind.i64.wrap (t64 + 1))), (7, .int .i64 (IntKind.i64.wrap (t64 + 1)))]) (by kernel_rfl) ?_
      refine Runs.fill (m := [none, none, none, none, none, some (.pointer (some ⟨b7, 0, none⟩)), some (.int .i64 t16), some (.int .i64 (IntKind.i64.wrap (t64 + 1))), none, none, none, none, none, none, none, none, none, none, none, none, none, none, none, none, none, none, none, none, none, none, none, none, none, none, none, none, none, none, none, none, none, none, none, none, none, none, none, none, none, none, none, none, none, none, none, none, none, none, none, none, none, none, none, none, none, none, none, none, none, none, none]) (by kernel_rfl) ?_
      exact J28 (IntKind.i64.wrap (t64 + 1)) (Option.some.inj hp81) _ _ hS79
    ·skip
     have hp82 := ite_f hp60 h62
     refine sx_run 4 (todo' := [.code (cd32 [1, 1, 1, 1, 1, 1])]) (us := [(47, .bool false)]) (by kernel_rfl) ?_
     refine Runs.fill (m := [none, none, none, none, none, some (.pointer (some ⟨b7, 0, none⟩)), some (.int .i64 t16), some (.int .i64 0), none, none, none, none, none, none, none, none, none, none, none, none, none, none, none, none, none, none, none, none, none, none, none, none, none, none, none, none, none, none, none, none, none, none, none, none, none, none, none, none, none, none, none, none, none, none, none, none, none, none, none, none, none, none, none, none, none, none, none, none, none, none, none]) (by kernel_rfl) ?_
     exact J28 0 (Option.some.inj hp82) _ _ hS18
  refine sx_split 1 (todo' := [.inRegion (opsOf (cd32 [1, 1, 1, 1, 0, 0])) [3, 4, 5, 6, 7, 8, 9, 10, 11, 12], .code (cd32 [1, 1, 1, 1, 0, 1]), .code (cd32 [1, 1, 1, 1, 1])]) (us := []) (d := 14) (t := (((gt a0 a1).Op) == 3)) (by kernel_rfl) (fun h83 => ?_) (fun h84 => ?_)
  ·skip
   have hp85 := ite_t hv14 h83
   refine sx_run 16 (todo' := [.inRegion (opsOf (cd32 [1, 1, 1, 1, 0, 1, 0, 0])) [2, 3, 4], .code (cd32 [1, 1, 1, 1, 0, 1, 0, 1]), .code (cd32 [1, 1, 1, 1, 1])]) (us := [(15, .bool true), (16, undef), (17, undef), (18, undef), (19, .bool true), (20, .bool true), (21, undef), (22, undef), (23, undef), (24, .bool true), (25, .slice Aa0 a0.length ca0), (26, .pointer (some ⟨b7, 1, none⟩))]) (by kernel_rfl) ?_
   refine r_load (c := (cd32 [1, 1, 1, 1, 0, 1, 0, 0])) (i := 2) (d := (some 27)) (ty := 3) (t := 3) (x := (.tmp 26)) (p := ⟨b7, 1, none⟩) (v := .int .i64 ((gt a0 a1).A)) (by kernel_rfl) (by kernel_rfl) (by kernel_rfl) (loads_at 1 (hS12.blk 0 rfl) (by kernel_rfl) (by kernel_rfl)) ?_
   obtain ⟨t86, hr87, hp88⟩ := bind_some' hp85
   refine r_call1 (c := (cd32 [1, 1, 1, 1, 0, 1, 0, 0])) (i := 3) (d := (some 28)) (g := 32) (args := #[.slice Aa0 a0.length ca0, .int .i64 ((gt a0 a1).A)]) (by kernel_rfl) (by kernel_rfl) (by kernel_rfl) (by kernel_rfl) (hrec_weirref06_Deep a0 ((gt a0 a1).A) Aa0 ca0 hS12 ha0 hr87) ?_
   rintro _ w89 ⟨rfl, hS90⟩
   refine ⟨.int .i64 t86, rfl, ?_⟩
   refine sx_run 3 (todo' := [.code (cd32 [1, 1, 1, 1, 0, 1, 0, 1, 0]), .code (cd32 [1, 1, 1, 1, 0, 1, 0, 1, 1]), .code (cd32 [1, 1, 1, 1, 1])]) (us := [(6, .int .i64 t86)]) (by kernel_rfl) ?_
   refine r_quiet hS90 (c := (cd32 [1, 1, 1, 1, 0, 1, 0, 1, 0])) (id := 6) (by kernel_rfl) (by kernel_rfl) (by kernel_rfl) (is := [0, 1, 2, 3, 4, 5, 6, 7, 8]) (by kernel_rfl) ?_
   refine q_run 1 (is' := [1, 2, 3, 4, 5, 6, 7, 8]) (us := [(29, .pointer (some ⟨b7, 0, none⟩))]) (by kernel_rfl) ?_
   refine q_load (c := (cd32 [1, 1, 1, 1, 0, 1, 0, 1, 0])) (i := 1) (d := (some 30)) (ty := 3) (t := 3) (x := (.tmp 29)) (p := ⟨b7, 0, none⟩) (v := .int .i64 ((gt a0 a1).Op)) (by kernel_rfl) (by kernel_rfl) (by kernel_rfl) (fun w hC => (loads_at 0 (hC.blk 0 rfl) (by kernel_rfl) (by kernel_rfl))) ?_
   refine q_run 2 (is' := [4, 5, 6, 7, 8]) (us := [(31, .slice Aa0 a0.length ca0), (32, .pointer (some ⟨b7, 1, none⟩))]) (by kernel_rfl) ?_
   refine q_load (c := (cd32 [1, 1, 1, 1, 0, 1, 0, 1, 0])) (i := 4) (d := (some 33)) (ty := 3) (t := 3) (x := (.tmp 32)) (p := ⟨b7, 1, none⟩) (v := .int .i64 ((gt a0 a1).A)) (by kernel_rfl) (by kernel_rfl) (by kernel_rfl) (fun w hC => (loads_at 1 (hC.blk 0 rfl) (by kernel_rfl) (by kernel_rfl))) ?_
   obtain ⟨g91, hp92⟩ := ite_some hp88
   obtain ⟨b93, p94, hA95, hc96⟩ := ha0.atF g91.1 g91.2
   refine q_indexAddr (c := (cd32 [1, 1, 1, 1, 0, 1, 0, 1, 0])) (i := 5) (d := (some 34)) (ty := 0) (t := 23) (e := 52) (n := a0.length) (cp := ca0) (sz := 6) (kk := .i64) (x := (.tmp 31)) (y := (.tmp 33)) (b := b93) (o' := p94) (j := (gt a0 a1).A) (by kernel_rfl) (by kernel_rfl) (slv (by kernel_rfl) hA95) (by kernel_rfl) (by kernel_rfl) (by kernel_rfl) g91.1 g91.2 ?_
   refine q_run 1 (is' := [7, 8]) (us := [(35, .pointer (some ⟨b93, p94 + ((gt a0 a1).A).toNat * 6, none⟩))]) (by kernel_rfl) ?_
   refine q_load (c := (cd32 [1, 1, 1, 1, 0, 1, 0, 1, 0])) (i := 7) (d := (some 36)) (ty := 3) (t := 3) (x := (.tmp 35)) (p := ⟨b93, p94 + ((gt a0 a1).A).toNat * 6, none⟩) (v := .int .i64 ((gt a0 ((gt a0 a1).A)).Op)) (by kernel_rfl) (by kernel_rfl) (by kernel_rfl) (fun w hC => (loads_at 0 (hc96.cells hC) (by kernel_rfl) (by kernel_rfl))) ?_
   obtain ⟨t97, hr98, hp99⟩ := bind_some' hp92
   refine q_call1 (c := (cd32 [1, 1, 1, 1, 0, 1, 0, 1, 0])) (i := 8) (d := (some 37)) (v := .bool t97) (g := 40) (args := #[.int .i64 ((gt a0 a1).Op), .int .i64 ((gt a0 ((gt a0 a1).A)).Op), .bool false]) (by kernel_rfl) (by kernel_rfl) (by kernel_rfl) (by kernel_rfl) (fun w hC => by
    refine (weirref06_bracketed.ok ((gt a0 a1).Op) ((gt a0 ((gt a0 a1).A)).Op) false hC hr98).mono ?_
    rintro e w2 ⟨rfl, h2⟩
    exact ⟨rfl, h2⟩) ?_
   refine Qs.nil ?_
   intro w100 hS101
   cases t97
   ·skip
    have hp102 := ite_f hp99 rfl
    refine sx_run 2 (todo' := [.code (cd32 [1, 1, 1, 1, 1])]) (us := []) (by kernel_rfl) ?_
    refine Runs.fill (m := [some (.slice Aa0 a0.length ca0), none, none, none, none, some (.pointer (some ⟨b7, 0, none⟩)), some (.int .i64 t86), some (.int .i64 0), none, none, none, none, none, none, none, none, none, none, none, none, none, none, none, none, none, none, none, none, none, none, none, none, none, none, none, none, none, none, none, none, none, none, none, none, none, none, none, none, none, none, none, none, none, none, none, none, none, none, none, none, none, none, none, none, none, none, none, none, none, none, none]) (by kernel_rfl) ?_
    exact J19 t86 (Option.some.inj hp102) _ _ hS101
   ·skip
    have hp103 := ite_t hp99 rfl
    refine sx_run 6 (todo' := [.code (cd32 [1, 1, 1, 1, 1])]) (us := [(38, .int .i64 t86), (39, .int .i64 (IntKind.i64.wrap (t86 + 1))), (6, .int .i64 (IntKind.i64.wrap (t86 + 1)))]) (by kernel_rfl) ?_
    refine Runs.fill (m := [some (.slice Aa0 a0.length ca0), none, none, none, none, some (.pointer (some ⟨b7, 0, none⟩)), some (.int .i64 (IntKind.i64.wrap (t86 + 1))), some (.int .i64 0), none, none, none, none, none, none, none, none, none, none, none, none, none, none, none, none, none, none, none, none, none, none, none, none, none, none, none, none, none, none, none, none, none, none, none, none, none, none, none, none, none, none, none, none, none, none, none, none, none, none, none, none, none, none, none, none, none, none, none, none, none, none, none]) (by kernel_rfl) ?_
    exact J19 (IntKind.i64.wrap (t86 + 1)) (Option.some.inj hp103) _ _ hS101
  ·skip
   have hp104 := ite_f hv14 h84
   refine sx_run 2 (todo' := [.inRegion (opsOf (cd32 [1, 1, 1, 1, 0, 0])) [5, 6, 7, 8, 9, 10, 11, 12], .code (cd32 [1, 1, 1, 1, 0, 1]), .code (cd32 [1, 1, 1, 1, 1])]) (us := [(15, .bool false), (16, .pointer (some ⟨b7, 0, none⟩))]) (by kernel_rfl) ?_
   refine r_load (c := (cd32 [1, 1, 1, 1, 0, 0])) (i := 5) (d := (some 17)) (ty := 3) (t := 3) (x := (.tmp 16)) (p := ⟨b7, 0, none⟩) (v := .int .i64 ((gt a0 a1).Op)) (by kernel_rfl) (by kernel_rfl) (by kernel_rfl) (loads_at 0 (hS12.blk 0 rfl) (by kernel_rfl) (by kernel_rfl)) ?_
   refine sx_split 1 (todo' := [.inRegion (opsOf (cd32 [1, 1, 1, 1, 0, 0])) [7, 8, 9, 10, 11, 12], .code (cd32 [1, 1, 1, 1, 0, 1]), .code (cd32 [1, 1, 1, 1, 1])]) (us := []) (d := 18) (t := (((gt a0 a1).Op) == 4)) (by kernel_rfl) (fun h105 => ?_) (fun h106 => ?_)
   ·skip
    have hp107 := ite_t hp104 h105
    refine sx_run 12 (todo' := [.inRegion (opsOf (cd32 [1, 1, 1, 1, 0, 1, 0, 0])) [2, 3, 4], .code (cd32 [1, 1, 1, 1, 0, 1, 0, 1]), .code (cd32 [1, 1, 1, 1, 1])]) (us := [(19, .bool true), (20, .bool true), (21, undef), (22, undef), (23, undef), (24, .bool true), (25, .slice Aa0 a0.length ca0), (26, .pointer (some ⟨b7, 1, none⟩))]) (by kernel_rfl) ?_
    refine r_load (c := (cd32 [1, 1, 1, 1, 0, 1, 0, 0])) (i := 2) (d := (some 27)) (ty := 3) (t := 3) (x := (.tmp 26)) (p := ⟨b7, 1, none⟩) (v := .int .i64 ((gt a0 a1).A)) (by kernel_rfl) (by kernel_rfl) (by kernel_rfl) (loads_at 1 (hS12.blk 0 rfl) (by kernel_rfl) (by kernel_rfl)) ?_
    obtain ⟨t108, hr109, hp110⟩ := bind_some' hp107
    refine r_call1 (c := (cd32 [1, 1, 1, 1, 0, 1, 0, 0])) (i := 3) (d := (some 28)) (g := 32) (args := #[.slice Aa0 a0.length ca0, .int .i64 ((gt a0 a1).A)]) (by kernel_rfl) (by kernel_rfl) (by kernel_rfl) (by kernel_rfl) (hrec_weirref06_Deep a0 ((gt a0 a1).A) Aa0 ca0 hS12 ha0 hr109) ?_
    rintro _ w111 ⟨rfl, hS112⟩
    refine ⟨.int .i64 t108, rfl, ?_⟩
    refine sx_run 3 (todo' := [.code (cd32 [1, 1, 1, 1, 0, 1, 0, 1, 0]), .code (cd32 [1, 1, 1, 1, 0, 1, 0, 1, 1]), .code (cd32 [1, 1, 1, 1, 1])]) (us := [(6, .int .i64 t108)]) (by kernel_rfl) ?_
    refine r_quiet hS112 (c := (cd32 [1, 1, 1, 1, 0, 1, 0, 1, 0])) (id := 6) (by kernel_rfl) (by kernel_rfl) (by kernel_rfl) (is := [0, 1, 2, 3, 4, 5, 6, 7, 8]) (by kernel_rfl) ?_
    refine q_run 1 (is' := [1, 2, 3, 4, 5, 6, 7, 8]) (us := [(29, .pointer (some ⟨b7, 0, none⟩))]) (by kernel_rfl) ?_
    refine q_load (c := (cd32 [1, 1, 1, 1, 0, 1, 0, 1, 0])) (i := 1) (d := (some 30)) (ty := 3) (t := 3) (x := (.tmp 29)) (p := ⟨b7, 0, none⟩) (v := .int .i64 ((gt a0 a1).Op)) (by kernel_rfl) (by kernel_rfl) (by kernel_rfl) (fun w hC => (loads_at 0 (hC.blk 0 rfl) (by kernel_rfl) (by kernel_rfl))) ?_
    refine q_run 2 (is' := [4, 5, 6, 7, 8]) (us := [(31, .slice Aa0 a0.length ca0), (32, .pointer (some ⟨b7, 1, none⟩))]) (by kernel_rfl) ?_
    refine q_load (c := (cd32 [1, 1, 1, 1, 0, 1, 0, 1, 0])) (i := 4) (d := (some 33)) (ty := 3) (t := 3) (x := (.tmp 32)) (p := ⟨b7, 1, none⟩) (v := .int .i64 ((gt a0 a1).A)) (by kernel_rfl) (by kernel_rfl) (by kernel_rfl) (fun w hC => (loads_at 1 (hC.blk 0 rfl) (by kernel_rfl) (by kernel_rfl))) ?_
    obtain ⟨g113, hp114⟩ := ite_some hp110
    obtain ⟨b115, p116, hA117, hc118⟩ := ha0.atF g113.1 g113.2
    refine q_indexAddr (c := (cd32 [1, 1, 1, 1, 0, 1, 0, 1, 0])) (i := 5) (d := (some 34)) (ty := 0) (t := 23) (e := 52) (n := a0.length) (cp := ca0) (sz := 6) (kk := .i64) (x := (.tmp 31)) (y := (.tmp 33)) (b := b115) (o' := p116) (j := (gt a0 a1).A) (by kernel_rfl) (by kernel_rfl) (slv (by kernel_rfl) hA117) (by kernel_rfl) (by kernel_rfl) (by kernel_rfl) g113.1 g113.2 ?_
    refine q_run 1 (is' := [7, 8]) (us := [(35, .pointer (some ⟨b115, p116 + ((gt a0 a1).A).toNat * 6, none⟩))]) (by kernel_rfl) ?_
    refine q_load (c := (cd32 [1, 1, 1, 1, 0, 1, 0, 1, 0])) (i := 7) (d := (some 36)) (ty := 3) (t := 3) (x := (.tmp 35)) (p := ⟨b115, p116 + ((gt a0 a1).A).toNat * 6, none⟩) (v := .int .i64 ((gt a0 ((gt a0 a1).A)).Op)) (by kernel_rfl) (by kernel_rfl) (by kernel_rfl) (fun w hC => (loads_at 0 (hc118.cells hC) (by kernel_rfl) (by kernel_rfl))) ?_
    obtain ⟨t119, hr120, hp121⟩ := bind_some' hp114
    refine q_call1 (c := (cd32 [1, 1, 1, 1, 0, 1, 0, 1, 0])) (i := 8) (d := (some 37)) (v := .bool t119) (g := 40) (args := #[.int .i64 ((gt a0 a1).Op), .int .i64 ((gt a0 ((gt a0 a1).A)).Op), .bool false]) (by kernel_rfl) (by kernel_rfl) (by kernel_rfl) (by kernel_rfl) (fun w hC => by
     refine (weirref06_bracketed.ok ((gt a0 a1).Op) ((gt a0 ((gt a0 a1).A)).Op) false hC hr120).mono ?_
     rintro e w2 ⟨rfl, h2⟩
     exact ⟨rfl, h2⟩) ?_
    refine Qs.nil ?_
    intro w122 hS123
    cases t119
    ·skip
     have hp124 := ite_f hp121 rfl
     refine sx_run 2 (todo' := [.code (cd32 [1, 1, 1, 1, 1])]) (us := []) (by kernel_rfl) ?_
     refine Runs.fill (m := [some (.slice Aa0 a0.length ca0), none, none, none, none, some (.pointer (some ⟨b7, 0, none⟩)), some (.int .i64 t108), some (.int .i64 0), none, none, none, none, none, none, none, none, none, none, none, none, none, none, none, none, none, none, none, none, none, none, none, none, none, none, none, none, none, none, none, none, none, none, none, none, none, none, none, none, none, none, none, none, none, none, none, none, none, none, none, none, none, none, none, none, none, none, none, none, none, none, none]) (by kernel_rfl) ?_
     exact J19 t108 (Option.some.inj hp124) _ _ hS123
    ·skip
     have hp125 := ite_t hp121 rfl
     refine sx_run 6 (todo' := [.code (cd32 [1, 1, 1, 1, 1])]) (us := [(38, .int .i64 t108), (39, .int .i64 (IntKind.i64.wrap (t108 + 1))), (6, .int .i64 (IntKind.i64.wrap (t108 + 1)))]) (by kernel_rfl) ?_
     refine Runs.fill (m := [some (.slice Aa0 a0.length ca0), none, none, none, none, some (.pointer (some ⟨b7, 0, none⟩)), some (.int .i64 (IntKind.i64.wrap (t108 + 1))), some (.int .i64 0), none, none, none, none, none, none, none, none, none, none, none, none, none, none, none, none, none, none, none, none, none, none, none, none, none, none, none, none, none, none, none, none, none, none, none, none, none, none, none, none, none, none, none, none, none, none, none, none, none, none, none, none, none, none, none, none, none, none, none, none, none, none, none]) (by kernel_rfl) ?_
     exact J19 (IntKind.i64.wrap (t108 + 1)) (Option.some.inj hp125) _ _ hS123
   ·skip
    have hp126 := ite_f hp104 h106
    refine sx_run 3 (todo' := [.inRegion (opsOf (cd32 [1, 1, 1, 1, 0, 0])) [10, 11, 12], .code (cd32 [1, 1, 1, 1, 0, 1]), .code (cd32 [1, 1, 1, 1, 1])]) (us := [(19, .bool false), (20, .bool false), (21, .pointer (some ⟨b7, 0, none⟩))]) (by kernel_rfl) ?_
    refine r_load (c := (cd32 [1, 1, 1, 1, 0, 0])) (i := 10) (d := (some 22)) (ty := 3) (t := 3) (x := (.tmp 21)) (p := ⟨b7, 0, none⟩) (v := .int .i64 ((gt a0 a1).Op)) (by kernel_rfl) (by kernel_rfl) (by kernel_rfl) (loads_at 0 (hS12.blk 0 rfl) (by kernel_rfl) (by kernel_rfl)) ?_
    refine sx_split 1 (todo' := [.inRegion (opsOf (cd32 [1, 1, 1, 1, 0, 0])) [12], .code (cd32 [1, 1, 1, 1, 0, 1]), .code (cd32 [1, 1, 1, 1, 1])]) (us := []) (d := 23) (t := (((gt a0 a1).Op) == 5)) (by kernel_rfl) (fun h127 => ?_) (fun h128 => ?_)
    ·skip
     have hp129 := ite_t hp126 h127
     refine sx_run 7 (todo' := [.inRegion (opsOf (cd32 [1, 1, 1, 1, 0, 1, 0, 0])) [2, 3, 4], .code (cd32 [1, 1, 1, 1, 0, 1, 0, 1]), .code (cd32 [1, 1, 1, 1, 1])]) (us := [(24, .bool true), (25, .slice Aa0 a0.length ca0), (26, .pointer (some ⟨b7, 1, none⟩))]) (by kernel_rfl) ?_
     refine r_load (c := (cd32 [1, 1, 1, 1, 0, 1, 0, 0])) (i := 2) (d := (some 27)) (ty := 3) (t := 3) (x := (.tmp 26)) (p := ⟨b7, 1, none⟩) (v := .int .i64 ((gt a0 a1).A)) (by kernel_rfl) (by kernel_rfl) (by kernel_rfl) (loads_at 1 (hS12.blk 0 rfl) (by kernel_rfl) (by kernel_rfl)) ?_
     obtain ⟨t130, hr131, hp132⟩ := bind_some' hp129
     refine r_call1 (c := (cd32 [1, 1, 1, 1, 0, 1, 0, 0])) (i := 3) (d := (some 28)) (g := 32) (args := #[.slice Aa0 a0.length ca0, .int .i64 ((gt a0 a1).A)]) (by kernel_rfl) (by kernel_rfl) (by kernel_rfl) (by kernel_rfl) (hrec_weirref06_Deep a0 ((gt a0 a1).A) Aa0 ca0 hS12 ha0 hr131) ?_
     rintro _ w133 ⟨rfl, hS134⟩
     refine ⟨.int .i64 t130, rfl, ?_⟩
     refine sx_run 3 (todo' := [.code (cd32 [1, 1, 1, 1, 0, 1, 0, 1, 0]), .code (cd32 [1, 1, 1, 1, 0, 1, 0, 1, 1]), .code (cd32 [1, 1, 1, 1, 1])]) (us := [(6, .int .i64 t130)]) (by kernel_rfl) ?_
     refine r_quiet hS134 (c := (cd32 [1, 1, 1, 1, 0, 1, 0, 1, 0])) (id := 6) (by kernel_rfl) (by kernel_rfl) (by kernel_rfl) (is := [0, 1, 2, 3, 4, 5, 6, 7, 8]) (by kernel_rfl) ?_
     refine q_run 1 (is' := [1, 2, 3, 4, 5, 6, 7, 8]) (us := [(29, .pointer (some ⟨b7, 0, none⟩))]) (by kernel_rfl) ?_
     refine q_load (c := (cd32 [1, 1, 1, 1, 0, 1, 0, 1, 0])) (i := 1) (d := (some 30)) (ty := 3) (t := 3) (x := (.tmp 29)) (p := ⟨b7, 0, none⟩) (v := .int .i64 ((gt a0 a1).Op)) (by kernel_rfl) (by kernel_rfl) (by kernel_rfl) (fun w hC => (loads_at 0 (hC.blk 0 rfl) (by kernel_rfl) (by kernel_rfl))) ?_
     refine q_run 2 (is' := [4, 5, 6, 7, 8]) (us := [(31, .slice Aa0 a0.length ca0), (32, .pointer (some ⟨b7, 1, none⟩))]) (by kernel_rfl) ?_
     refine q_load (c := (cd32 [1, 1, 1, 1, 0, 1, 0, 1, 0])) (i := 4) (d := (some 33)) (ty := 3) (t := 3) (x := (.tmp 32)) (p := ⟨b7, 1, none⟩) (v := .int .i64 ((gt a0 a1).A)) (by kernel_rfl) (by kernel_rfl) (by kernel_rfl) (fun w hC => (loads_at 1 (hC.blk 0 rfl) (by kernel_rfl) (by kernel_rfl))) ?_
     obtain ⟨g135, hp136⟩ := ite_some hp132
     obtain ⟨b137, p138, hA139, hc140⟩ := ha0.atF g135.1 g135.2
     refine q_indexAddr (c := (cd32 [1, 1, 1, 1, 0, 1, 0, 1, 0])) (i := 5) (d := (some 34)) (ty := 0) (t := 23) (e := 52) (n := a0.length) (cp := ca0) (sz := 6) (kk := .i64) (x := (.tmp 31)) (y := (.tmp 33)) (b := b137) (o' := p138) (j := (gt a0 a1).A) (by kernel_rfl) (by kernel_rfl) (slv (by kernel_rfl) hA139) (by kernel_rfl) (by kernel_rfl) (by kernel_rfl) g135.1 g135.2 ?_
     refine q_run 1 (is' := [7, 8]) (us := [(35, .pointer (some ⟨b137, p138 + ((gt a0 a1).A).toNat * 6, none⟩))]) (by kernel_rfl) ?_
     refine q_load (c := (cd32 [1, 1, 1, 1, 0, 1, 0, 1, 0])) (i := 7) (d := (some 36)) (ty := 3) (t := 3) (x := (.tmp 35)) (p := ⟨b137, p138 + ((gt a0 a1).A).toNat * 6, none⟩) (v := .int .i64 ((gt a0 ((gt a0 a1).A)).Op)) (by kernel_rfl) (by kernel_rfl) (by kernel_rfl) (fun w hC => (loads_at 0 (hc140.cells hC) (by kernel_rfl) (by kernel_rfl))) ?_
     obtain ⟨t141, hr142, hp143⟩ := bind_some' hp136
     refine q_call1 (c := (cd32 [1, 1, 1, 1, 0, 1, 0, 1, 0])) (i := 8) (d := (some 37)) (v := .bool t141) (g := 40) (args := #[.int .i64 ((gt a0 a1).Op), .int .i64 ((gt a0 ((gt a0 a1).A)).Op), .bool false]) (by kernel_rfl) (by kernel_rfl) (by kernel_rfl) (by kernel_rfl) (fun w hC => by
      refine (weirref06_bracketed.ok ((gt a0 a1).Op) ((gt a0 ((gt a0 a1).A)).Op) false hC hr142).mono ?_
      rintro e w2 ⟨rfl, h2⟩
      exact ⟨rfl, h2⟩) ?_
     refine Qs.nil ?_
     intro w144 hS145
     cases t141
     ·skip
      have hp146 := ite_f hp143 rfl
      refine sx_run 2 (todo' := [.code (cd32 [1, 1, 1, 1, 1])]) (us := []) (by kernel_rfl) ?_
      refine Runs.fill (m := [some (.slice Aa0 a0.length ca0), none, none, none, none, some (.pointer (some ⟨b7, 0, none⟩)), some (.int .i64 t130), some (.int .i64 0), none, none, none, none, none, none, none, none, none, none, none, none, none, none, none, none, none, none, none, none, none, none, none, none, none, none, none, none, none, none, none, none, none, none, none, none, none, none, none, none, none, none, none, none, none, none, none, none, none, none, none, none, none, none, none, none, none, none, none, none, none, none, none]) (by kernel_rfl) ?_
      exact J19 t130 (Option.some.inj hp146) _ _ hS145
     ·skip
      have hp147 := ite_t hp143 rfl
      refine sx_run 6 (todo' := [.code (cd32 [1, 1, 1, 1, 1])]) (us := [(38, .int .i64 t130), (39, .int .i64 (IntKind.i64.wrap (t130 + 1))), (6, .int .i64 (IntKind.i64.wrap (t130 + 1)))]) (by kernel_rfl) ?_
      refine Runs.fill (m := [some (.slice Aa0 a0.length ca0), none, none, none, none, some (.pointer (some ⟨b7, 0, none⟩)), some (.int .i64 (IntKind.i64.wrap (t130 + 1))), some (.int .i64 0), none, none, none, none, none, none, none, none, none, none, none, none, none, none, none, none, none, none, none, none, none, none, none, none, none, none, none, none, none, none, none, none, none, none, none, none, none, none, none, none, none, none, none, none, none, none, none, none, none, none, none, none, none, none, none, none, none, none, none, none, none, none, none]) (by kernel_rfl) ?_
      exact J19 (IntKind.i64.wrap (t130 + 1)) (Option.some.inj hp147) _ _ hS145
    ·skip
     have hp148 := ite_f hp126 h128
     refine sx_run 4 (todo' := [.code (cd32 [1, 1, 1, 1, 1])]) (us := [(24, .bool false)]) (by kernel_rfl) ?_
     refine Runs.fill (m := [some (.slice Aa0 a0.length ca0), none, none, none, none, some (.pointer (some ⟨b7, 0, none⟩)), some (.int .i64 0), some (.int .i64 0), none, none, none, none, none, none, none, none, none, none, none, none, none, none, none, none, none, none, none, none, none, none, none, none, none, none, none, none, none, none, none, none, none, none, none, none, none, none, none, none, none, none, none, none, none, none, none, none, none, none, none, none, none, none, none, none, none, none, none, none, none, none, none]) (by kernel_rfl) ?_
     exact J19 0 (Option.some.inj hp148) _ _ hS12
def weirref06_Deep.f : Nat → (List api_Node) → Int → Option Int
  | 0 => fun _ _ => none
  | n + 1 => weirref06_Deep.body (weirref06_Deep.f n)
theorem weirref06_Deep.all : ∀ n, weirref06_Deep.Spec (weirref06_Deep.f n)
  | 0 => by
    intro a0 a1 Aa0 ca0 w0 Z fs w hS0 ha0 q0 hp0
    cases hp0
  | n + 1 => weirref06_Deep.bok (weirref06_Deep.f n) (weirref06_Deep.all n)
theorem weirref06_Deep.ok : weirref06_Deep.Spec (weirref06_Deep.f fuelN) := weirref06_Deep.all fuelN

noncomputable def cd21 (p : List Nat) : Code := sub (bodyOf Try.f21) p
def weirref06_Check.f (a0 : List api_Node) : Option Int :=
  (weirref06_Makes.f a0 >>= (fun t1 => (if (!t1) = true then some (60) else (weirref06_Deep.f fuelN a0 (IntKind.i64.wrap ((a0.length : Int) - 1)) >>= (fun t11 => (if (decide (t11 > 64)) = true then some (2) else some (0)))))))
set_option maxHeartbeats 16000000 in
theorem weirref06_Check.ok (a0 : List api_Node) (Aa0 : Option Addr) (ca0 : Nat) {w0 : World} {Z : Zm} {fs : List XObj} {w : World} (hS0 : St w0 Z (fs) w) (ha0 : SlZ (flat enc_api_Node) 6 Z Aa0 ca0 a0) {q0 : Int} (hp0 : weirref06_Check.f a0 = some q0) :
    Calls Try.prog 21 #[.slice Aa0 a0.length ca0] w (fun e w' => e = .returned (.int .i64 q0) ∧ St w0 Z (fs) w') := by
  refine calls_abs ?_; intro R hR
  unfold weirref06_Check.f at hp0
  refine calls_of_runs (fn := Try.f21) (c := cd21 []) Try.func21 (by kernel_rfl) (al := [.slice Aa0 a0.length ca0]) rfl (n := 11) rfl ?_
  refine sx_run 8 (todo' := [.inRegion (opsOf (cd21 [1, 0, 0])) [1, 2], .code (cd21 [1, 0, 1]), .code (cd21 [1, 1])]) (us := [(2, .int .i64 0), (3, .slice Aa0 a0.length ca0)]) (by kernel_rfl) ?_
  obtain ⟨t1, hr2, hp3⟩ := bind_some' hp0
  refine r_call1 (c := (cd21 [1, 0, 0])) (i := 1) (d := (some 4)) (g := 31) (args := #[.slice Aa0 a0.length ca0]) (by kernel_rfl) (by kernel_rfl) (by kernel_rfl) (by kernel_rfl) (weirref06_Makes.ok a0 Aa0 ca0 hS0 ha0 hr2) ?_
  rintro _ w4 ⟨rfl, hS5⟩
  refine ⟨.bool t1, rfl, ?_⟩
  refine sx_split 1 (todo' := [.inRegion (opsOf (cd21 [1, 0, 0])) [], .code (cd21 [1, 0, 1]), .code (cd21 [1, 1])]) (us := []) (d := 5) (t := (!t1)) (by kernel_rfl) (fun h6 => ?_) (fun h7 => ?_)
  ·skip
   have hp8 := ite_t hp3 h6
   refine sx_run 6 (todo' := [.code (cd21 [1, 0, 1, 0, 1]), .code (cd21 [1, 1])]) (us := [(2, .int .i64 60)]) (by kernel_rfl) ?_
   refine runs_ret (fn := Try.f21) (v := .int .i64 60) Try.func21 (by kernel_rfl) ?_
   have hr9 := (Option.some.inj hp8)
   cases hr9
   exact hR _ _ ⟨rfl, hS5⟩
  ·skip
   have hp10 := ite_f hp3 h7
   refine sx_run 10 (todo' := [.inRegion (opsOf (cd21 [1, 1, 0, 0])) [4, 5], .code (cd21 [1, 1, 0, 1]), .code (cd21 [1, 1, 1])]) (us := [(6, .slice Aa0 a0.length ca0), (7, .slice Aa0 a0.length ca0), (8, .int .i64 (a0.length : Int)), (9, .int .i64 (IntKind.i64.wrap ((a0.length : Int) - 1)))]) (by kernel_rfl) ?_
   obtain ⟨t11, hr12, hp13⟩ := bind_some' hp10
   refine r_call1 (c := (cd21 [1, 1, 0, 0])) (i := 4) (d := (some 10)) (g := 32) (args := #[.slice Aa0 a0.length ca0, .int .i64 (IntKind.i64.wrap ((a0.length : Int) - 1))]) (by kernel_rfl) (by kernel_rfl) (by kernel_rfl) (by kernel_rfl) (weirref06_Deep.ok a0 (IntKind.i64.wrap ((a0.length : Int) - 1)) Aa0 ca0 hS5 ha0 hr12) ?_
   rintro _ w14 ⟨rfl, hS15⟩
   refine ⟨.int .i64 t11, rfl, ?_⟩
   refine sx_split 1 (todo' := [.inRegion (opsOf (cd21 [1, 1, 0, 0])) [], .code (cd21 [1, 1, 0, 1]), .code (cd21 [1, 1, 1])]) (us := []) (d := 11) (t := (decide (t11 > 64))) (by kernel_rfl) (fun h16 => ?_) (fun h17 => ?_)
   ·skip
    have hp18 := ite_t hp13 h16
    refine sx_run 6 (todo' := [.code (cd21 [1, 1, 0, 1, 0, 1]), .code (cd21 [1, 1, 1])]) (us := [(2, .int .i64 2)]) (by kernel_rfl) ?_
    refine runs_ret (fn := Try.f21) (v := .int .i64 2) Try.func21 (by kernel_rfl) ?_
    have hr19 := (Option.some.inj hp18)
    cases hr19
    exact hR _ _ ⟨rfl, hS15⟩
   ·skip
    have hp20 := ite_f hp13 h17
    refine sx_run 7 (todo' := [.code (cd21 [1, 1, 1, 1])]) (us := [(2, .int .i64 0)]) (by kernel_rfl) ?_
    refine runs_ret (fn := Try.f21) (v := .int .i64 0) Try.func21 (by kernel_rfl) ?_
    have hr21 := (Option.some.inj hp20)
    cases hr21
    exact hR _ _ ⟨rfl, hS15⟩

def weirref06_plain.Spec (rec : (List api_Node) → Int → Bool → (List api_Node) → Option (List api_Node)) : Prop := ∀ (a0 : List api_Node) (a1 : Int) (a2 : Bool) (a3 : List api_Node) (Aa0 : Option Addr) (ca0 : Nat) (Aa3 : Option Addr) (ca3 : Nat) {w0 : World} {Z : Zm} {fs : List XObj} {w : World} (_ : St w0 Z (xrow Aa3 ca3 52 6 (a3.flatMap enc_api_Node) :: fs) w) (_ : SlZ (flat enc_api_Node) 6 Z Aa0 ca0 a0) {q0 : List api_Node}, rec a0 a1 a2 a3 = some q0 →
    Calls Try.prog 22 #[.slice Aa0 a0.length ca0, .int .i64 a1, .bool a2, .slice Aa3 a3.length ca3] w (fun e w' => ∃ (QA0 : Option Addr) (Qc0 : Nat), e = .returned (.slice QA0 q0.length Qc0) ∧ St w0 Z (xrow QA0 Qc0 52 6 (q0.flatMap enc_api_Node) :: fs) w')

noncomputable def cd22 (p : List Nat) : Code := sub (bodyOf Try.f22) p
def weirref06_plain.body (rec_weirref06_plain : (List api_Node) → Int → Bool → (List api_Node) → Option (List api_Node)) (a0 : List api_Node) (a1 : Int) (a2 : Bool) (a3 : List api_Node) : Option (List api_Node) :=
  (if 0 ≤ a1 ∧ a1 < (a0.length : Int) then (if (((gt a0 a1).Op) == 3) = true then (if (!a2) = true then (rec_weirref06_plain a0 ((gt a0 a1).A) true a3 >>= (fun t19 => some (t19))) else (rec_weirref06_plain a0 ((gt a0 a1).A) false a3 >>= (fun t32 => some (t32)))) else (((if (((gt a0 a1).Op) == 4) = true then some (true) else (if (((gt a0 a1).Op) == 5) = true then some (true) else some (false))) : Option Bool) >>= (fun t48 => (if t48 = true then (((if a2 = true then some ((true, (IntKind.i64.wrap (9 - ((gt a0 a1).Op))))) else some ((false, (gt a0 a1).Op))) : Option (Bool × Int)) >>= (fun (t97, t98) => (rec_weirref06_plain a0 ((gt a0 a1).A) t97 a3 >>= (fun t104 => (rec_weirref06_plain a0 ((gt a0 a1).B) t97 t104 >>= (fun t112 => (if (t112.length + ([(⟨t98, (IntKind.i64.wrap ((t104.length : Int) - 1)), (IntKind.i64.wrap ((t112.length : Int) - 1)), (⟨0, (⟨#[]⟩ : ByteArray)⟩ : api_Ref), 0⟩ : api_Node)] : List api_Node).length) * 56 ≤ 140737488355328 then some ((t112 ++ ([(⟨t98, (IntKind.i64.wrap ((t104.length : Int) - 1)), (IntKind.i64.wrap ((t112.length : Int) - 1)), (⟨0, (⟨#[]⟩ : ByteArray)⟩ : api_Ref), 0⟩ : api_Node)] : List api_Node))) else none))))))) else (if (a3.length + ([(gt a0 a1)] : List api_Node).length) * 56 ≤ 140737488355328 then (if a2 = true then (if ((a3 ++ ([(gt a0 a1)] : List api_Node)).length + ([(⟨3, (IntKind.i64.wrap (((a3 ++ ([(gt a0 a1)] : List api_Node)).length : Int) - 1)), 0, (⟨0, (⟨#[]⟩ : ByteArray)⟩ : api_Ref), 0⟩ : api_Node)] : List api_Node).length) * 56 ≤ 140737488355328 then some (((a3 ++ ([(gt a0 a1)] : List api_Node)) ++ ([(⟨3, (IntKind.i64.wrap (((a3 ++ ([(gt a0 a1)] : List api_Node)).length : Int) - 1)), 0, (⟨0, (⟨#[]⟩ : ByteArray)⟩ : api_Ref), 0⟩ : api_Node)] : List api_Node))) else none) else some ((a3 ++ ([(gt a0 a1)] : List api_Node)))) else none))))) else none)
set_option maxHeartbeats 16000000 in
theorem weirref06_plain.bok (rec_weirref06_plain : (List api_Node) → Int → Bool → (List api_Node) → Option (List api_Node)) (hrec_weirref06_plain : weirref06_plain.Spec rec_weirref06_plain) : weirref06_plain.Spec (weirref06_plain.body rec_weirref06_plain) := by
  intro a0 a1 a2 a3 Aa0 ca0 Aa3 ca3 w0 Z fs w hS0 ha0 q0 hp0
  refine calls_abs ?_; intro R hR
  unfold weirref06_plain.body at hp0
  refine calls_of_runs (fn := Try.f22) (c := cd22 []) Try.func22 (by kernel_rfl) (al := [.slice Aa0 a0.length ca0, .int .i64 a1, .bool a2, .slice Aa3 a3.length ca3]) rfl (n := 69) rfl ?_
  refine sx_run 8 (todo' := [.inRegion (opsOf (cd22 [1, 0])) [2, 3, 4, 5], .code (cd22 [1, 1])]) (us := [(8, .slice none 0 0), (12, .slice Aa0 a0.length ca0), (13, .int .i64 a1)]) (by kernel_rfl) ?_
  obtain ⟨g1, hp2⟩ := ite_some hp0
  obtain ⟨b3, p4, hA5, hc6⟩ := ha0.atF g1.1 g1.2
  refine r_indexAddr (c := (cd22 [1, 0])) (i := 2) (d := (some 14)) (ty := 0) (t := 23) (e := 52) (n := a0.length) (cp := ca0) (sz := 6) (kk := .i64) (x := (.tmp 12)) (y := (.tmp 13)) (b := b3) (o' := p4) (j := a1) (by kernel_rfl) (by kernel_rfl) (slv (by kernel_rfl) hA5) (by kernel_rfl) (by kernel_rfl) (by kernel_rfl) g1.1 g1.2 ?_
  refine r_load (c := (cd22 [1, 0])) (i := 3) (d := (some 15)) (ty := 52) (t := 52) (x := (.tmp 14)) (p := ⟨b3, p4 + a1.toNat * 6, none⟩) (v := .agg (enc_api_Node (gt a0 a1)).toArray) (by kernel_rfl) (by kernel_rfl) (by kernel_rfl) (loads_agg (hc6.cells hS0) (by kernel_rfl) (by kernel_rfl)) ?_
  refine r_alloc (c := (cd22 [1, 0])) (i := 4) (d := (some 9)) (ty := 0) (z := .agg (enc_api_Node (⟨0, 0, 0, ⟨0, (⟨#[]⟩ : ByteArray)⟩, 0⟩ : api_Node)).toArray) (t := 52) (cs := enc_api_Node (⟨0, 0, 0, ⟨0, (⟨#[]⟩ : ByteArray)⟩, 0⟩ : api_Node)) hS0 (by kernel_rfl) (by kernel_rfl) (by kernel_rfl) (by kernel_rfl) ?_
  intro b7 w8 hS9
  refine r_store (c := (cd22 [1, 0])) (i := 5) (d := none) (ty := 0) (t := 52) (x := (.tmp 9)) (y := (.tmp 15)) (b := b7) (o := 0) (e := 52) (cs := enc_api_Node (⟨0, 0, 0, ⟨0, (⟨#[]⟩ : ByteArray)⟩, 0⟩ : api_Node)) (v := .agg (enc_api_Node (gt a0 a1)).toArray) (vs := enc_api_Node (gt a0 a1)) (cs' := enc_api_Node (gt a0 a1)) hS9 (by kernel_rfl) (by kernel_rfl) (by kernel_rfl) (by kernel_rfl) (by kernel_rfl) (by kernel_rfl) (one_api_Node _) (Nat.le_of_ble_eq_true (by kernel_rfl)) (by kernel_rfl) ?_
  intro w11 hS12
  refine sx_run 5 (todo' := [.inRegion (opsOf (cd22 [1, 1, 0, 0])) [1], .code (cd22 [1, 1, 0, 1]), .code (cd22 [1, 1, 1])]) (us := [(16, .pointer (some ⟨b7, 0, none⟩))]) (by kernel_rfl) ?_
  refine r_load (c := (cd22 [1, 1, 0, 0])) (i := 1) (d := (some 17)) (ty := 3) (t := 3) (x := (.tmp 16)) (p := ⟨b7, 0, none⟩) (v := .int .i64 ((gt a0 a1).Op)) (by kernel_rfl) (by kernel_rfl) (by kernel_rfl) (loads_at 0 (hS12.blk 0 rfl) (by kernel_rfl) (by kernel_rfl)) ?_
  refine sx_split 5 (todo' := [.inRegion (opsOf (cd22 [1, 1, 0, 1, 0, 0])) [1], .code (cd22 [1, 1, 0, 1, 0, 1]), .inBlock 0, .code (cd22 [1, 1, 1])]) (us := []) (d := 19) (t := (((gt a0 a1).Op) == 3)) (by kernel_rfl) (fun h13 => ?_) (fun h14 => ?_)
  ·skip
   have hp15 := ite_t hp2 h13
   refine sx_run 7 (todo' := [.inRegion (opsOf (cd22 [1, 1, 0, 1, 0, 1, 0, 0])) [2, 3, 4, 5, 6, 7], .code (cd22 [1, 1, 0, 1, 0, 1, 0, 1]), .inBlock 0, .code (cd22 [1, 1, 1])]) (us := [(18, .bool true), (20, .slice Aa0 a0.length ca0), (21, .pointer (some ⟨b7, 1, none⟩))]) (by kernel_rfl) ?_
   refine r_load (c := (cd22 [1, 1, 0, 1, 0, 1, 0, 0])) (i := 2) (d := (some 22)) (ty := 3) (t := 3) (x := (.tmp 21)) (p := ⟨b7, 1, none⟩) (v := .int .i64 ((gt a0 a1).A)) (by kernel_rfl) (by kernel_rfl) (by kernel_rfl) (loads_at 1 (hS12.blk 0 rfl) (by kernel_rfl) (by kernel_rfl)) ?_
   refine sx_split 2 (todo' := [.inRegion (opsOf (cd22 [1, 1, 0, 1, 0, 1, 0, 0])) [5, 6, 7], .code (cd22 [1, 1, 0, 1, 0, 1, 0, 1]), .inBlock 0, .code (cd22 [1, 1, 1])]) (us := [(23, .bool a2)]) (d := 24) (t := (!a2)) (by kernel_rfl) (fun h16 => ?_) (fun h17 => ?_)
   ·skip
    have hp18 := ite_t hp15 h16
    refine sx_run 1 (todo' := [.inRegion (opsOf (cd22 [1, 1, 0, 1, 0, 1, 0, 0])) [6, 7], .code (cd22 [1, 1, 0, 1, 0, 1, 0, 1]), .inBlock 0, .code (cd22 [1, 1, 1])]) (us := [(25, .slice Aa3 a3.length ca3)]) (by kernel_rfl) ?_
    obtain ⟨t19, hr22, hp23⟩ := bind_some' hp18
    have hS25 := hS12.pick1
    refine r_call1 (c := (cd22 [1, 1, 0, 1, 0, 1, 0, 0])) (i := 6) (d := (some 26)) (g := 22) (args := #[.slice Aa0 a0.length ca0, .int .i64 ((gt a0 a1).A), .bool true, .slice Aa3 a3.length ca3]) (by kernel_rfl) (by kernel_rfl) (by kernel_rfl) (by kernel_rfl) (hrec_weirref06_plain a0 ((gt a0 a1).A) true a3 Aa0 ca0 Aa3 ca3 hS25 ha0 hr22) ?_
    rintro _ w26 ⟨Q20, Q21, rfl, hS27⟩
    refine ⟨.slice Q20 t19.length Q21, rfl, ?_⟩
    refine sx_run 2 (todo' := [.code (cd22 [1, 1, 0, 1, 0, 1, 0, 1]), .inBlock 0, .code (cd22 [1, 1, 1])]) (us := [(8, .slice Q20 t19.length Q21)]) (by kernel_rfl) ?_
    have hS28 := hS27.pick1
    have hS29 := hS28.drop
    refine runs_ret (fn := Try.f22) (v := .slice Q20 t19.length Q21) Try.func22 (by kernel_rfl) ?_
    have hr30 := (Option.some.inj hp23)
    cases hr30
    exact hR _ _ ⟨Q20, Q21, rfl, hS29⟩
   ·skip
    have hp31 := ite_f hp15 h17
    refine sx_run 1 (todo' := [.inRegion (opsOf (cd22 [1, 1, 0, 1, 0, 1, 0, 0])) [6, 7], .code (cd22 [1, 1, 0, 1, 0, 1, 0, 1]), .inBlock 0, .code (cd22 [1, 1, 1])]) (us := [(25, .slice Aa3 a3.length ca3)]) (by kernel_rfl) ?_
    obtain ⟨t32, hr35, hp36⟩ := bind_some' hp31
    have hS38 := hS12.pick1
    refine r_call1 (c := (cd22 [1, 1, 0, 1, 0, 1, 0, 0])) (i := 6) (d := (some 26)) (g := 22) (args := #[.slice Aa0 a0.length ca0, .int .i64 ((gt a0 a1).A), .bool false, .slice Aa3 a3.length ca3]) (by kernel_rfl) (by kernel_rfl) (by kernel_rfl) (by kernel_rfl) (hrec_weirref06_plain a0 ((gt a0 a1).A) false a3 Aa0 ca0 Aa3 ca3 hS38 ha0 hr35) ?_
    rintro _ w39 ⟨Q33, Q34, rfl, hS40⟩
    refine ⟨.slice Q33 t32.length Q34, rfl, ?_⟩
    refine sx_run 2 (todo' := [.code (cd22 [1, 1, 0, 1, 0, 1, 0, 1]), .inBlock 0, .code (cd22 [1, 1, 1])]) (us := [(8, .slice Q33 t32.length Q34)]) (by kernel_rfl) ?_
    have hS41 := hS40.pick1
    have hS42 := hS41.drop
    refine runs_ret (fn := Try.f22) (v := .slice Q33 t32.length Q34) Try.func22 (by kernel_rfl) ?_
    have hr43 := (Option.some.inj hp36)
    cases hr43
    exact hR _ _ ⟨Q33, Q34, rfl, hS42⟩
  ·skip
   have hp44 := ite_f hp2 h14
   obtain ⟨v45, hv46, hp47⟩ := bind_some' hp44
   have J51 : ∀ (t48 : Bool) (he53 : t48 = v45) (l52 : List Value) (w49 : World) (hS50 : St w0 Z (xrow Aa3 ca3 52 6 (a3.flatMap enc_api_Node) :: xblk b7 52 (enc_api_Node (gt a0 a1)) :: fs) w49), Runs Try.prog 22 [.code (cd22 [1, 1, 0, 1, 0, 1, 1, 1]), .inBlock 0, .code (cd22 [1, 1, 1])] (fill [some (.slice Aa0 a0.length ca0), none, some (.bool a2), some (.slice Aa3 a3.length ca3), none, none, none, none, none, some (.pointer (some ⟨b7, 0, none⟩)), none, none, none, none, none, none, none, none, none, none, none, none, none, none, none, none, none, some (.bool t48), none, none, none, none, none, none, none, none, none, none, none, none, none, none, none, none, none, none, none, none, none, none, none, none, none, none, none, none, none, none, none, none, none, none, none, none, none, none, none, none, none, none, none, none, none] l52) w49 R := by
    intro t48 he53 l52 w49 hS50
    subst he53
    try dsimp only at hp47
    cases t48
    ·skip
     have hp54 := ite_f hp47 rfl
     refine sx_run 6 (todo' := [.inRegion (opsOf (cd22 [1, 1, 1, 0])) [1, 2, 3, 4], .code (cd22 [1, 1, 1, 1])]) (us := [(60, .slice Aa3 a3.length ca3)]) (by kernel_rfl) ?_
     refine r_load (c := (cd22 [1, 1, 1, 0])) (i := 1) (d := (some 61)) (ty := 52) (t := 52) (x := (.tmp 9)) (p := ⟨b7, 0, none⟩) (v := .agg (enc_api_Node (gt a0 a1)).toArray) (by kernel_rfl) (by kernel_rfl) (by kernel_rfl) (loads_agg (hS50.blk 1 rfl) (by kernel_rfl) (by kernel_rfl)) ?_
     refine r_lit (c := (cd22 [1, 1, 1, 0])) (i := 2) (d := (some 62)) (ty := 23) (t := 23) (e := 52) (sz := 6) (n := 1) (parts := #[(0, (.tmp 61))]) (vs := [(0, .agg (enc_api_Node (gt a0 a1)).toArray)]) (z := zeroOf Try.prog 52) (cs' := ([(gt a0 a1)] : List api_Node).flatMap enc_api_Node) hS50 (by kernel_rfl) (by kernel_rfl) (by kernel_rfl) (by kernel_rfl) (by kernel_rfl) (by decide) (by decide) (by kernel_rfl) rfl (Parts.cons (c := enc_api_Node (gt a0 a1)) (by kernel_rfl) (len_api_Node _) Parts.nil) rfl ?_
     intro b56 w57 hS58
     have hS59 := hS58.pick1
     obtain ⟨g60, hp61⟩ := ite_some hp54
     refine r_append (c := (cd22 [1, 1, 1, 0])) (i := 3) (d := (some 63)) (ty := 23) (enc := enc_api_Node) (e := 52) (u := 52) (t := 23) (t2 := 23) (sz := 6) (cp := ca3) (A := Aa3) (bytes := 56) (xs := a3) (ys := ([(gt a0 a1)] : List api_Node)) (s := (.tmp 60)) (x := (.tmp 62)) (xv := .slice (some ⟨b56, 0, none⟩) ([(gt a0 a1)] : List api_Node).length 1) (info := infoOf Try.prog 52) (z := zeroOf Try.prog 52) (ycs := ([(gt a0 a1)] : List api_Node).flatMap enc_api_Node) hS59 (by kernel_rfl) (by kernel_rfl) (by kernel_rfl) (by kernel_rfl) (by kernel_rfl) (.inl (by kernel_rfl)) (by kernel_rfl) (by kernel_rfl) (by kernel_rfl) (by kernel_rfl) (by kernel_rfl) (by omega) len_api_Node one_api_Node (src_row (hS59.row 1 rfl) (by omega) len_api_Node) rfl g60 (by omega) ?_
     intro A62 c63 w64 hS65
     refine sx_run 7 (todo' := [.code (cd22 [1, 1, 1, 1, 0, 1]), .code (cd22 [1, 1, 1, 1, 1])]) (us := [(3, .slice A62 (a3 ++ ([(gt a0 a1)] : List api_Node)).length c63), (64, .bool a2)]) (by kernel_rfl) ?_
     cases a2
     ·skip
      have hp67 := ite_f hp61 rfl
      refine sx_run 7 (todo' := [.code (cd22 [1, 1, 1, 1, 1, 1])]) (us := [(72, .slice A62 (a3 ++ ([(gt a0 a1)] : List api_Node)).length c63), (8, .slice A62 (a3 ++ ([(gt a0 a1)] : List api_Node)).length c63)]) (by kernel_rfl) ?_
      have hS68 := hS65.pick1
      have hS69 := hS68.drop
      have hS70 := hS69.pick1
      have hS71 := hS70.drop
      refine runs_ret (fn := Try.f22) (v := .slice A62 (a3 ++ ([(gt a0 a1)] : List api_Node)).length c63) Try.func22 (by kernel_rfl) ?_
      have hr72 := (Option.some.inj hp67)
      cases hr72
      exact hR _ _ ⟨A62, c63, rfl, hS71⟩
     ·skip
      have hp73 := ite_t hp61 rfl
      refine sx_run 7 (todo' := [.inRegion (opsOf (cd22 [1, 1, 1, 1, 0, 1, 0])) [5, 6, 7], .code (cd22 [1, 1, 1, 1, 1])]) (us := [(65, .slice A62 (a3 ++ ([(gt a0 a1)] : List api_Node)).length c63), (66, .slice A62 (a3 ++ ([(gt a0 a1)] : List api_Node)).length c63), (67, .int .i64 ((a3 ++ ([(gt a0 a1)] : List api_Node)).length : Int)), (68, .int .i64 (IntKind.i64.wrap (((a3 ++ ([(gt a0 a1)] : List api_Node)).length : Int) - 1))), (69, .agg (enc_api_Node (⟨3, (IntKind.i64.wrap (((a3 ++ ([(gt a0 a1)] : List api_Node)).length : Int) - 1)), 0, (⟨0, (⟨#[]⟩ : ByteArray)⟩ : api_Ref), 0⟩ : api_Node)).toArray)]) (by kernel_rfl) ?_
      refine r_lit (c := (cd22 [1, 1, 1, 1, 0, 1, 0])) (i := 5) (d := (some 70)) (ty := 23) (t := 23) (e := 52) (sz := 6) (n := 1) (parts := #[(0, (.tmp 69))]) (vs := [(0, .agg (enc_api_Node (⟨3, (IntKind.i64.wrap (((a3 ++ ([(gt a0 a1)] : List api_Node)).length : Int) - 1)), 0, (⟨0, (⟨#[]⟩ : ByteArray)⟩ : api_Ref), 0⟩ : api_Node)).toArray)]) (z := zeroOf Try.prog 52) (cs' := ([(⟨3, (IntKind.i64.wrap (((a3 ++ ([(gt a0 a1)] : List api_Node)).length : Int) - 1)), 0, (⟨0, (⟨#[]⟩ : ByteArray)⟩ : api_Ref), 0⟩ : api_Node)] : List api_Node).flatMap enc_api_Node) hS65 (by kernel_rfl) (by kernel_rfl) (by kernel_rfl) (by kernel_rfl) (by kernel_rfl) (by decide) (by decide) (by kernel_rfl) rfl (Parts.cons (c := enc_api_Node (⟨3, (IntKind.i64.wrap (((a3 ++ ([(gt a0 a1)] : List api_Node)).length : Int) - 1)), 0, (⟨0, (⟨#[]⟩ : ByteArray)⟩ : api_Ref), 0⟩ : api_Node)) (by kernel_rfl) (len_api_Node _) Parts.nil) rfl ?_
      intro b75 w76 hS77
      have hS78 := hS77.pick1
      obtain ⟨g79, hp80⟩ := ite_some hp73
      refine r_append (c := (cd22 [1, 1, 1, 1, 0, 1, 0])) (i := 6) (d := (some 71)) (ty := 23) (enc := enc_api_Node) (e := 52) (u := 52) (t := 23) (t2 := 23) (sz := 6) (cp := c63) (A := A62) (bytes := 56) (xs := (a3 ++ ([(gt a0 a1)] : List api_Node))) (ys := ([(⟨3, (IntKind.i64.wrap (((a3 ++ ([(gt a0 a1)] : List api_Node)).length : Int) - 1)), 0, (⟨0, (⟨#[]⟩ : ByteArray)⟩ : api_Ref), 0⟩ : api_Node)] : List api_Node)) (s := (.tmp 65)) (x := (.tmp 70)) (xv := .slice (some ⟨b75, 0, none⟩) ([(⟨3, (IntKind.i64.wrap (((a3 ++ ([(gt a0 a1)] : List api_Node)).length : Int) - 1)), 0, (⟨0, (⟨#[]⟩ : ByteArray)⟩ : api_Ref), 0⟩ : api_Node)] : List api_Node).length 1) (info := infoOf Try.prog 52) (z := zeroOf Try.prog 52) (ycs := ([(⟨3, (IntKind.i64.wrap (((a3 ++ ([(gt a0 a1)] : List api_Node)).length : Int) - 1)), 0, (⟨0, (⟨#[]⟩ : ByteArray)⟩ : api_Ref), 0⟩ : api_Node)] : List api_Node).flatMap enc_api_Node) hS78 (by kernel_rfl) (by kernel_rfl) (by kernel_rfl) (by kernel_rfl) (by kernel_rfl) (.inl (by kernel_rfl)) (by kernel_rfl) (by kernel_rfl) (by kernel_rfl) (by kernel_rfl) (by kernel_rfl) (by omega) len_api_Node one_api_Node (src_row (hS78.row 1 rfl) (by omega) len_api_Node) rfl g79 (by omega) ?_
      intro A81 c82 w83 hS84
      refine sx_run 7 (todo' := [.code (cd22 [1, 1, 1, 1, 1, 1])]) (us := [(3, .slice A81 ((a3 ++ ([(gt a0 a1)] : List api_Node)) ++ ([(⟨3, (IntKind.i64.wrap (((a3 ++ ([(gt a0 a1)] : List api_Node)).length : Int) - 1)), 0, (⟨0, (⟨#[]⟩ : ByteArray)⟩ : api_Ref), 0⟩ : api_Node)] : List api_Node)).length c82), (72, .slice A81 ((a3 ++ ([(gt a0 a1)] : List api_Node)) ++ ([(⟨3, (IntKind.i64.wrap (((a3 ++ ([(gt a0 a1)] : List api_Node)).length : Int) - 1)), 0, (⟨0, (⟨#[]⟩ : ByteArray)⟩ : api_Ref), 0⟩ : api_Node)] : List api_Node)).length c82), (8, .slice A81 ((a3 ++ ([(gt a0 a1)] : List api_Node)) ++ ([(⟨3, (IntKind.i64.wrap (((a3 ++ ([(gt a0 a1)] : List api_Node)).length : Int) - 1)), 0, (⟨0, (⟨#[]⟩ : ByteArray)⟩ : api_Ref), 0⟩ : api_Node)] : List api_Node)).length c82)]) (by kernel_rfl) ?_
      have hS86 := hS84.pick1
      have hS87 := hS86.drop
      have hS88 := hS87.pick1
      have hS89 := hS88.drop
      have hS90 := hS89.pick1
      have hS91 := hS90.drop
      refine runs_ret (fn := Try.f22) (v := .slice A81 ((a3 ++ ([(gt a0 a1)] : List api_Node)) ++ ([(⟨3, (IntKind.i64.wrap (((a3 ++ ([(gt a0 a1)] : List api_Node)).length : Int) - 1)), 0, (⟨0, (⟨#[]⟩ : ByteArray)⟩ : api_Ref), 0⟩ : api_Node)] : List api_Node)).length c82) Try.func22 (by kernel_rfl) ?_
      have hr92 := (Option.some.inj hp80)
      cases hr92
      exact hR _ _ ⟨A81, c82, rfl, hS91⟩
    ·skip
     have hp93 := ite_t hp47 rfl
     refine sx_run 4 (todo' := [.inRegion (opsOf (cd22 [1, 1, 0, 1, 0, 1, 1, 1, 0, 0])) [1, 2], .code (cd22 [1, 1, 0, 1, 0, 1, 1, 1, 0, 1]), .inBlock 0, .code (cd22 [1, 1, 1])]) (us := [(30, .pointer (some ⟨b7, 0, none⟩))]) (by kernel_rfl) ?_
     refine r_load (c := (cd22 [1, 1, 0, 1, 0, 1, 1, 1, 0, 0])) (i := 1) (d := (some 31)) (ty := 3) (t := 3) (x := (.tmp 30)) (p := ⟨b7, 0, none⟩) (v := .int .i64 ((gt a0 a1).Op)) (by kernel_rfl) (by kernel_rfl) (by kernel_rfl) (loads_at 0 (hS50.blk 1 rfl) (by kernel_rfl) (by kernel_rfl)) ?_
     refine sx_run 7 (todo' := [.code (cd22 [1, 1, 0, 1, 0, 1, 1, 1, 0, 1, 0, 1]), .code (cd22 [1, 1, 0, 1, 0, 1, 1, 1, 0, 1, 1]), .inBlock 0, .code (cd22 [1, 1, 1])]) (us := [(10, .int .i64 ((gt a0 a1).Op)), (32, .bool a2)]) (by kernel_rfl) ?_
     obtain ⟨v94, hv95, hp96⟩ := bind_some' hp93
     have J101 : ∀ (t97 : Bool) (t98 : Int) (he103 : (t97, t98) = v94) (l102 : List Value) (w99 : World) (hS100 : St w0 Z (xrow Aa3 ca3 52 6 (a3.flatMap enc_api_Node) :: xblk b7 52 (enc_api_Node (gt a0 a1)) :: fs) w99), Runs Try.prog 22 [.code (cd22 [1, 1, 0, 1, 0, 1, 1, 1, 0, 1, 1]), .inBlock 0, .code (cd22 [1, 1, 1])] (fill [some (.slice Aa0 a0.length ca0), none, some (.bool t97), some (.slice Aa3 a3.length ca3), none, none, none, none, none, some (.pointer (some ⟨b7, 0, none⟩)), some (.int .i64 t98), none, none, none, none, none, none, none, none, none, none, none, none, none, none, none, none, none, none, none, none, none, none, none, none, none, none, none, none, none, none, none, none, none, none, none, none, none, none, none, none, none, none, none, none, none, none, none, none, none, none, none, none, none, none, none, none, none, none, none, none, none, none] l102) w99 R := by
      intro t97 t98 he103 l102 w99 hS100
      subst he103
      try dsimp only at hp96
      refine sx_run 4 (todo' := [.inRegion (opsOf (cd22 [1, 1, 0, 1, 0, 1, 1, 1, 0, 1, 1, 0])) [2, 3, 4, 5, 6], .code (cd22 [1, 1, 0, 1, 0, 1, 1, 1, 0, 1, 1, 1]), .inBlock 0, .code (cd22 [1, 1, 1])]) (us := [(36, .slice Aa0 a0.length ca0), (37, .pointer (some ⟨b7, 1, none⟩))]) (by kernel_rfl) ?_
      refine r_load (c := (cd22 [1, 1, 0, 1, 0, 1, 1, 1, 0, 1, 1, 0])) (i := 2) (d := (some 38)) (ty := 3) (t := 3) (x := (.tmp 37)) (p := ⟨b7, 1, none⟩) (v := .int .i64 ((gt a0 a1).A)) (by kernel_rfl) (by kernel_rfl) (by kernel_rfl) (loads_at 1 (hS100.blk 1 rfl) (by kernel_rfl) (by kernel_rfl)) ?_
      refine sx_run 2 (todo' := [.inRegion (opsOf (cd22 [1, 1, 0, 1, 0, 1, 1, 1, 0, 1, 1, 0])) [5, 6], .code (cd22 [1, 1, 0, 1, 0, 1, 1, 1, 0, 1, 1, 1]), .inBlock 0, .code (cd22 [1, 1, 1])]) (us := [(39, .bool t97), (40, .slice Aa3 a3.length ca3)]) (by kernel_rfl) ?_
      obtain ⟨t104, hr107, hp108⟩ := bind_some' hp96
      refine r_call1 (c := (cd22 [1, 1, 0, 1, 0, 1, 1, 1, 0, 1, 1, 0])) (i := 5) (d := (some 41)) (g := 22) (args := #[.slice Aa0 a0.length ca0, .int .i64 ((gt a0 a1).A), .bool t97, .slice Aa3 a3.length ca3]) (by kernel_rfl) (by kernel_rfl) (by kernel_rfl) (by kernel_rfl) (hrec_weirref06_plain a0 ((gt a0 a1).A) t97 a3 Aa0 ca0 Aa3 ca3 hS100 ha0 hr107) ?_
      rintro _ w110 ⟨Q105, Q106, rfl, hS111⟩
      refine ⟨.slice Q105 t104.length Q106, rfl, ?_⟩
      refine sx_run 13 (todo' := [.inRegion (opsOf (cd22 [1, 1, 0, 1, 0, 1, 1, 1, 0, 1, 1, 1, 1, 0])) [2, 3, 4, 5, 6], .code (cd22 [1, 1, 0, 1, 0, 1, 1, 1, 0, 1, 1, 1, 1, 1]), .inBlock 0, .code (cd22 [1, 1, 1])]) (us := [(3, .slice Q105 t104.length Q106), (42, .slice Q105 t104.length Q106), (43, .int .i64 (t104.length : Int)), (44, .int .i64 (IntKind.i64.wrap ((t104.length : Int) - 1))), (11, .int .i64 (IntKind.i64.wrap ((t104.length : Int) - 1))), (45, .slice Aa0 a0.length ca0), (46, .pointer (some ⟨b7, 2, none⟩))]) (by kernel_rfl) ?_
      refine r_load (c := (cd22 [1, 1, 0, 1, 0, 1, 1, 1, 0, 1, 1, 1, 1, 0])) (i := 2) (d := (some 47)) (ty := 3) (t := 3) (x := (.tmp 46)) (p := ⟨b7, 2, none⟩) (v := .int .i64 ((gt a0 a1).B)) (by kernel_rfl) (by kernel_rfl) (by kernel_rfl) (loads_at 2 (hS111.blk 1 rfl) (by kernel_rfl) (by kernel_rfl)) ?_
      refine sx_run 2 (todo' := [.inRegion (opsOf (cd22 [1, 1, 0, 1, 0, 1, 1, 1, 0, 1, 1, 1, 1, 0])) [5, 6], .code (cd22 [1, 1, 0, 1, 0, 1, 1, 1, 0, 1, 1, 1, 1, 1]), .inBlock 0, .code (cd22 [1, 1, 1])]) (us := [(48, .bool t97), (49, .slice Q105 t104.length Q106)]) (by kernel_rfl) ?_
      obtain ⟨t112, hr115, hp116⟩ := bind_some' hp108
      refine r_call1 (c := (cd22 [1, 1, 0, 1, 0, 1, 1, 1, 0, 1, 1, 1, 1, 0])) (i := 5) (d := (some 50)) (g := 22) (args := #[.slice Aa0 a0.length ca0, .int .i64 ((gt a0 a1).B), .bool t97, .slice Q105 t104.length Q106]) (by kernel_rfl) (by kernel_rfl) (by kernel_rfl) (by kernel_rfl) (hrec_weirref06_plain a0 ((gt a0 a1).B) t97 t104 Aa0 ca0 Q105 Q106 hS111 ha0 hr115) ?_
      rintro _ w118 ⟨Q113, Q114, rfl, hS119⟩
      refine ⟨.slice Q113 t112.length Q114, rfl, ?_⟩
      refine sx_run 11 (todo' := [.inRegion (opsOf (cd22 [1, 1, 0, 1, 0, 1, 1, 1, 0, 1, 1, 1, 1, 1, 0])) [7, 8, 9], .code (cd22 [1, 1, 0, 1, 0, 1, 1, 1, 0, 1, 1, 1, 1, 1, 1]), .inBlock 0, .code (cd22 [1, 1, 1])]) (us := [(3, .slice Q113 t112.length Q114), (51, .slice Q113 t112.length Q114), (52, .int .i64 t98), (53, .int .i64 (IntKind.i64.wrap ((t104.length : Int) - 1))), (54, .slice Q113 t112.length Q114), (55, .int .i64 (t112.length : Int)), (56, .int .i64 (IntKind.i64.wrap ((t112.length : Int) - 1))), (57, .agg (enc_api_Node (⟨t98, (IntKind.i64.wrap ((t104.length : Int) - 1)), (IntKind.i64.wrap ((t112.length : Int) - 1)), (⟨0, (⟨#[]⟩ : ByteArray)⟩ : api_Ref), 0⟩ : api_Node)).toArray)]) (by kernel_rfl) ?_
      refine r_lit (c := (cd22 [1, 1, 0, 1, 0, 1, 1, 1, 0, 1, 1, 1, 1, 1, 0])) (i := 7) (d := (some 58)) (ty := 23) (t := 23) (e := 52) (sz := 6) (n := 1) (parts := #[(0, (.tmp 57))]) (vs := [(0, .agg (enc_api_Node (⟨t98, (IntKind.i64.wrap ((t104.length : Int) - 1)), (IntKind.i64.wrap ((t112.length : Int) - 1)), (⟨0, (⟨#[]⟩ : ByteArray)⟩ : api_Ref), 0⟩ : api_Node)).toArray)]) (z := zeroOf Try.prog 52) (cs' := ([(⟨t98, (IntKind.i64.wrap ((t104.length : Int) - 1)), (IntKind.i64.wrap ((t112.length : Int) - 1)), (⟨0, (⟨#[]⟩ : ByteArray)⟩ : api_Ref), 0⟩ : api_Node)] : List api_Node).flatMap enc_api_Node) hS119 (by kernel_rfl) (by kernel_rfl) (by kernel_rfl) (by kernel_rfl) (by kernel_rfl) (by decide) (by decide) (by kernel_rfl) rfl (Parts.cons (c := enc_api_Node (⟨t98, (IntKind.i64.wrap ((t104.length : Int) - 1)), (IntKind.i64.wrap ((t112.length : Int) - 1)), (⟨0, (⟨#[]⟩ : ByteArray)⟩ : api_Ref), 0⟩ : api_Node)) (by kernel_rfl) (len_api_Node _) Parts.nil) rfl ?_
      intro b121 w122 hS123
      have hS124 := hS123.pick1
      obtain ⟨g125, hp126⟩ := ite_some hp116
      refine r_append (c := (cd22 [1, 1, 0, 1, 0, 1, 1, 1, 0, 1, 1, 1, 1, 1, 0])) (i := 8) (d := (some 59)) (ty := 23) (enc := enc_api_Node) (e := 52) (u := 52) (t := 23) (t2 := 23) (sz := 6) (cp := Q114) (A := Q113) (bytes := 56) (xs := t112) (ys := ([(⟨t98, (IntKind.i64.wrap ((t104.length : Int) - 1)), (IntKind.i64.wrap ((t112.length : Int) - 1)), (⟨0, (⟨#[]⟩ : ByteArray)⟩ : api_Ref), 0⟩ : api_Node)] : List api_Node)) (s := (.tmp 51)) (x := (.tmp 58)) (xv := .slice (some ⟨b121, 0, none⟩) ([(⟨t98, (IntKind.i64.wrap ((t104.length : Int) - 1)), (IntKind.i64.wrap ((t112.length : Int) - 1)), (⟨0, (⟨#[]⟩ : ByteArray)⟩ : api_Ref), 0⟩ : api_Node)] : List api_Node).length 1) (info := infoOf Try.prog 52) (z := zeroOf Try.prog 52) (ycs := ([(⟨t98, (IntKind.i64.wrap ((t104.length : Int) - 1)), (IntKind.i64.wrap ((t112.length : Int) - 1)), (⟨0, (⟨#[]⟩ : ByteArray)⟩ : api_Ref), 0⟩ : api_Node)] : List api_Node).flatMap enc_api_Node) hS124 (by kernel_rfl) (by kernel_rfl) (by kernel_rfl) (by kernel_rfl) (by kernel_rfl) (.inl (by kernel_rfl)) (by kernel_rfl) (by kernel_rfl) (by kernel_rfl) (by kernel_rfl) (by kernel_rfl) (by omega) len_api_Node one_api_Node (src_row (hS124.row 1 rfl) (by omega) len_api_Node) rfl g125 (by omega) ?_
      intro A127 c128 w129 hS130
      refine sx_run 2 (todo' := [.code (cd22 [1, 1, 0, 1, 0, 1, 1, 1, 0, 1, 1, 1, 1, 1, 1]), .inBlock 0, .code (cd22 [1, 1, 1])]) (us := [(8, .slice A127 (t112 ++ ([(⟨t98, (IntKind.i64.wrap ((t104.length : Int) - 1)), (IntKind.i64.wrap ((t112.length : Int) - 1)), (⟨0, (⟨#[]⟩ : ByteArray)⟩ : api_Ref), 0⟩ : api_Node)] : List api_Node)).length c128)]) (by kernel_rfl) ?_
      have hS132 := hS130.pick1
      have hS133 := hS132.drop
      have hS134 := hS133.pick1
      have hS135 := hS134.drop
      refine runs_ret (fn := Try.f22) (v := .slice A127 (t112 ++ ([(⟨t98, (IntKind.i64.wrap ((t104.length : Int) - 1)), (IntKind.i64.wrap ((t112.length : Int) - 1)), (⟨0, (⟨#[]⟩ : ByteArray)⟩ : api_Ref), 0⟩ : api_Node)] : List api_Node)).length c128) Try.func22 (by kernel_rfl) ?_
      have hr136 := (Option.some.inj hp126)
      cases hr136
      exact hR _ _ ⟨A127, c128, rfl, hS135⟩
     cases a2
     ·skip
      have hp137 := ite_f hv95 rfl
      refine sx_run 2 (todo' := [.code (cd22 [1, 1, 0, 1, 0, 1, 1, 1, 0, 1, 1]), .inBlock 0, .code (cd22 [1, 1, 1])]) (us := []) (by kernel_rfl) ?_
      refine Runs.fill (m := [some (.slice Aa0 a0.length ca0), none, some (.bool false), some (.slice Aa3 a3.length ca3), none, none, none, none, none, some (.pointer (some ⟨b7, 0, none⟩)), some (.int .i64 ((gt a0 a1).Op)), none, none, none, none, none, none, none, none, none, none, none, none, none, none, none, none, none, none, none, none, none, none, none, none, none, none, none, none, none, none, none, none, none, none, none, none, none, none, none, none, none, none, none, none, none, none, none, none, none, none, none, none, none, none, none, none, none, none, none, none, none, none]) (by kernel_rfl) ?_
      exact J101 false ((gt a0 a1).Op) (Option.some.inj hp137) _ _ hS50
     ·skip
      have hp138 := ite_t hv95 rfl
      refine sx_run 3 (todo' := [.inRegion (opsOf (cd22 [1, 1, 0, 1, 0, 1, 1, 1, 0, 1, 0, 1, 0])) [1, 2, 3], .code (cd22 [1, 1, 0, 1, 0, 1, 1, 1, 0, 1, 1]), .inBlock 0, .code (cd22 [1, 1, 1])]) (us := [(33, .pointer (some ⟨b7, 0, none⟩))]) (by kernel_rfl) ?_
      refine r_load (c := (cd22 [1, 1, 0, 1, 0, 1, 1, 1, 0, 1, 0, 1, 0])) (i := 1) (d := (some 34)) (ty := 3) (t := 3) (x := (.tmp 33)) (p := ⟨b7, 0, none⟩) (v := .int .i64 ((gt a0 a1).Op)) (by kernel_rfl) (by kernel_rfl) (by kernel_rfl) (loads_at 0 (hS50.blk 1 rfl) (by kernel_rfl) (by kernel_rfl)) ?_
      refine sx_run 3 (todo' := [.code (cd22 [1, 1, 0, 1, 0, 1, 1, 1, 0, 1, 1]), .inBlock 0, .code (cd22 [1, 1, 1])]) (us := [(35, .int .i64 (IntKind.i64.wrap (9 - ((gt a0 a1).Op)))), (10, .int .i64 (IntKind.i64.wrap (9 - ((gt a0 a1).Op))))]) (by kernel_rfl) ?_
      refine Runs.fill (m := [some (.slice Aa0 a0.length ca0), none, some (.bool true), some (.slice Aa3 a3.length ca3), none, none, none, none, none, some (.pointer (some ⟨b7, 0, none⟩)), some (.int .i64 (IntKind.i64.wrap (9 - ((gt a0 a1).Op)))), none, none, none, none, none, none, none, none, none, none, none, none, none, none, none, none, none, none, none, none, none, none, none, none, none, none, none, none, none, none, none, none, none, none, none, none, none, none, none, none, none, none, none, none, none, none, none, none, none, none, none, none, none, none, none, none, none, none, none, none, none, none]) (by kernel_rfl) ?_
      exact J101 true (IntKind.i64.wrap (9 - ((gt a0 a1).Op))) (Option.some.inj hp138) _ _ hS50
   refine sx_split 7 (todo' := [.inRegion (opsOf (cd22 [1, 1, 0, 1, 0, 1, 1, 0, 0])) [1], .code (cd22 [1, 1, 0, 1, 0, 1, 1, 0, 1]), .code (cd22 [1, 1, 0, 1, 0, 1, 1, 1]), .inBlock 0, .code (cd22 [1, 1, 1])]) (us := [(18, .bool false)]) (d := 28) (t := (((gt a0 a1).Op) == 4)) (by kernel_rfl) (fun h139 => ?_) (fun h140 => ?_)
   ·skip
    have hp141 := ite_t hv46 h139
    refine sx_run 4 (todo' := [.code (cd22 [1, 1, 0, 1, 0, 1, 1, 1]), .inBlock 0, .code (cd22 [1, 1, 1])]) (us := [(27, .bool true)]) (by kernel_rfl) ?_
    have hS142 := hS12.pick1
    refine Runs.fill (m := [some (.slice Aa0 a0.length ca0), none, some (.bool a2), some (.slice Aa3 a3.length ca3), none, none, none, none, none, some (.pointer (some ⟨b7, 0, none⟩)), none, none, none, none, none, none, none, none, none, none, none, none, none, none, none, none, none, some (.bool true), none, none, none, none, none, none, none, none, none, none, none, none, none, none, none, none, none, none, none, none, none, none, none, none, none, none, none, none, none, none, none, none, none, none, none, none, none, none, none, none, none, none, none, none, none]) (by kernel_rfl) ?_
    exact J51 true (Option.some.inj hp141) _ _ hS142
   ·skip
    have hp143 := ite_f hv46 h140
    refine sx_split 5 (todo' := [.inRegion (opsOf (cd22 [1, 1, 0, 1, 0, 1, 1, 0, 1, 1])) [1], .code (cd22 [1, 1, 0, 1, 0, 1, 1, 1]), .inBlock 0, .code (cd22 [1, 1, 1])]) (us := [(27, .bool false)]) (d := 29) (t := (((gt a0 a1).Op) == 5)) (by kernel_rfl) (fun h144 => ?_) (fun h145 => ?_)
    ·skip
     have hp146 := ite_t hp143 h144
     refine sx_run 2 (todo' := [.code (cd22 [1, 1, 0, 1, 0, 1, 1, 1]), .inBlock 0, .code (cd22 [1, 1, 1])]) (us := [(27, .bool true)]) (by kernel_rfl) ?_
     have hS147 := hS12.pick1
     refine Runs.fill (m := [some (.slice Aa0 a0.length ca0), none, some (.bool a2), some (.slice Aa3 a3.length ca3), none, none, none, none, none, some (.pointer (some ⟨b7, 0, none⟩)), none, none, none, none, none, none, none, none, none, none, none, none, none, none, none, none, none, some (.bool true), none, none, none, none, none, none, none, none, none, none, none, none, none, none, none, none, none, none, none, none, none, none, none, none, none, none, none, none, none, none, none, none, none, none, none, none, none, none, none, none, none, none, none, none, none]) (by kernel_rfl) ?_
     exact J51 true (Option.some.inj hp146) _ _ hS147
    ·skip
     have hp148 := ite_f hp143 h145
     refine sx_run 2 (todo' := [.code (cd22 [1, 1, 0, 1, 0, 1, 1, 1]), .inBlock 0, .code (cd22 [1, 1, 1])]) (us := [(27, .bool false)]) (by kernel_rfl) ?_
     have hS149 := hS12.pick1
     refine Runs.fill (m := [some (.slice Aa0 a0.length ca0), none, some (.bool a2), some (.slice Aa3 a3.length ca3), none, none, none, none, none, some (.pointer (some ⟨b7, 0, none⟩)), none, none, none, none, none, none, none, none, none, none, none, none, none, none, none, none, none, some (.bool false), none, none, none, none, none, none, none, none, none, none, none, none, none, none, none, none, none, none, none, none, none, none, none, none, none, none, none, none, none, none, none, none, none, none, none, none, none, none, none, none, none, none, none, none, none]) (by kernel_rfl) ?_
     exact J51 false (Option.some.inj hp148) _ _ hS149
def weirref06_plain.f : Nat → (List api_Node) → Int → Bool → (List api_Node) → Option (List api_Node)
  | 0 => fun _ _ _ _ => none
  | n + 1 => weirref06_plain.body (weirref06_plain.f n)
theorem weirref06_plain.all : ∀ n, weirref06_plain.Spec (weirref06_plain.f n)
  | 0 => by
    intro a0 a1 a2 a3 Aa0 ca0 Aa3 ca3 w0 Z fs w hS0 ha0 q0 hp0
    cases hp0
  | n + 1 => weirref06_plain.bok (weirref06_plain.f n) (weirref06_plain.all n)
theorem weirref06_plain.ok : weirref06_plain.Spec (weirref06_plain.f fuelN) := weirref06_plain.all fuelN

noncomputable def cd7 (p : List Nat) : Code := sub (bodyOf Try.f7) p
def weirref06_Plain.f (a0 : List api_Node) : Option ((List api_Node) × Int) :=
  (weirref06_Check.f a0 >>= (fun t1 => (if (t1 != 0) = true then some (([], t1)) else (weirref06_plain.f fuelN a0 (IntKind.i64.wrap ((a0.length : Int) - 1)) false ([] : List api_Node) >>= (fun t15 => (if (decide ((t15.length : Int) > 1024)) = true then some (([], 1)) else (weirref06_Check.f t15 >>= (fun t32 => (if (t32 != 0) = true then some (([], t32)) else some ((t15, 0)))))))))))
set_option maxHeartbeats 16000000 in
theorem weirref06_Plain.ok (a0 : List api_Node) (Aa0 : Option Addr) (ca0 : Nat) {w0 : World} {Z : Zm} {fs : List XObj} {w : World} (hS0 : St w0 Z (fs) w) (ha0 : SlZ (flat enc_api_Node) 6 Z Aa0 ca0 a0) {q0 : List api_Node} {q1 : Int} (hp0 : weirref06_Plain.f a0 = some (q0, q1)) :
    Calls Try.prog 7 #[.slice Aa0 a0.length ca0] w (fun e w' => ∃ (QA0 : Option Addr) (Qc0 : Nat), e = .returned (.tuple #[.slice QA0 q0.length Qc0, .int .i64 q1]) ∧ St w0 Z (xrow QA0 Qc0 52 6 (q0.flatMap enc_api_Node) :: fs) w') := by
  refine calls_abs ?_; intro R hR
  unfold weirref06_Plain.f at hp0
  refine calls_of_runs (fn := Try.f7) (c := cd7 []) Try.func7 (by kernel_rfl) (al := [.slice Aa0 a0.length ca0]) rfl (n := 24) rfl ?_
  refine sx_run 8 (todo' := [.inRegion (opsOf (cd7 [1, 0])) [1, 2], .code (cd7 [1, 1])]) (us := [(2, .slice none 0 0), (3, .int .i64 0), (6, .slice Aa0 a0.length ca0)]) (by kernel_rfl) ?_
  obtain ⟨t1, hr2, hp3⟩ := bind_some' hp0
  refine r_call1 (c := (cd7 [1, 0])) (i := 1) (d := (some 7)) (g := 21) (args := #[.slice Aa0 a0.length ca0]) (by kernel_rfl) (by kernel_rfl) (by kernel_rfl) (by kernel_rfl) (weirref06_Check.ok a0 Aa0 ca0 hS0 ha0 hr2) ?_
  rintro _ w4 ⟨rfl, hS5⟩
  refine ⟨.int .i64 t1, rfl, ?_⟩
  refine sx_split 7 (todo' := [.inRegion (opsOf (cd7 [1, 1, 0, 0])) [], .code (cd7 [1, 1, 0, 1]), .code (cd7 [1, 1, 1])]) (us := [(4, .int .i64 t1), (8, .int .i64 t1)]) (d := 9) (t := (t1 != 0)) (by kernel_rfl) (fun h6 => ?_) (fun h7 => ?_)
  ·skip
   have hp8 := ite_t hp3 h6
   refine sx_run 8 (todo' := [.code (cd7 [1, 1, 0, 1, 0, 1]), .code (cd7 [1, 1, 1])]) (us := [(10, .int .i64 t1), (2, .slice none 0 0), (3, .int .i64 t1)]) (by kernel_rfl) ?_
   have hS10 := hS5.nilrow none 52 6
   refine runs_ret (fn := Try.f7) (v := .tuple #[.slice none 0 0, .int .i64 t1]) Try.func7 (by kernel_rfl) ?_
   have hr11 := (Option.some.inj hp8)
   cases hr11
   exact hR _ _ ⟨none, 0, rfl, hS10⟩
  ·skip
   have hp12 := ite_f hp3 h7
   refine sx_run 9 (todo' := [.inRegion (opsOf (cd7 [1, 1, 1, 0])) [4, 5], .code (cd7 [1, 1, 1, 1])]) (us := [(11, .slice Aa0 a0.length ca0), (12, .slice Aa0 a0.length ca0), (13, .int .i64 (a0.length : Int)), (14, .int .i64 (IntKind.i64.wrap ((a0.length : Int) - 1)))]) (by kernel_rfl) ?_
   have hS14 := hS5.nilrow none 52 6
   obtain ⟨t15, hr18, hp19⟩ := bind_some' hp12
   refine r_call1 (c := (cd7 [1, 1, 1, 0])) (i := 4) (d := (some 15)) (g := 22) (args := #[.slice Aa0 a0.length ca0, .int .i64 (IntKind.i64.wrap ((a0.length : Int) - 1)), .bool false, .slice none 0 0]) (by kernel_rfl) (by kernel_rfl) (by kernel_rfl) (by kernel_rfl) (weirref06_plain.ok a0 (IntKind.i64.wrap ((a0.length : Int) - 1)) false ([] : List api_Node) Aa0 ca0 none 0 hS14 ha0 hr18) ?_
   rintro _ w21 ⟨Q16, Q17, rfl, hS22⟩
   refine ⟨.slice Q16 t15.length Q17, rfl, ?_⟩
   refine sx_split 8 (todo' := [.inRegion (opsOf (cd7 [1, 1, 1, 1, 0, 0])) [], .code (cd7 [1, 1, 1, 1, 0, 1]), .code (cd7 [1, 1, 1, 1, 1])]) (us := [(5, .slice Q16 t15.length Q17), (16, .slice Q16 t15.length Q17), (17, .int .i64 (t15.length : Int))]) (d := 18) (t := (decide ((t15.length : Int) > 1024))) (by kernel_rfl) (fun h23 => ?_) (fun h24 => ?_)
   ·skip
    have hp25 := ite_t hp19 h23
    refine sx_run 7 (todo' := [.code (cd7 [1, 1, 1, 1, 0, 1, 0, 1]), .code (cd7 [1, 1, 1, 1, 1])]) (us := [(2, .slice none 0 0), (3, .int .i64 1)]) (by kernel_rfl) ?_
    have hS27 := hS22.nilrow none 52 6
    have hS28 := hS27.pick1
    have hS29 := hS28.drop
    refine runs_ret (fn := Try.f7) (v := .tuple #[.slice none 0 0, .int .i64 1]) Try.func7 (by kernel_rfl) ?_
    have hr30 := (Option.some.inj hp25)
    cases hr30
    exact hR _ _ ⟨none, 0, rfl, hS29⟩
   ·skip
    have hp31 := ite_f hp19 h24
    refine sx_run 6 (todo' := [.inRegion (opsOf (cd7 [1, 1, 1, 1, 1, 0])) [1, 2], .code (cd7 [1, 1, 1, 1, 1, 1])]) (us := [(19, .slice Q16 t15.length Q17)]) (by kernel_rfl) ?_
    obtain ⟨t32, hr33, hp34⟩ := bind_some' hp31
    obtain ⟨Z35, hz36, hS37, hs38, hb39⟩ := hS22.lendrow len_api_Node (by omega)
    refine r_call1 (c := (cd7 [1, 1, 1, 1, 1, 0])) (i := 1) (d := (some 20)) (g := 21) (args := #[.slice Q16 t15.length Q17]) (by kernel_rfl) (by kernel_rfl) (by kernel_rfl) (by kernel_rfl) (weirref06_Check.ok t15 Q16 Q17 hS37 hs38 hr33) ?_
    rintro _ w40 ⟨rfl, hS41⟩
    refine ⟨.int .i64 t32, rfl, ?_⟩
    have hS42 := hb39 _ _ hS41
    refine sx_split 7 (todo' := [.inRegion (opsOf (cd7 [1, 1, 1, 1, 1, 1, 0, 0])) [], .code (cd7 [1, 1, 1, 1, 1, 1, 0, 1]), .code (cd7 [1, 1, 1, 1, 1, 1, 1])]) (us := [(4, .int .i64 t32), (21, .int .i64 t32)]) (d := 22) (t := (t32 != 0)) (by kernel_rfl) (fun h43 => ?_) (fun h44 => ?_)
    ·skip
     have hp45 := ite_t hp34 h43
     refine sx_run 8 (todo' := [.code (cd7 [1, 1, 1, 1, 1, 1, 0, 1, 0, 1]), .code (cd7 [1, 1, 1, 1, 1, 1, 1])]) (us := [(23, .int .i64 t32), (2, .slice none 0 0), (3, .int .i64 t32)]) (by kernel_rfl) ?_
     have hS47 := hS42.nilrow none 52 6
     have hS48 := hS47.pick1
     have hS49 := hS48.drop
     refine runs_ret (fn := Try.f7) (v := .tuple #[.slice none 0 0, .int .i64 t32]) Try.func7 (by kernel_rfl) ?_
     have hr50 := (Option.some.inj hp45)
     cases hr50
     exact hR _ _ ⟨none, 0, rfl, hS49⟩
    ·skip
     have hp51 := ite_f hp34 h44
     refine sx_run 9 (todo' := [.code (cd7 [1, 1, 1, 1, 1, 1, 1, 1])]) (us := [(24, .slice Q16 t15.length Q17), (2, .slice Q16 t15.length Q17), (3, .int .i64 0)]) (by kernel_rfl) ?_
     refine runs_ret (fn := Try.f7) (v := .tuple #[.slice Q16 t15.length Q17, .int .i64 0]) Try.func7 (by kernel_rfl) ?_
     have hr52 := (Option.some.inj hp51)
     cases hr52
     exact hR _ _ ⟨Q16, Q17, rfl, hS42⟩

noncomputable def cd8 (p : List Nat) : Code := sub (bodyOf Try.f8) p
def weirlaw06_sameCond.l0 (a0 : List api_Node) (a1 : List api_Node) (t16 : Int) : Option (Sum Unit Bool) :=
  (if (decide (t16 < (a0.length : Int))) = true then (if 0 ≤ t16 ∧ t16 < (a0.length : Int) then (if 0 ≤ t16 ∧ t16 < (a1.length : Int) then (if (!(decide ((gt a0 t16) = (gt a1 t16)))) = true then some (.inr (false)) else (weirlaw06_sameCond.l0 a0 a1 (IntKind.i64.wrap (t16 + 1)))) else none) else none) else some (.inl ()))
 partial_fixpoint
def weirlaw06_sameCond.f (a0 : List api_Node) (a1 : List api_Node) : Option Bool :=
  (if ((a0.length : Int) != (a1.length : Int)) = true then some (false) else (weirlaw06_sameCond.l0 a0 a1 0 >>= (fun | .inl () => some (true) | .inr e => some e)))
set_option maxHeartbeats 16000000 in
theorem weirlaw06_sameCond.ok (a0 : List api_Node) (a1 : List api_Node) (Aa0 : Option Addr) (ca0 : Nat) (Aa1 : Option Addr) (ca1 : Nat) {w0 : World} {Z : Zm} {fs : List XObj} {w : World} (hS0 : St w0 Z (fs) w) (ha0 : SlZ (flat enc_api_Node) 6 Z Aa0 ca0 a0) (ha1 : SlZ (flat enc_api_Node) 6 Z Aa1 ca1 a1) {q0 : Bool} (hp0 : weirlaw06_sameCond.f a0 a1 = some q0) :
    Calls Try.prog 8 #[.slice Aa0 a0.length ca0, .slice Aa1 a1.length ca1] w (fun e w' => e = .returned (.bool q0) ∧ St w0 Z (fs) w') := by
  refine calls_abs ?_; intro R hR
  unfold weirlaw06_sameCond.f at hp0
  refine calls_of_runs (fn := Try.f8) (c := cd8 []) Try.func8 (by kernel_rfl) (al := [.slice Aa0 a0.length ca0, .slice Aa1 a1.length ca1]) rfl (n := 24) rfl ?_
  refine sx_split 12 (todo' := [.inRegion (opsOf (cd8 [1, 0, 0])) [], .code (cd8 [1, 0, 1]), .code (cd8 [1, 1])]) (us := [(4, .bool false), (6, .slice Aa0 a0.length ca0), (7, .int .i64 (a0.length : Int)), (8, .slice Aa1 a1.length ca1), (9, .int .i64 (a1.length : Int))]) (d := 10) (t := ((a0.length : Int) != (a1.length : Int))) (by kernel_rfl) (fun h1 => ?_) (fun h2 => ?_)
  ·skip
   have hp3 := ite_t hp0 h1
   refine sx_run 6 (todo' := [.code (cd8 [1, 0, 1, 0, 1]), .code (cd8 [1, 1])]) (us := [(4, .bool false)]) (by kernel_rfl) ?_
   refine runs_ret (fn := Try.f8) (v := .bool false) Try.func8 (by kernel_rfl) ?_
   have hr4 := (Option.some.inj hp3)
   cases hr4
   exact hR _ _ ⟨rfl, hS0⟩
  ·skip
   have hp5 := ite_f hp0 h2
   refine sx_run 10 (todo' := [.code (cd8 [1, 1, 0, 1, 0, 0]), .inLoop (cd8 [1, 1, 0, 1, 0, 0]), .inBlock 0, .code (cd8 [1, 1, 1])]) (us := [(5, .int .i64 0)]) (by kernel_rfl) ?_
   obtain ⟨v6, hv7, hp8⟩ := bind_some' hp5
   have hq11 : ∀ x, Sum.inr x = v6 → x = q0 := by intro x hx; subst hx; simpa using hp8
   have J12 : ∀ (he14 : Sum.inl () = v6) (l13 : List Value) (w9 : World) (hS10 : St w0 Z (fs) w9), Runs Try.prog 8 [.code (cd8 [1, 1, 1])] (fill [none, none, none, none, none, none, none, none, none, none, none, none, none, none, none, none, none, none, none, none, none, none, none, none, none, none] l13) w9 R := by
    intro he14 l13 w9 hS10
    subst he14
    try dsimp only at hp8
    refine sx_run 4 (todo' := [.code (cd8 [1, 1, 1, 1])]) (us := [(4, .bool true)]) (by kernel_rfl) ?_
    refine runs_ret (fn := Try.f8) (v := .bool true) Try.func8 (by kernel_rfl) ?_
    have hr15 := (Option.some.inj hp8)
    cases hr15
    exact hR _ _ ⟨rfl, hS10⟩
   have L25 : ∀ (t16 : Int) (e20 : Sum Unit Bool), weirlaw06_sameCond.l0 a0 a1 t16 = some e20 → e20 = v6 → ∀ (l19 : List Value) (w17 : World) (hS18 : St w0 Z (fs) w17), Runs Try.prog 8 [.code (cd8 [1, 1, 0, 1, 0, 0]), .inLoop (cd8 [1, 1, 0, 1, 0, 0]), .inBlock 0, .code (cd8 [1, 1, 1])] (fill [some (.slice Aa0 a0.length ca0), some (.slice Aa1 a1.length ca1), none, none, none, some (.int .i64 t16), none, none, none, none, none, none, none, none, none, none, none, none, none, none, none, none, none, none, none, none] l19) w17 R := by
    refine weirlaw06_sameCond.l0.partial_correctness a0 a1 (fun t16 e20 => e20 = v6 → ∀ (l19 : List Value) (w17 : World) (hS18 : St w0 Z (fs) w17), Runs Try.prog 8 [.code (cd8 [1, 1, 0, 1, 0, 0]), .inLoop (cd8 [1, 1, 0, 1, 0, 0]), .inBlock 0, .code (cd8 [1, 1, 1])] (fill [some (.slice Aa0 a0.length ca0), some (.slice Aa1 a1.length ca1), none, none, none, some (.int .i64 t16), none, none, none, none, none, none, none, none, none, none, none, none, none, none, none, none, none, none, none, none] l19) w17 R) ?_
    intro rec24 ih23 t16 e20 hb22 he21 l19 w17 hS18
    have hq26 : ∀ x, Sum.inr x = e20 → x = q0 := fun x hx => hq11 x (hx.trans he21)
    refine sx_split 7 (todo' := [.inRegion (opsOf (cd8 [1, 1, 0, 1, 0, 0, 0, 0])) [], .code (cd8 [1, 1, 0, 1, 0, 0, 0, 1]), .code (cd8 [1, 1, 0, 1, 0, 0, 1]), .inLoop (cd8 [1, 1, 0, 1, 0, 0]), .inBlock 0, .code (cd8 [1, 1, 1])]) (us := [(11, .int .i64 t16), (12, .slice Aa0 a0.length ca0), (13, .int .i64 (a0.length : Int))]) (d := 14) (t := (decide (t16 < (a0.length : Int)))) (by kernel_rfl) (fun h27 => ?_) (fun h28 => ?_)
    ·skip
     have hp29 := ite_t hb22 h27
     refine sx_run 6 (todo' := [.code (cd8 [1, 1, 0, 1, 0, 0, 1, 0, 0, 0]), .code (cd8 [1, 1, 0, 1, 0, 0, 1, 0, 0, 1]), .inBlock 1, .code (cd8 [1, 1, 0, 1, 0, 0, 1, 1]), .inLoop (cd8 [1, 1, 0, 1, 0, 0]), .inBlock 0, .code (cd8 [1, 1, 1])]) (us := []) (by kernel_rfl) ?_
     refine r_quiet hS18 (c := (cd8 [1, 1, 0, 1, 0, 0, 1, 0, 0, 0])) (id := 6) (by kernel_rfl) (by kernel_rfl) (by kernel_rfl) (is := [0, 1, 2, 3, 4, 5, 6, 7, 8]) (by kernel_rfl) ?_
     refine q_run 2 (is' := [2, 3, 4, 5, 6, 7, 8]) (us := [(17, .slice Aa0 a0.length ca0), (18, .int .i64 t16)]) (by kernel_rfl) ?_
     obtain ⟨g30, hp31⟩ := ite_some hp29
     obtain ⟨b32, p33, hA34, hc35⟩ := ha0.atF g30.1 g30.2
     refine q_indexAddr (c := (cd8 [1, 1, 0, 1, 0, 0, 1, 0, 0, 0])) (i := 2) (d := (some 19)) (ty := 0) (t := 23) (e := 52) (n := a0.length) (cp := ca0) (sz := 6) (kk := .i64) (x := (.tmp 17)) (y := (.tmp 18)) (b := b32) (o' := p33) (j := t16) (by kernel_rfl) (by kernel_rfl) (slv (by kernel_rfl) hA34) (by kernel_rfl) (by kernel_rfl) (by kernel_rfl) g30.1 g30.2 ?_
     refine q_load (c := (cd8 [1, 1, 0, 1, 0, 0, 1, 0, 0, 0])) (i := 3) (d := (some 20)) (ty := 52) (t := 52) (x := (.tmp 19)) (p := ⟨b32, p33 + t16.toNat * 6, none⟩) (v := .agg (enc_api_Node (gt a0 t16)).toArray) (by kernel_rfl) (by kernel_rfl) (by kernel_rfl) (fun w hC => (loads_agg (hc35.cells hC) (by kernel_rfl) (by kernel_rfl))) ?_
     refine q_run 2 (is' := [6, 7, 8]) (us := [(21, .slice Aa1 a1.length ca1), (22, .int .i64 t16)]) (by kernel_rfl) ?_
     obtain ⟨g36, hp37⟩ := ite_some hp31
     obtain ⟨b38, p39, hA40, hc41⟩ := ha1.atF g36.1 g36.2
     refine q_indexAddr (c := (cd8 [1, 1, 0, 1, 0, 0, 1, 0, 0, 0])) (i := 6) (d := (some 23)) (ty := 0) (t := 23) (e := 52) (n := a1.length) (cp := ca1) (sz := 6) (kk := .i64) (x := (.tmp 21)) (y := (.tmp 22)) (b := b38) (o' := p39) (j := t16) (by kernel_rfl) (by kernel_rfl) (slv (by kernel_rfl) hA40) (by kernel_rfl) (by kernel_rfl) (by kernel_rfl) g36.1 g36.2 ?_
     refine q_load (c := (cd8 [1, 1, 0, 1, 0, 0, 1, 0, 0, 0])) (i := 7) (d := (some 24)) (ty := 52) (t := 52) (x := (.tmp 23)) (p := ⟨b38, p39 + t16.toNat * 6, none⟩) (v := .agg (enc_api_Node (gt a1 t16)).toArray) (by kernel_rfl) (by kernel_rfl) (by kernel_rfl) (fun w hC => (loads_agg (hc41.cells hC) (by kernel_rfl) (by kernel_rfl))) ?_
     refine q_val (c := (cd8 [1, 1, 0, 1, 0, 0, 1, 0, 0, 0])) (i := 8) (d := (some 25)) (ty := 4) (op := .binOp .neq 52 (.tmp 20) (.tmp 24) 52) (v := .bool (!(decide ((gt a0 t16) = (gt a1 t16))))) (by kernel_rfl) (by kernel_rfl) (fun w hC o ho _ => x_neq_api_Node (by kernel_rfl) (by kernel_rfl) ho) ?_
     refine q_split (!(decide ((gt a0 t16) = (gt a1 t16)))) (fun h42 => ?_) (fun h43 => ?_)
     ·skip
      have hp44 := ite_t hp37 h42
      refine Qs.nil ?_
      intro w45 hS46
      refine sx_run 5 (todo' := [.code (cd8 [1, 1, 0, 1, 0, 0, 1, 0, 0, 1, 0, 1]), .inBlock 1, .code (cd8 [1, 1, 0, 1, 0, 0, 1, 1]), .inLoop (cd8 [1, 1, 0, 1, 0, 0]), .inBlock 0, .code (cd8 [1, 1, 1])]) (us := [(4, .bool false)]) (by kernel_rfl) ?_
      refine runs_ret (fn := Try.f8) (v := .bool false) Try.func8 (by kernel_rfl) ?_
      have hr47 := (hq26 _ (Option.some.inj hp44))
      cases hr47
      exact hR _ _ ⟨rfl, hS46⟩
     ·skip
      have hp48 := ite_f hp37 h43
      refine Qs.nil ?_
      intro w49 hS50
      refine sx_run 8 (todo' := [.inLoop (cd8 [1, 1, 0, 1, 0, 0]), .inBlock 0, .code (cd8 [1, 1, 1])]) (us := [(15, .int .i64 t16), (16, .int .i64 (IntKind.i64.wrap (t16 + 1))), (5, .int .i64 (IntKind.i64.wrap (t16 + 1)))]) (by kernel_rfl) ?_
      refine sx_run 1 (todo' := [.code (cd8 [1, 1, 0, 1, 0, 0]), .inLoop (cd8 [1, 1, 0, 1, 0, 0]), .inBlock 0, .code (cd8 [1, 1, 1])]) (us := []) (by kernel_rfl) ?_
      refine Runs.fill (m := [some (.slice Aa0 a0.length ca0), some (.slice Aa1 a1.length ca1), none, none, none, some (.int .i64 (IntKind.i64.wrap (t16 + 1))), none, none, none, none, none, none, none, none, none, none, none, none, none, none, none, none, none, none, none, none]) (by kernel_rfl) ?_
      exact ih23 (IntKind.i64.wrap (t16 + 1)) _ hp48 he21 _ _ hS50
    ·skip
     have hp51 := ite_f hb22 h28
     refine sx_run 3 (todo' := [.code (cd8 [1, 1, 1])]) (us := []) (by kernel_rfl) ?_
     refine Runs.fill (m := [none, none, none, none, none, none, none, none, none, none, none, none, none, none, none, none, none, none, none, none, none, none, none, none, none, none]) (by kernel_rfl) ?_
     exact J12 ((Option.some.inj hp51).trans he21) _ _ hS18
   refine Runs.fill (m := [some (.slice Aa0 a0.length ca0), some (.slice Aa1 a1.length ca1), none, none, none, some (.int .i64 0), none, none, none, none, none, none, none, none, none, none, none, none, none, none, none, none, none, none, none, none]) (by kernel_rfl) ?_
   exact L25 0 _ hv7 rfl _ _ hS0

noncomputable def cd9 (p : List Nat) : Code := sub (bodyOf Try.f9) p
def weirlaw06_num.f (a0 : Int) : Option Int :=
  some (a0)
set_option maxHeartbeats 16000000 in
theorem weirlaw06_num.ok (a0 : Int) {w0 : World} {Z : Zm} {fs : List XObj} {w : World} (hS0 : St w0 Z (fs) w) {q0 : Int} (hp0 : weirlaw06_num.f a0 = some q0) :
    Calls Try.prog 9 #[.int .i64 a0] w (fun e w' => e = .returned (.int .i64 q0) ∧ St w0 Z (fs) w') := by
  refine calls_abs ?_; intro R hR
  unfold weirlaw06_num.f at hp0
  refine calls_of_runs (fn := Try.f9) (c := cd9 []) Try.func9 (by kernel_rfl) (al := [.int .i64 a0]) rfl (n := 3) rfl ?_
  refine sx_run 9 (todo' := [.code (cd9 [1, 1])]) (us := [(2, .int .i64 0), (3, .int .i64 a0), (2, .int .i64 a0)]) (by kernel_rfl) ?_
  refine runs_ret (fn := Try.f9) (v := .int .i64 a0) Try.func9 (by kernel_rfl) ?_
  have hr1 := (Option.some.inj hp0)
  cases hr1
  exact hR _ _ ⟨rfl, hS0⟩

noncomputable def cd10 (p : List Nat) : Code := sub (bodyOf Try.f10) p
def weirlaw06_back.f (a0 : List api_Node) (a0n : Nat) (a1 : List api_Node) : Option Bool :=
  (if 0 ≤ (IntKind.i64.wrap ((a1.length : Int) + 1)) ∧ (IntKind.i64.wrap ((a1.length : Int) + 1)) ≤ (a0.length : Int) then (if a0n ≤ a0.length then (weirlaw06_sameCond.f (a0.take a0n) a1 >>= (fun t7 => (if t7 = true then (if 0 ≤ (a1.length : Int) ∧ (a1.length : Int) < (((IntKind.i64.wrap ((a1.length : Int) + 1)).toNat : Nat) : Int) ∧ (a1.length : Int) < (a0.length : Int) then (if (((gt a0 (a1.length : Int)).Op) == 77) = true then some (true) else some (false)) else none) else some (false)))) else none) else none)
set_option maxHeartbeats 16000000 in
theorem weirlaw06_back.ok (a0 : List api_Node) (a0n : Nat) (a1 : List api_Node) (Aa0 : Option Addr) (ca0 : Nat) (Aa1 : Option Addr) (ca1 : Nat) {w0 : World} {Z : Zm} {fs : List XObj} {w : World} (hS0 : St w0 Z (xrow Aa0 ca0 52 6 (a0.flatMap enc_api_Node) :: fs) w) (ha1 : SlZ (flat enc_api_Node) 6 Z Aa1 ca1 a1) {q0 : Bool} (hp0 : weirlaw06_back.f a0 a0n a1 = some q0) :
    Calls Try.prog 10 #[.slice Aa0 a0n ca0, .slice Aa1 a1.length ca1] w (fun e w' => e = .returned (.bool q0) ∧ St w0 Z (xrow Aa0 ca0 52 6 (a0.flatMap enc_api_Node) :: fs) w') := by
  refine calls_abs ?_; intro R hR
  unfold weirlaw06_back.f at hp0
  refine calls_of_runs (fn := Try.f10) (c := cd10 []) Try.func10 (by kernel_rfl) (al := [.slice Aa0 a0n ca0, .slice Aa1 a1.length ca1]) rfl (n := 21) rfl ?_
  refine sx_run 10 (todo' := [.inRegion (opsOf (cd10 [1, 0])) [4, 5], .code (cd10 [1, 1])]) (us := [(4, .bool false), (6, .slice Aa0 a0n ca0), (7, .slice Aa1 a1.length ca1), (8, .int .i64 (a1.length : Int)), (9, .int .i64 (IntKind.i64.wrap ((a1.length : Int) + 1)))]) (by kernel_rfl) ?_
  obtain ⟨g1, hp2⟩ := ite_some hp0
  have hc3 := (hS0.row 0 rfl).cap len_api_Node (by omega)
  have g4 : 0 ≤ (IntKind.i64.wrap ((a1.length : Int) + 1)) ∧ (IntKind.i64.wrap ((a1.length : Int) + 1)) ≤ (ca0 : Int) := by omega
  refine r_val (c := (cd10 [1, 0])) (i := 4) (d := (some 10)) (ty := 23) (op := .slice 23 (.tmp 6) none (some (.tmp 9)) none) (v := .slice Aa0 ((IntKind.i64.wrap ((a1.length : Int) + 1)).toNat) ca0) (by kernel_rfl) (by kernel_rfl) (fun o ho _ => x_cutSl_nsC (e := 52) (sz := 6) (A := Aa0) (n := a0n) (c := ca0) (k := .i64) (by kernel_rfl) (by kernel_rfl) (by kernel_rfl) (by kernel_rfl) g4 cut0 ho) ?_
  refine sx_run 6 (todo' := [.inRegion (opsOf (cd10 [1, 1, 0])) [2, 3, 4, 5, 6, 7, 8, 9, 10, 11, 12], .code (cd10 [1, 1, 1])]) (us := [(5, .slice Aa0 ((IntKind.i64.wrap ((a1.length : Int) + 1)).toNat) ca0), (11, .slice Aa0 a0n ca0), (12, .slice Aa1 a1.length ca1)]) (by kernel_rfl) ?_
  obtain ⟨g5, hp6⟩ := ite_some hp2
  obtain ⟨t7, hr8, hp9⟩ := bind_some' hp6
  obtain ⟨Z10, hz11, hS12, hs13, hb14⟩ := hS0.lendrow len_api_Node (by omega)
  refine r_call1 (c := (cd10 [1, 1, 0])) (i := 2) (d := (some 13)) (g := 8) (args := #[.slice Aa0 a0n ca0, .slice Aa1 a1.length ca1]) (by kernel_rfl) (by kernel_rfl) (by kernel_rfl) (by kernel_rfl) (args_eq (by rw [lenTake g5]) (weirlaw06_sameCond.ok (a0.take a0n) a1 Aa0 ca0 Aa1 ca1 hS12 (hs13.take0 a0n) (ha1.up hz11) hr8)) ?_
  rintro _ w15 ⟨rfl, hS16⟩
  refine ⟨.bool t7, rfl, ?_⟩
  have hS17 := hb14 _ _ hS16
  refine sx_run 1 (todo' := [.inRegion (opsOf (cd10 [1, 1, 0])) [4, 5, 6, 7, 8, 9, 10, 11, 12], .code (cd10 [1, 1, 1])]) (us := [(14, .bool t7)]) (by kernel_rfl) ?_
  cases t7
  ·skip
   have hp18 := ite_f hp9 rfl
   refine sx_run 10 (todo' := [.code (cd10 [1, 1, 1])]) (us := [(15, undef), (16, undef), (17, undef), (18, undef), (19, undef), (20, undef), (21, undef), (22, .bool false), (4, .bool false)]) (by kernel_rfl) ?_
   refine runs_ret (fn := Try.f10) (v := .bool false) Try.func10 (by kernel_rfl) ?_
   have hr19 := (Option.some.inj hp18)
   cases hr19
   exact hR _ _ ⟨rfl, hS17⟩
  ·skip
   have hp20 := ite_t hp9 rfl
   refine sx_run 3 (todo' := [.inRegion (opsOf (cd10 [1, 1, 0])) [7, 8, 9, 10, 11, 12], .code (cd10 [1, 1, 1])]) (us := [(15, .slice Aa0 ((IntKind.i64.wrap ((a1.length : Int) + 1)).toNat) ca0), (16, .slice Aa1 a1.length ca1), (17, .int .i64 (a1.length : Int))]) (by kernel_rfl) ?_
   obtain ⟨g21, hp22⟩ := ite_some hp20
   obtain ⟨b23, p24, hA25, -⟩ := (hS17.row 0 rfl).at_ len_api_Node (by omega) (i := (a1.length : Int)) (by omega) g21.2.2
   have g26 : 0 ≤ (a1.length : Int) ∧ (a1.length : Int) < (a0.length : Int) := ⟨g21.1, g21.2.2⟩
   refine r_indexAddr (c := (cd10 [1, 1, 0])) (i := 7) (d := (some 18)) (ty := 0) (t := 23) (e := 52) (n := (IntKind.i64.wrap ((a1.length : Int) + 1)).toNat) (cp := ca0) (sz := 6) (kk := .i64) (x := (.tmp 15)) (y := (.tmp 17)) (b := b23) (o' := p24) (j := (a1.length : Int)) (by kernel_rfl) (by kernel_rfl) (slv (by kernel_rfl) hA25) (by kernel_rfl) (by kernel_rfl) (by kernel_rfl) g21.1 g21.2.1 ?_
   refine sx_run 1 (todo' := [.inRegion (opsOf (cd10 [1, 1, 0])) [9, 10, 11, 12], .code (cd10 [1, 1, 1])]) (us := [(19, .pointer (some ⟨b23, p24 + (a1.length : Int).toNat * 6, none⟩))]) (by kernel_rfl) ?_
   refine r_load (c := (cd10 [1, 1, 0])) (i := 9) (d := (some 20)) (ty := 3) (t := 3) (x := (.tmp 19)) (p := ⟨b23, p24 + (a1.length : Int).toNat * 6, none⟩) (v := .int .i64 ((gt a0 (a1.length : Int)).Op)) (by kernel_rfl) (by kernel_rfl) (by kernel_rfl) (loads_at 0 ((hS17.row 0 rfl).at2 hA25 len_api_Node (by omega) g26.1 g26.2) (by kernel_rfl) (by kernel_rfl)) ?_
   refine sx_split 1 (todo' := [.inRegion (opsOf (cd10 [1, 1, 0])) [11, 12], .code (cd10 [1, 1, 1])]) (us := []) (d := 21) (t := (((gt a0 (a1.length : Int)).Op) == 77)) (by kernel_rfl) (fun h27 => ?_) (fun h28 => ?_)
   ·skip
    have hp29 := ite_t hp22 h27
    refine sx_run 3 (todo' := [.code (cd10 [1, 1, 1])]) (us := [(22, .bool true), (4, .bool true)]) (by kernel_rfl) ?_
    refine runs_ret (fn := Try.f10) (v := .bool true) Try.func10 (by kernel_rfl) ?_
    have hr30 := (Option.some.inj hp29)
    cases hr30
    exact hR _ _ ⟨rfl, hS17⟩
   ·skip
    have hp31 := ite_f hp22 h28
    refine sx_run 3 (todo' := [.code (cd10 [1, 1, 1])]) (us := [(22, .bool false), (4, .bool false)]) (by kernel_rfl) ?_
    refine runs_ret (fn := Try.f10) (v := .bool false) Try.func10 (by kernel_rfl) ?_
    have hr32 := (Option.some.inj hp31)
    cases hr32
    exact hR _ _ ⟨rfl, hS17⟩

noncomputable def cd11 (p : List Nat) : Code := sub (bodyOf Try.f11) p
def weirlaw06_spoil.l1 (t19 : List api_Node) (t23 : Int) : Option Unit :=
  (if (decide (t23 < 20)) = true then (if (t19.length + ([(⟨98, 0, 0, (⟨0, (⟨#[]⟩ : ByteArray)⟩ : api_Ref), 0⟩ : api_Node)] : List api_Node).length) * 56 ≤ 140737488355328 then (weirlaw06_spoil.l1 (t19 ++ ([(⟨98, 0, 0, (⟨0, (⟨#[]⟩ : ByteArray)⟩ : api_Ref), 0⟩ : api_Node)] : List api_Node)) (IntKind.i64.wrap (t23 + 1))) else none) else some (()))
 partial_fixpoint
def weirlaw06_spoil.l0 (t52 : Int) (t53 : List api_Node) : Option (List api_Node) :=
  (if (decide (t52 < (t53.length : Int))) = true then (if 0 ≤ t52 ∧ t52 < (t53.length : Int) then (weirlaw06_spoil.l0 (IntKind.i64.wrap (t52 + 1)) (setl t53 t52 (⟨99, 0, 0, (⟨0, (⟨#[]⟩ : ByteArray)⟩ : api_Ref), 0⟩ : api_Node))) else none) else some (t53))
 partial_fixpoint
def weirlaw06_spoil.f (a0 : List api_Node) : Option Unit :=
  (weirlaw06_spoil.l0 0 a0 >>= (fun t4 => (weirlaw06_spoil.l1 t4 0 >>= (fun _ => some (())))))
set_option maxHeartbeats 16000000 in
theorem weirlaw06_spoil.ok (a0 : List api_Node) (Aa0 : Option Addr) (ca0 : Nat) {w0 : World} {Z : Zm} {fs : List XObj} {w : World} (hS0 : St w0 Z (xrow Aa0 ca0 52 6 (a0.flatMap enc_api_Node) :: fs) w) (hp0 : weirlaw06_spoil.f a0 = some ()) :
    Calls Try.prog 11 #[.slice Aa0 a0.length ca0] w (fun e w' => e = .returned (.tuple #[]) ∧ St w0 Z (fs) w') := by
  refine calls_abs ?_; intro R hR
  unfold weirlaw06_spoil.f at hp0
  refine calls_of_runs (fn := Try.f11) (c := cd11 []) Try.func11 (by kernel_rfl) (al := [.slice Aa0 a0.length ca0]) rfl (n := 21) rfl ?_
  refine sx_run 7 (todo' := [.code (cd11 [0, 1, 0, 0]), .inLoop (cd11 [0, 1, 0, 0]), .inBlock 0, .code (cd11 [1])]) (us := [(2, .int .i64 0)]) (by kernel_rfl) ?_
  obtain ⟨v1, hv2, hp3⟩ := bind_some' hp0
  have J7 : ∀ (t4 : List api_Node) (he9 : t4 = v1) (l8 : List Value) (w5 : World) (hS6 : St w0 Z (xrow Aa0 ca0 52 6 (t4.flatMap enc_api_Node) :: fs) w5), Runs Try.prog 11 [.code (cd11 [1])] (fill [some (.slice Aa0 t4.length ca0), none, none, none, none, none, none, none, none, none, none, none, none, none, none, none, none, none, none, none, none, none] l8) w5 R := by
   intro t4 he9 l8 w5 hS6
   subst he9
   try dsimp only at hp3
   refine sx_run 6 (todo' := [.code (cd11 [1, 1, 0, 0]), .inLoop (cd11 [1, 1, 0, 0]), .inBlock 2]) (us := [(3, .int .i64 0)]) (by kernel_rfl) ?_
   obtain ⟨v10, hv11, hp12⟩ := bind_some' hp3
   have J15 : ∀ (he17 : () = v10) (l16 : List Value) (w13 : World) (hS14 : St w0 Z (fs) w13), Runs Try.prog 11 [] (fill [none, none, none, none, none, none, none, none, none, none, none, none, none, none, none, none, none, none, none, none, none, none] l16) w13 R := by
    intro he17 l16 w13 hS14
    subst he17
    try dsimp only at hp12
    refine runs_end (fn := Try.f11) (v := .tuple #[]) Try.func11 (by kernel_rfl) ?_
    have hr18 := (Option.some.inj hp12)
    cases hr18
    exact hR _ _ ⟨rfl, hS14⟩
   have L32 : ∀ (t19 : List api_Node) (t23 : Int) (e27 : Unit), weirlaw06_spoil.l1 t19 t23 = some e27 → e27 = v10 → ∀ (l26 : List Value) (A20 : Option Addr) (c21 : Nat) (w24 : World) (hS25 : St w0 Z (xrow A20 c21 52 6 (t19.flatMap enc_api_Node) :: fs) w24), Runs Try.prog 11 [.code (cd11 [1, 1, 0, 0]), .inLoop (cd11 [1, 1, 0, 0]), .inBlock 2] (fill [some (.slice A20 t19.length c21), none, none, some (.int .i64 t23), none, none, none, none, none, none, none, none, none, none, none, none, none, none, none, none, none, none] l26) w24 R := by
    refine weirlaw06_spoil.l1.partial_correctness (fun t19 t23 e27 => e27 = v10 → ∀ (l26 : List Value) (A20 : Option Addr) (c21 : Nat) (w24 : World) (hS25 : St w0 Z (xrow A20 c21 52 6 (t19.flatMap enc_api_Node) :: fs) w24), Runs Try.prog 11 [.code (cd11 [1, 1, 0, 0]), .inLoop (cd11 [1, 1, 0, 0]), .inBlock 2] (fill [some (.slice A20 t19.length c21), none, none, some (.int .i64 t23), none, none, none, none, none, none, none, none, none, none, none, none, none, none, none, none, none, none] l26) w24 R) ?_
    intro rec31 ih30 t19 t23 e27 hb29 he28 l26 A20 c21 w24 hS25
    refine sx_split 5 (todo' := [.inRegion (opsOf (cd11 [1, 1, 0, 0, 0, 0])) [], .code (cd11 [1, 1, 0, 0, 0, 1]), .code (cd11 [1, 1, 0, 0, 1]), .inLoop (cd11 [1, 1, 0, 0]), .inBlock 2]) (us := [(14, .int .i64 t23)]) (d := 15) (t := (decide (t23 < 20))) (by kernel_rfl) (fun h33 => ?_) (fun h34 => ?_)
    ·skip
     have hp35 := ite_t hb29 h33
     refine sx_run 8 (todo' := [.inRegion (opsOf (cd11 [1, 1, 0, 0, 1, 0, 0])) [2, 3, 4], .inBlock 3, .code (cd11 [1, 1, 0, 0, 1, 1]), .inLoop (cd11 [1, 1, 0, 0]), .inBlock 2]) (us := [(18, .slice A20 t19.length c21), (19, .agg (enc_api_Node (⟨98, 0, 0, (⟨0, (⟨#[]⟩ : ByteArray)⟩ : api_Ref), 0⟩ : api_Node)).toArray)]) (by kernel_rfl) ?_
     refine r_lit (c := (cd11 [1, 1, 0, 0, 1, 0, 0])) (i := 2) (d := (some 20)) (ty := 23) (t := 23) (e := 52) (sz := 6) (n := 1) (parts := #[(0, (.tmp 19))]) (vs := [(0, .agg (enc_api_Node (⟨98, 0, 0, (⟨0, (⟨#[]⟩ : ByteArray)⟩ : api_Ref), 0⟩ : api_Node)).toArray)]) (z := zeroOf Try.prog 52) (cs' := ([(⟨98, 0, 0, (⟨0, (⟨#[]⟩ : ByteArray)⟩ : api_Ref), 0⟩ : api_Node)] : List api_Node).flatMap enc_api_Node) hS25 (by kernel_rfl) (by kernel_rfl) (by kernel_rfl) (by kernel_rfl) (by kernel_rfl) (by decide) (by decide) (by kernel_rfl) rfl (Parts.cons (c := enc_api_Node (⟨98, 0, 0, (⟨0, (⟨#[]⟩ : ByteArray)⟩ : api_Ref), 0⟩ : api_Node)) (by kernel_rfl) (len_api_Node _) Parts.nil) rfl ?_
     intro b37 w38 hS39
     have hS40 := hS39.pick1
     obtain ⟨g41, hp42⟩ := ite_some hp35
     refine r_append (c := (cd11 [1, 1, 0, 0, 1, 0, 0])) (i := 3) (d := (some 21)) (ty := 23) (enc := enc_api_Node) (e := 52) (u := 52) (t := 23) (t2 := 23) (sz := 6) (cp := c21) (A := A20) (bytes := 56) (xs := t19) (ys := ([(⟨98, 0, 0, (⟨0, (⟨#[]⟩ : ByteArray)⟩ : api_Ref), 0⟩ : api_Node)] : List api_Node)) (s := (.tmp 18)) (x := (.tmp 20)) (xv := .slice (some ⟨b37, 0, none⟩) ([(⟨98, 0, 0, (⟨0, (⟨#[]⟩ : ByteArray)⟩ : api_Ref), 0⟩ : api_Node)] : List api_Node).length 1) (info := infoOf Try.prog 52) (z := zeroOf Try.prog 52) (ycs := ([(⟨98, 0, 0, (⟨0, (⟨#[]⟩ : ByteArray)⟩ : api_Ref), 0⟩ : api_Node)] : List api_Node).flatMap enc_api_Node) hS40 (by kernel_rfl) (by kernel_rfl) (by kernel_rfl) (by kernel_rfl) (by kernel_rfl) (.inl (by kernel_rfl)) (by kernel_rfl) (by kernel_rfl) (by kernel_rfl) (by kernel_rfl) (by kernel_rfl) (by omega) len_api_Node one_api_Node (src_row (hS40.row 1 rfl) (by omega) len_api_Node) rfl g41 (by omega) ?_
     intro A43 c44 w45 hS46
     refine sx_run 8 (todo' := [.inLoop (cd11 [1, 1, 0, 0]), .inBlock 2]) (us := [(0, .slice A43 (t19 ++ ([(⟨98, 0, 0, (⟨0, (⟨#[]⟩ : ByteArray)⟩ : api_Ref), 0⟩ : api_Node)] : List api_Node)).length c44), (16, .int .i64 t23), (17, .int .i64 (IntKind.i64.wrap (t23 + 1))), (3, .int .i64 (IntKind.i64.wrap (t23 + 1)))]) (by kernel_rfl) ?_
     have hS48 := hS46.pick1
     have hS49 := hS48.drop
     refine sx_run 1 (todo' := [.code (cd11 [1, 1, 0, 0]), .inLoop (cd11 [1, 1, 0, 0]), .inBlock 2]) (us := []) (by kernel_rfl) ?_
     refine Runs.fill (m := [some (.slice A43 (t19 ++ ([(⟨98, 0, 0, (⟨0, (⟨#[]⟩ : ByteArray)⟩ : api_Ref), 0⟩ : api_Node)] : List api_Node)).length c44), none, none, some (.int .i64 (IntKind.i64.wrap (t23 + 1))), none, none, none, none, none, none, none, none, none, none, none, none, none, none, none, none, none, none]) (by kernel_rfl) ?_
     exact ih30 (t19 ++ ([(⟨98, 0, 0, (⟨0, (⟨#[]⟩ : ByteArray)⟩ : api_Ref), 0⟩ : api_Node)] : List api_Node)) (IntKind.i64.wrap (t23 + 1)) _ hp42 he28 _ A43 c44 _ hS49
    ·skip
     have hp50 := ite_f hb29 h34
     refine sx_run 3 (todo' := []) (us := []) (by kernel_rfl) ?_
     have hS51 := hS25.drop
     refine Runs.fill (m := [none, none, none, none, none, none, none, none, none, none, none, none, none, none, none, none, none, none, none, none, none, none]) (by kernel_rfl) ?_
     exact J15 ((Option.some.inj hp50).trans he28) _ _ hS51
   refine Runs.fill (m := [some (.slice Aa0 t4.length ca0), none, none, some (.int .i64 0), none, none, none, none, none, none, none, none, none, none, none, none, none, none, none, none, none, none]) (by kernel_rfl) ?_
   exact L32 t4 0 _ hv11 rfl _ Aa0 ca0 _ hS6
  have L62 : ∀ (t52 : Int) (t53 : List api_Node) (e57 : (List api_Node)), weirlaw06_spoil.l0 t52 t53 = some e57 → e57 = v1 → ∀ (l56 : List Value) (w54 : World) (hS55 : St w0 Z (xrow Aa0 ca0 52 6 (t53.flatMap enc_api_Node) :: fs) w54), Runs Try.prog 11 [.code (cd11 [0, 1, 0, 0]), .inLoop (cd11 [0, 1, 0, 0]), .inBlock 0, .code (cd11 [1])] (fill [some (.slice Aa0 t53.length ca0), none, some (.int .i64 t52), none, none, none, none, none, none, none, none, none, none, none, none, none, none, none, none, none, none, none] l56) w54 R := by
   refine weirlaw06_spoil.l0.partial_correctness (fun t52 t53 e57 => e57 = v1 → ∀ (l56 : List Value) (w54 : World) (hS55 : St w0 Z (xrow Aa0 ca0 52 6 (t53.flatMap enc_api_Node) :: fs) w54), Runs Try.prog 11 [.code (cd11 [0, 1, 0, 0]), .inLoop (cd11 [0, 1, 0, 0]), .inBlock 0, .code (cd11 [1])] (fill [some (.slice Aa0 t53.length ca0), none, some (.int .i64 t52), none, none, none, none, none, none, none, none, none, none, none, none, none, none, none, none, none, none, none] l56) w54 R) ?_
   intro rec61 ih60 t52 t53 e57 hb59 he58 l56 w54 hS55
   refine sx_split 7 (todo' := [.inRegion (opsOf (cd11 [0, 1, 0, 0, 0, 0])) [], .code (cd11 [0, 1, 0, 0, 0, 1]), .code (cd11 [0, 1, 0, 0, 1]), .inLoop (cd11 [0, 1, 0, 0]), .inBlock 0, .code (cd11 [1])]) (us := [(4, .int .i64 t52), (5, .slice Aa0 t53.length ca0), (6, .int .i64 (t53.length : Int))]) (d := 7) (t := (decide (t52 < (t53.length : Int)))) (by kernel_rfl) (fun h63 => ?_) (fun h64 => ?_)
   ·skip
    have hp65 := ite_t hb59 h63
    refine sx_run 9 (todo' := [.inRegion (opsOf (cd11 [0, 1, 0, 0, 1, 0, 0])) [3, 4], .inBlock 1, .code (cd11 [0, 1, 0, 0, 1, 1]), .inLoop (cd11 [0, 1, 0, 0]), .inBlock 0, .code (cd11 [1])]) (us := [(10, .slice Aa0 t53.length ca0), (11, .int .i64 t52), (12, .agg (enc_api_Node (⟨99, 0, 0, (⟨0, (⟨#[]⟩ : ByteArray)⟩ : api_Ref), 0⟩ : api_Node)).toArray)]) (by kernel_rfl) ?_
    obtain ⟨g66, hp67⟩ := ite_some hp65
    obtain ⟨b68, p69, hA70, -⟩ := (hS55.row 0 rfl).at_ len_api_Node (by omega) g66.1 g66.2
    refine r_indexAddr (c := (cd11 [0, 1, 0, 0, 1, 0, 0])) (i := 3) (d := (some 13)) (ty := 0) (t := 23) (e := 52) (n := t53.length) (cp := ca0) (sz := 6) (kk := .i64) (x := (.tmp 10)) (y := (.tmp 11)) (b := b68) (o' := p69) (j := t52) (by kernel_rfl) (by kernel_rfl) (slv (by kernel_rfl) hA70) (by kernel_rfl) (by kernel_rfl) (by kernel_rfl) g66.1 g66.2 ?_
    refine r_storeEl (c := (cd11 [0, 1, 0, 0, 1, 0, 0])) (i := 4) (d := none) (ty := 0) (enc := enc_api_Node) (e := 52) (t := 52) (sz := 6) (cp := ca0) (A := Aa0) (xs := t53) (x := (.tmp 13)) (y := (.tmp 12)) (el := gt t53 t52) (el' := (⟨99, 0, 0, (⟨0, (⟨#[]⟩ : ByteArray)⟩ : api_Ref), 0⟩ : api_Node)) (j := t52) (off := 0) (b := b68) (p := p69) (v := .agg (enc_api_Node (⟨99, 0, 0, (⟨0, (⟨#[]⟩ : ByteArray)⟩ : api_Ref), 0⟩ : api_Node)).toArray) (vs := enc_api_Node (⟨99, 0, 0, (⟨0, (⟨#[]⟩ : ByteArray)⟩ : api_Ref), 0⟩ : api_Node)) (ad := ⟨b68, p69 + t52.toNat * 6, none⟩) hS55 (by kernel_rfl) (by kernel_rfl) (by kernel_rfl) (by simp) (by kernel_rfl) hA70 g66 rfl len_api_Node (by kernel_rfl) (by kernel_rfl) (one_api_Node _) (by rw [len_api_Node]; omega) (by rw [len_api_Node]; omega) (by kernel_rfl) ?_
    intro w72 hS73
    refine Runs.fill (m := [some (.slice Aa0 t53.length ca0), none, none, none, none, some (.slice Aa0 t53.length ca0), none, none, none, none, some (.slice Aa0 t53.length ca0), none, none, none, none, none, none, none, none, none, none, none]) (by kernel_rfl) ?_
    refine Runs.refill (m' := [some (.slice Aa0 (setl t53 t52 (⟨99, 0, 0, (⟨0, (⟨#[]⟩ : ByteArray)⟩ : api_Ref), 0⟩ : api_Node)).length ca0), none, none, none, none, some (.slice Aa0 (setl t53 t52 (⟨99, 0, 0, (⟨0, (⟨#[]⟩ : ByteArray)⟩ : api_Ref), 0⟩ : api_Node)).length ca0), none, none, none, none, some (.slice Aa0 (setl t53 t52 (⟨99, 0, 0, (⟨0, (⟨#[]⟩ : ByteArray)⟩ : api_Ref), 0⟩ : api_Node)).length ca0), none, none, none, none, none, none, none, none, none, none, none]) (by simp only [setl_len]) ?_
    refine sx_run 7 (todo' := [.inLoop (cd11 [0, 1, 0, 0]), .inBlock 0, .code (cd11 [1])]) (us := [(8, .int .i64 t52), (9, .int .i64 (IntKind.i64.wrap (t52 + 1))), (2, .int .i64 (IntKind.i64.wrap (t52 + 1)))]) (by kernel_rfl) ?_
    refine sx_run 1 (todo' := [.code (cd11 [0, 1, 0, 0]), .inLoop (cd11 [0, 1, 0, 0]), .inBlock 0, .code (cd11 [1])]) (us := []) (by kernel_rfl) ?_
    refine Runs.fill (m := [some (.slice Aa0 (setl t53 t52 (⟨99, 0, 0, (⟨0, (⟨#[]⟩ : ByteArray)⟩ : api_Ref), 0⟩ : api_Node)).length ca0), none, some (.int .i64 (IntKind.i64.wrap (t52 + 1))), none, none, none, none, none, none, none, none, none, none, none, none, none, none, none, none, none, none, none]) (by kernel_rfl) ?_
    exact ih60 (IntKind.i64.wrap (t52 + 1)) (setl t53 t52 (⟨99, 0, 0, (⟨0, (⟨#[]⟩ : ByteArray)⟩ : api_Ref), 0⟩ : api_Node)) _ hp67 he58 _ _ hS73
   ·skip
    have hp74 := ite_f hb59 h64
    refine sx_run 3 (todo' := [.code (cd11 [1])]) (us := []) (by kernel_rfl) ?_
    refine Runs.fill (m := [some (.slice Aa0 t53.length ca0), none, none, none, none, none, none, none, none, none, none, none, none, none, none, none, none, none, none, none, none, none]) (by kernel_rfl) ?_
    exact J7 t53 ((Option.some.inj hp74).trans he58) _ _ hS55
  refine Runs.fill (m := [some (.slice Aa0 a0.length ca0), none, some (.int .i64 0), none, none, none, none, none, none, none, none, none, none, none, none, none, none, none, none, none, none, none]) (by kernel_rfl) ?_
  exact L62 0 a0 _ hv2 rfl _ _ hS0

noncomputable def cd3 (p : List Nat) : Code := sub (bodyOf Try.f3) p
def weirlaw06_CondPlains.f (a0 : List api_Node) : Option Bool :=
  (weirlaw06_lent.f a0 >>= (fun (t1, t2) => (if t2 ≤ t1.length then (cond_Plain.f (t1.take t2) >>= (fun (t12, t13) => (if t2 ≤ t1.length then (cond_Plain.f (t1.take t2) >>= (fun (t29, t30) => (weirref06_Plain.f a0 >>= (fun (t44, t45) => (weirlaw06_sameCond.f t12 t44 >>= (fun t53 => (if (!t53) = true then some (false) else (weirlaw06_sameCond.f t29 t44 >>= (fun t80 => (if (!t80) = true then some (false) else (weirlaw06_num.f t13 >>= (fun t108 => (if (t108 != t45) = true then some (false) else (weirlaw06_back.f t1 t2 a0 >>= (fun t122 => (if (!t122) = true then some (false) else (weirlaw06_spoil.f t12 >>= (fun _ => (weirlaw06_sameCond.f t29 t44 >>= (fun t142 => (if t142 = true then (weirlaw06_back.f t1 t2 a0 >>= (fun t167 => some (t167))) else some (false)))))))))))))))))))))) else none))) else none)))
set_option maxHeartbeats 16000000 in
theorem weirlaw06_CondPlains.ok (a0 : List api_Node) (Aa0 : Option Addr) (ca0 : Nat) {w0 : World} {Z : Zm} {fs : List XObj} {w : World} (hS0 : St w0 Z (fs) w) (ha0 : SlZ (flat enc_api_Node) 6 Z Aa0 ca0 a0) {q0 : Bool} (hp0 : weirlaw06_CondPlains.f a0 = some q0) :
    Calls Try.prog 3 #[.slice Aa0 a0.length ca0] w (fun e w' => e = .returned (.bool q0) ∧ St w0 Z (fs) w') := by
  refine calls_abs ?_; intro R hR
  unfold weirlaw06_CondPlains.f at hp0
  refine calls_of_runs (fn := Try.f3) (c := cd3 []) Try.func3 (by kernel_rfl) (al := [.slice Aa0 a0.length ca0]) rfl (n := 58) rfl ?_
  refine sx_run 7 (todo' := [.inRegion (opsOf (cd3 [1, 0])) [1, 2], .code (cd3 [1, 1])]) (us := [(2, .bool false), (10, .slice Aa0 a0.length ca0)]) (by kernel_rfl) ?_
  obtain ⟨⟨t1, t2⟩, hr5, hp6⟩ := bind_some' hp0
  try dsimp only at hp6
  refine r_call1 (c := (cd3 [1, 0])) (i := 1) (d := (some 11)) (g := 5) (args := #[.slice Aa0 a0.length ca0]) (by kernel_rfl) (by kernel_rfl) (by kernel_rfl) (by kernel_rfl) (weirlaw06_lent.ok a0 Aa0 ca0 hS0 ha0 hr5) ?_
  rintro _ w8 ⟨Q3, Q4, rfl, hS9⟩
  refine ⟨.slice Q3 t2 Q4, rfl, ?_⟩
  refine sx_run 5 (todo' := [.inRegion (opsOf (cd3 [1, 1, 0])) [1, 2, 3, 4, 5, 6], .code (cd3 [1, 1, 1])]) (us := [(3, .slice Q3 t2 Q4), (13, .slice Q3 t2 Q4)]) (by kernel_rfl) ?_
  obtain ⟨g10, hp11⟩ := ite_some hp6
  obtain ⟨⟨t12, t13⟩, hr16, hp17⟩ := bind_some' hp11
  try dsimp only at hp17
  obtain ⟨Z19, hz20, hS21, hs22, hb23⟩ := hS9.lendrow len_api_Node (by omega)
  refine r_call1 (c := (cd3 [1, 1, 0])) (i := 1) (d := (some 14)) (g := 6) (args := #[.slice Q3 t2 Q4]) (by kernel_rfl) (by kernel_rfl) (by kernel_rfl) (by kernel_rfl) (args_eq (by rw [lenTake g10]) (cond_Plain.ok (t1.take t2) Q3 Q4 hS21 (hs22.take0 t2) hr16)) ?_
  rintro _ w24 ⟨Q14, Q15, rfl, hS25⟩
  refine ⟨.tuple #[.slice Q14 t12.length Q15, .int .i64 t13], rfl, ?_⟩
  have hS26 := hb23 _ _ hS25
  refine sx_run 9 (todo' := [.inRegion (opsOf (cd3 [1, 1, 1, 0])) [1, 2, 3, 4, 5, 6], .code (cd3 [1, 1, 1, 1])]) (us := [(12, .tuple #[.slice Q14 t12.length Q15, .int .i64 t13]), (15, .slice Q14 t12.length Q15), (16, .int .i64 t13), (4, .slice Q14 t12.length Q15), (5, .int .i64 t13), (18, .slice Q3 t2 Q4)]) (by kernel_rfl) ?_
  obtain ⟨g27, hp28⟩ := ite_some hp17
  obtain ⟨⟨t29, t30⟩, hr33, hp34⟩ := bind_some' hp28
  try dsimp only at hp34
  obtain ⟨Z36, hz37, hS38, hs39, hb40⟩ := hS26.lendrow len_api_Node (by omega)
  refine r_call1 (c := (cd3 [1, 1, 1, 0])) (i := 1) (d := (some 19)) (g := 6) (args := #[.slice Q3 t2 Q4]) (by kernel_rfl) (by kernel_rfl) (by kernel_rfl) (by kernel_rfl) (args_eq (by rw [lenTake g27]) (cond_Plain.ok (t1.take t2) Q3 Q4 hS38 (hs39.take0 t2) hr33)) ?_
  rintro _ w41 ⟨Q31, Q32, rfl, hS42⟩
  refine ⟨.tuple #[.slice Q31 t29.length Q32, .int .i64 t30], rfl, ?_⟩
  have hS43 := hb40 _ _ hS42
  refine sx_run 9 (todo' := [.inRegion (opsOf (cd3 [1, 1, 1, 1, 0])) [1, 2, 3, 4, 5, 6], .code (cd3 [1, 1, 1, 1, 1])]) (us := [(17, .tuple #[.slice Q31 t29.length Q32, .int .i64 t30]), (20, .slice Q31 t29.length Q32), (21, .int .i64 t30), (6, .slice Q31 t29.length Q32), (7, .int .i64 t30), (23, .slice Aa0 a0.length ca0)]) (by kernel_rfl) ?_
  obtain ⟨⟨t44, t45⟩, hr48, hp49⟩ := bind_some' hp34
  try dsimp only at hp49
  refine r_call1 (c := (cd3 [1, 1, 1, 1, 0])) (i := 1) (d := (some 24)) (g := 7) (args := #[.slice Aa0 a0.length ca0]) (by kernel_rfl) (by kernel_rfl) (by kernel_rfl) (by kernel_rfl) (weirref06_Plain.ok a0 Aa0 ca0 hS43 ha0 hr48) ?_
  rintro _ w51 ⟨Q46, Q47, rfl, hS52⟩
  refine ⟨.tuple #[.slice Q46 t44.length Q47, .int .i64 t45], rfl, ?_⟩
  refine sx_run 11 (todo' := [.inRegion (opsOf (cd3 [1, 1, 1, 1, 1, 0, 0])) [2, 3, 4, 5, 6, 7, 8, 9, 10, 11, 12, 13, 14, 15, 16, 17, 18, 19, 20, 21], .code (cd3 [1, 1, 1, 1, 1, 0, 1]), .code (cd3 [1, 1, 1, 1, 1, 1])]) (us := [(22, .tuple #[.slice Q46 t44.length Q47, .int .i64 t45]), (25, .slice Q46 t44.length Q47), (26, .int .i64 t45), (8, .slice Q46 t44.length Q47), (9, .int .i64 t45), (27, .slice Q14 t12.length Q15), (28, .slice Q46 t44.length Q47)]) (by kernel_rfl) ?_
  obtain ⟨t53, hr54, hp55⟩ := bind_some' hp49
  have hS56 := hS52.pick3
  obtain ⟨Z57, hz58, hS59, hs60, hb61⟩ := hS56.lendrow len_api_Node (by omega)
  obtain ⟨Z62, hz63, hS64, hs65, hb66⟩ := hS59.lendrow len_api_Node (by omega)
  refine r_call1 (c := (cd3 [1, 1, 1, 1, 1, 0, 0])) (i := 2) (d := (some 29)) (g := 8) (args := #[.slice Q14 t12.length Q15, .slice Q46 t44.length Q47]) (by kernel_rfl) (by kernel_rfl) (by kernel_rfl) (by kernel_rfl) (weirlaw06_sameCond.ok t12 t44 Q14 Q15 Q46 Q47 hS64 (hs60.up hz63) hs65 hr54) ?_
  rintro _ w67 ⟨rfl, hS68⟩
  refine ⟨.bool t53, rfl, ?_⟩
  have hS69 := hb66 _ _ hS68
  have hS70 := hb61 _ _ hS69
  refine sx_split 1 (todo' := [.inRegion (opsOf (cd3 [1, 1, 1, 1, 1, 0, 0])) [4, 5, 6, 7, 8, 9, 10, 11, 12, 13, 14, 15, 16, 17, 18, 19, 20, 21], .code (cd3 [1, 1, 1, 1, 1, 0, 1]), .code (cd3 [1, 1, 1, 1, 1, 1])]) (us := []) (d := 30) (t := (!t53)) (by kernel_rfl) (fun h71 => ?_) (fun h72 => ?_)
  ·skip
   have hp73 := ite_t hp55 h71
   refine sx_run 24 (todo' := [.code (cd3 [1, 1, 1, 1, 1, 0, 1, 0, 1]), .code (cd3 [1, 1, 1, 1, 1, 1])]) (us := [(31, .bool true), (32, undef), (33, undef), (34, undef), (35, undef), (36, .bool true), (37, .bool true), (38, undef), (39, undef), (40, undef), (41, undef), (42, .bool true), (43, .bool true), (44, undef), (45, undef), (46, undef), (47, undef), (48, .bool true), (2, .bool false)]) (by kernel_rfl) ?_
   have hS74 := hS70.drop
   have hS75 := hS74.drop
   have hS76 := hS75.drop
   have hS77 := hS76.drop
   refine runs_ret (fn := Try.f3) (v := .bool false) Try.func3 (by kernel_rfl) ?_
   have hr78 := (Option.some.inj hp73)
   cases hr78
   exact hR _ _ ⟨rfl, hS77⟩
  ·skip
   have hp79 := ite_f hp55 h72
   refine sx_run 3 (todo' := [.inRegion (opsOf (cd3 [1, 1, 1, 1, 1, 0, 0])) [7, 8, 9, 10, 11, 12, 13, 14, 15, 16, 17, 18, 19, 20, 21], .code (cd3 [1, 1, 1, 1, 1, 0, 1]), .code (cd3 [1, 1, 1, 1, 1, 1])]) (us := [(31, .bool false), (32, .slice Q31 t29.length Q32), (33, .slice Q46 t44.length Q47)]) (by kernel_rfl) ?_
   obtain ⟨t80, hr81, hp82⟩ := bind_some' hp79
   have hS83 := hS70.pick3
   obtain ⟨Z84, hz85, hS86, hs87, hb88⟩ := hS83.lendrow len_api_Node (by omega)
   have hS89 := hS86.pick1
   obtain ⟨Z90, hz91, hS92, hs93, hb94⟩ := hS89.lendrow len_api_Node (by omega)
   refine r_call1 (c := (cd3 [1, 1, 1, 1, 1, 0, 0])) (i := 7) (d := (some 34)) (g := 8) (args := #[.slice Q31 t29.length Q32, .slice Q46 t44.length Q47]) (by kernel_rfl) (by kernel_rfl) (by kernel_rfl) (by kernel_rfl) (weirlaw06_sameCond.ok t29 t44 Q31 Q32 Q46 Q47 hS92 (hs87.up hz91) hs93 hr81) ?_
   rintro _ w95 ⟨rfl, hS96⟩
   refine ⟨.bool t80, rfl, ?_⟩
   have hS97 := hb94 _ _ hS96
   have hS98 := hb88 _ _ hS97
   refine sx_split 1 (todo' := [.inRegion (opsOf (cd3 [1, 1, 1, 1, 1, 0, 0])) [9, 10, 11, 12, 13, 14, 15, 16, 17, 18, 19, 20, 21], .code (cd3 [1, 1, 1, 1, 1, 0, 1]), .code (cd3 [1, 1, 1, 1, 1, 1])]) (us := []) (d := 35) (t := (!t80)) (by kernel_rfl) (fun h99 => ?_) (fun h100 => ?_)
   ·skip
    have hp101 := ite_t hp82 h99
    refine sx_run 19 (todo' := [.code (cd3 [1, 1, 1, 1, 1, 0, 1, 0, 1]), .code (cd3 [1, 1, 1, 1, 1, 1])]) (us := [(36, .bool true), (37, .bool true), (38, undef), (39, undef), (40, undef), (41, undef), (42, .bool true), (43, .bool true), (44, undef), (45, undef), (46, undef), (47, undef), (48, .bool true), (2, .bool false)]) (by kernel_rfl) ?_
    have hS102 := hS98.drop
    have hS103 := hS102.drop
    have hS104 := hS103.drop
    have hS105 := hS104.drop
    refine runs_ret (fn := Try.f3) (v := .bool false) Try.func3 (by kernel_rfl) ?_
    have hr106 := (Option.some.inj hp101)
    cases hr106
    exact hR _ _ ⟨rfl, hS105⟩
   ·skip
    have hp107 := ite_f hp82 h100
    refine sx_run 3 (todo' := [.inRegion (opsOf (cd3 [1, 1, 1, 1, 1, 0, 0])) [12, 13, 14, 15, 16, 17, 18, 19, 20, 21], .code (cd3 [1, 1, 1, 1, 1, 0, 1]), .code (cd3 [1, 1, 1, 1, 1, 1])]) (us := [(36, .bool false), (37, .bool false), (38, .int .i64 t13)]) (by kernel_rfl) ?_
    obtain ⟨t108, hr109, hp110⟩ := bind_some' hp107
    refine r_call1 (c := (cd3 [1, 1, 1, 1, 1, 0, 0])) (i := 12) (d := (some 39)) (g := 9) (args := #[.int .i64 t13]) (by kernel_rfl) (by kernel_rfl) (by kernel_rfl) (by kernel_rfl) (weirlaw06_num.ok t13 hS98 hr109) ?_
    rintro _ w111 ⟨rfl, hS112⟩
    refine ⟨.int .i64 t108, rfl, ?_⟩
    refine sx_split 2 (todo' := [.inRegion (opsOf (cd3 [1, 1, 1, 1, 1, 0, 0])) [15, 16, 17, 18, 19, 20, 21], .code (cd3 [1, 1, 1, 1, 1, 0, 1]), .code (cd3 [1, 1, 1, 1, 1, 1])]) (us := [(40, .int .i64 t45)]) (d := 41) (t := (t108 != t45)) (by kernel_rfl) (fun h113 => ?_) (fun h114 => ?_)
    ·skip
     have hp115 := ite_t hp110 h113
     refine sx_run 13 (todo' := [.code (cd3 [1, 1, 1, 1, 1, 0, 1, 0, 1]), .code (cd3 [1, 1, 1, 1, 1, 1])]) (us := [(42, .bool true), (43, .bool true), (44, undef), (45, undef), (46, undef), (47, undef), (48, .bool true), (2, .bool false)]) (by kernel_rfl) ?_
     have hS116 := hS112.drop
     have hS117 := hS116.drop
     have hS118 := hS117.drop
     have hS119 := hS118.drop
     refine runs_ret (fn := Try.f3) (v := .bool false) Try.func3 (by kernel_rfl) ?_
     have hr120 := (Option.some.inj hp115)
     cases hr120
     exact hR _ _ ⟨rfl, hS119⟩
    ·skip
     have hp121 := ite_f hp110 h114
     refine sx_run 4 (todo' := [.inRegion (opsOf (cd3 [1, 1, 1, 1, 1, 0, 0])) [19, 20, 21], .code (cd3 [1, 1, 1, 1, 1, 0, 1]), .code (cd3 [1, 1, 1, 1, 1, 1])]) (us := [(42, .bool false), (43, .bool false), (44, .slice Q3 t2 Q4), (45, .slice Aa0 a0.length ca0)]) (by kernel_rfl) ?_
     obtain ⟨t122, hr123, hp124⟩ := bind_some' hp121
     have hS125 := hS112.pick3
     refine r_call1 (c := (cd3 [1, 1, 1, 1, 1, 0, 0])) (i := 19) (d := (some 46)) (g := 10) (args := #[.slice Q3 t2 Q4, .slice Aa0 a0.length ca0]) (by kernel_rfl) (by kernel_rfl) (by kernel_rfl) (by kernel_rfl) (weirlaw06_back.ok t1 t2 a0 Q3 Q4 Aa0 ca0 hS125 ha0 hr123) ?_
     rintro _ w126 ⟨rfl, hS127⟩
     refine ⟨.bool t122, rfl, ?_⟩
     refine sx_split 1 (todo' := [.inRegion (opsOf (cd3 [1, 1, 1, 1, 1, 0, 0])) [21], .code (cd3 [1, 1, 1, 1, 1, 0, 1]), .code (cd3 [1, 1, 1, 1, 1, 1])]) (us := []) (d := 47) (t := (!t122)) (by kernel_rfl) (fun h128 => ?_) (fun h129 => ?_)
     ·skip
      have hp130 := ite_t hp124 h128
      refine sx_run 7 (todo' := [.code (cd3 [1, 1, 1, 1, 1, 0, 1, 0, 1]), .code (cd3 [1, 1, 1, 1, 1, 1])]) (us := [(48, .bool true), (2, .bool false)]) (by kernel_rfl) ?_
      have hS131 := hS127.drop
      have hS132 := hS131.drop
      have hS133 := hS132.drop
      have hS134 := hS133.drop
      refine runs_ret (fn := Try.f3) (v := .bool false) Try.func3 (by kernel_rfl) ?_
      have hr135 := (Option.some.inj hp130)
      cases hr135
      exact hR _ _ ⟨rfl, hS134⟩
     ·skip
      have hp136 := ite_f hp124 h129
      refine sx_run 7 (todo' := [.inRegion (opsOf (cd3 [1, 1, 1, 1, 1, 1, 0])) [1], .code (cd3 [1, 1, 1, 1, 1, 1, 1])]) (us := [(48, .bool false), (49, .slice Q14 t12.length Q15)]) (by kernel_rfl) ?_
      obtain ⟨_, hr137, hp138⟩ := bind_some' hp136
      have hS139 := hS127.pick3
      refine r_call1 (c := (cd3 [1, 1, 1, 1, 1, 1, 0])) (i := 1) (d := (some 50)) (g := 11) (args := #[.slice Q14 t12.length Q15]) (by kernel_rfl) (by kernel_rfl) (by kernel_rfl) (by kernel_rfl) (weirlaw06_spoil.ok t12 Q14 Q15 hS139 hr137) ?_
      rintro _ w140 ⟨rfl, hS141⟩
      refine ⟨.tuple #[], rfl, ?_⟩
      refine sx_run 5 (todo' := [.inRegion (opsOf (cd3 [1, 1, 1, 1, 1, 1, 1, 0])) [2, 3, 4, 5, 6, 7, 8], .code (cd3 [1, 1, 1, 1, 1, 1, 1, 1])]) (us := [(51, .slice Q31 t29.length Q32), (52, .slice Q46 t44.length Q47)]) (by kernel_rfl) ?_
      obtain ⟨t142, hr143, hp144⟩ := bind_some' hp138
      have hS145 := hS141.pick1
      obtain ⟨Z146, hz147, hS148, hs149, hb150⟩ := hS145.lendrow len_api_Node (by omega)
      have hS151 := hS148.pick1
      obtain ⟨Z152, hz153, hS154, hs155, hb156⟩ := hS151.lendrow len_api_Node (by omega)
      refine r_call1 (c := (cd3 [1, 1, 1, 1, 1, 1, 1, 0])) (i := 2) (d := (some 53)) (g := 8) (args := #[.slice Q31 t29.length Q32, .slice Q46 t44.length Q47]) (by kernel_rfl) (by kernel_rfl) (by kernel_rfl) (by kernel_rfl) (weirlaw06_sameCond.ok t29 t44 Q31 Q32 Q46 Q47 hS154 (hs149.up hz153) hs155 hr143) ?_
      rintro _ w157 ⟨rfl, hS158⟩
      refine ⟨.bool t142, rfl, ?_⟩
      have hS159 := hb156 _ _ hS158
      have hS160 := hb150 _ _ hS159
      refine sx_run 1 (todo' := [.inRegion (opsOf (cd3 [1, 1, 1, 1, 1, 1, 1, 0])) [4, 5, 6, 7, 8], .code (cd3 [1, 1, 1, 1, 1, 1, 1, 1])]) (us := [(54, .bool t142)]) (by kernel_rfl) ?_
      cases t142
      ·skip
       have hp161 := ite_f hp144 rfl
       refine sx_run 6 (todo' := [.code (cd3 [1, 1, 1, 1, 1, 1, 1, 1])]) (us := [(55, undef), (56, undef), (57, undef), (58, .bool false), (2, .bool false)]) (by kernel_rfl) ?_
       have hS162 := hS160.drop
       have hS163 := hS162.drop
       have hS164 := hS163.drop
       refine runs_ret (fn := Try.f3) (v := .bool false) Try.func3 (by kernel_rfl) ?_
       have hr165 := (Option.some.inj hp161)
       cases hr165
       exact hR _ _ ⟨rfl, hS164⟩
      ·skip
       have hp166 := ite_t hp144 rfl
       refine sx_run 2 (todo' := [.inRegion (opsOf (cd3 [1, 1, 1, 1, 1, 1, 1, 0])) [6, 7, 8], .code (cd3 [1, 1, 1, 1, 1, 1, 1, 1])]) (us := [(55, .slice Q3 t2 Q4), (56, .slice Aa0 a0.length ca0)]) (by kernel_rfl) ?_
       obtain ⟨t167, hr168, hp169⟩ := bind_some' hp166
       have hS170 := hS160.pick2
       refine r_call1 (c := (cd3 [1, 1, 1, 1, 1, 1, 1, 0])) (i := 6) (d := (some 57)) (g := 10) (args := #[.slice Q3 t2 Q4, .slice Aa0 a0.length ca0]) (by kernel_rfl) (by kernel_rfl) (by kernel_rfl) (by kernel_rfl) (weirlaw06_back.ok t1 t2 a0 Q3 Q4 Aa0 ca0 hS170 ha0 hr168) ?_
       rintro _ w171 ⟨rfl, hS172⟩
       refine ⟨.bool t167, rfl, ?_⟩
       refine sx_run 3 (todo' := [.code (cd3 [1, 1, 1, 1, 1, 1, 1, 1])]) (us := [(58, .bool t167), (2, .bool t167)]) (by kernel_rfl) ?_
       have hS173 := hS172.drop
       have hS174 := hS173.drop
       have hS175 := hS174.drop
       refine runs_ret (fn := Try.f3) (v := .bool t167) Try.func3 (by kernel_rfl) ?_
       have hr176 := (Option.some.inj hp169)
       cases hr176
       exact hR _ _ ⟨rfl, hS175⟩

end
end Go.Proofs.Ythkpeoiphkndiaa.K
