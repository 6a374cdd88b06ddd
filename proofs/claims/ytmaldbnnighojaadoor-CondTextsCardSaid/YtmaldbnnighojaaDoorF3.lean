/- The walk, part 3: each Go function as a plain Lean function, and that its call answers as that function says. No condition. -/
import Derived.Test.YtmaldbnnighojaaDoorE
import Derived.Test.YtmaldbnnighojaaDoorNM
import Derived.Test.YtmaldbnnighojaaDoorNV
import Derived.Test.YtmaldbnnighojaaDoorNB
import Derived.Test.YtmaldbnnighojaaDoorF2
set_option linter.unusedVariables false
set_option linter.unusedSimpArgs false
set_option maxRecDepth 100000
namespace Go.Proofs.YtmaldbnnighojaaDoor.K
open Go Go.RowKit
noncomputable section
noncomputable def cd17 (p : List Nat) : Code := sub (bodyOf Tryd.f17) p
def weirref06_Deep.body (rec_weirref06_Deep : (List api_Node) → Int → Option Int) (a0 : List api_Node) (a1 : Int) : Option Int :=
  (if 0 ≤ a1 ∧ a1 < (a0.length : Int) then (((if (((gt a0 a1).Op) == 3) = true then (rec_weirref06_Deep a0 ((gt a0 a1).A) >>= (fun t86 => (if 0 ≤ ((gt a0 a1).A) ∧ ((gt a0 a1).A) < (a0.length : Int) then (weirref06_bracketed.f ((gt a0 a1).Op) ((gt a0 ((gt a0 a1).A)).Op) false >>= (fun t97 => (if t97 = true then some ((IntKind.i64.wrap (t86 + 1))) else some (t86)))) else none))) else (if (((gt a0 a1).Op) == 4) = true then (rec_weirref06_Deep a0 ((gt a0 a1).A) >>= (fun t108 => (if 0 ≤ ((gt a0 a1).A) ∧ ((gt a0 a1).A) < (a0.length : Int) then (weirref06_bracketed.f ((gt a0 a1).Op) ((gt a0 ((gt a0 a1).A)).Op) false >>= (fun t119 => (if t119 = true then some ((IntKind.i64.wrap (t108 + 1))) else some (t108)))) else none))) else (if (((gt a0 a1).Op) == 5) = true then (rec_weirref06_Deep a0 ((gt a0 a1).A) >>= (fun t130 => (if 0 ≤ ((gt a0 a1).A) ∧ ((gt a0 a1).A) < (a0.length : Int) then (weirref06_bracketed.f ((gt a0 a1).Op) ((gt a0 ((gt a0 a1).A)).Op) false >>= (fun t141 => (if t141 = true then some ((IntKind.i64.wrap (t130 + 1))) else some (t130)))) else none))) else some (0)))) : Option Int) >>= (fun t16 => (((if (((gt a0 a1).Op) == 4) = true then (rec_weirref06_Deep a0 ((gt a0 a1).B) >>= (fun t42 => (if 0 ≤ ((gt a0 a1).B) ∧ ((gt a0 a1).B) < (a0.length : Int) then (weirref06_bracketed.f ((gt a0 a1).Op) ((gt a0 ((gt a0 a1).B)).Op) true >>= (fun t53 => (if t53 = true then some ((IntKind.i64.wrap (t42 + 1))) else some (t42)))) else none))) else (if (((gt a0 a1).Op) == 5) = true then (rec_weirref06_Deep a0 ((gt a0 a1).B) >>= (fun t64 => (if 0 ≤ ((gt a0 a1).B) ∧ ((gt a0 a1).B) < (a0.length : Int) then (weirref06_bracketed.f ((gt a0 a1).Op) ((gt a0 ((gt a0 a1).B)).Op) true >>= (fun t75 => (if t75 = true then some ((IntKind.i64.wrap (t64 + 1))) else some (t64)))) else none))) else some (0))) : Option Int) >>= (fun t25 => (if (((gt a0 a1).Op) == 3) = true then some ((IntKind.i64.wrap (t16 + 1))) else some ((bmax t16 t25))))))) else none)
set_option maxHeartbeats 16000000 in
theorem weirref06_Deep.bok (rec_weirref06_Deep : (List api_Node) → Int → Option Int) (hrec_weirref06_Deep : weirref06_Deep.Spec rec_weirref06_Deep) : weirref06_Deep.Spec (weirref06_Deep.body rec_weirref06_Deep) := by
  intro a0 a1 Aa0 ca0 w0 Z fs w hS0 ha0 q0 hp0
  refine calls_abs ?_; intro R hR
  unfold weirref06_Deep.body at hp0
  refine calls_of_runs (fn := Tryd.f17) (c := cd17 []) Tryd.func17 (by kernel_rfl) (al := [.slice Aa0 a0.length ca0, .int .i64 a1]) rfl (n := 69) rfl ?_
  refine sx_run 8 (todo' := [.inRegion (opsOf (cd17 [1, 0])) [2, 3, 4, 5], .code (cd17 [1, 1])]) (us := [(4, .int .i64 0), (8, .slice Aa0 a0.length ca0), (9, .int .i64 a1)]) (by kernel_rfl) ?_
  obtain ⟨g1, hp2⟩ := ite_some hp0
  obtain ⟨b3, p4, hA5, hc6⟩ := ha0.atF g1.1 g1.2
  refine r_indexAddr (c := (cd17 [1, 0])) (i := 2) (d := (some 10)) (ty := 0) (t := 23) (e := 38) (n := a0.length) (cp := ca0) (sz := 6) (kk := .i64) (x := (.tmp 8)) (y := (.tmp 9)) (b := b3) (o' := p4) (j := a1) (by kernel_rfl) (by kernel_rfl) (slv (by kernel_rfl) hA5) (by kernel_rfl) (by kernel_rfl) (by kernel_rfl) g1.1 g1.2 ?_
  refine r_load (c := (cd17 [1, 0])) (i := 3) (d := (some 11)) (ty := 38) (t := 38) (x := (.tmp 10)) (p := ⟨b3, p4 + a1.toNat * 6, none⟩) (v := .agg (enc_api_Node (gt a0 a1)).toArray) (by kernel_rfl) (by kernel_rfl) (by kernel_rfl) (loads_agg (hc6.cells hS0) (by kernel_rfl) (by kernel_rfl)) ?_
  refine r_alloc (c := (cd17 [1, 0])) (i := 4) (d := (some 5)) (ty := 0) (z := .agg (enc_api_Node (⟨0, 0, 0, ⟨0, (⟨#[]⟩ : ByteArray)⟩, 0⟩ : api_Node)).toArray) (t := 38) (cs := enc_api_Node (⟨0, 0, 0, ⟨0, (⟨#[]⟩ : ByteArray)⟩, 0⟩ : api_Node)) hS0 (by kernel_rfl) (by kernel_rfl) (by kernel_rfl) (by kernel_rfl) ?_
  intro b7 w8 hS9
  refine r_store (c := (cd17 [1, 0])) (i := 5) (d := none) (ty := 0) (t := 38) (x := (.tmp 5)) (y := (.tmp 11)) (b := b7) (o := 0) (e := 38) (cs := enc_api_Node (⟨0, 0, 0, ⟨0, (⟨#[]⟩ : ByteArray)⟩, 0⟩ : api_Node)) (v := .agg (enc_api_Node (gt a0 a1)).toArray) (vs := enc_api_Node (gt a0 a1)) (cs' := enc_api_Node (gt a0 a1)) hS9 (by kernel_rfl) (by kernel_rfl) (by kernel_rfl) (by kernel_rfl) (by kernel_rfl) (by kernel_rfl) (one_api_Node _) (Nat.le_of_ble_eq_true (by kernel_rfl)) (by kernel_rfl) ?_
  intro w11 hS12
  refine sx_run 13 (todo' := [.inRegion (opsOf (cd17 [1, 1, 1, 1, 0, 0])) [1, 2, 3, 4, 5, 6, 7, 8, 9, 10, 11, 12], .code (cd17 [1, 1, 1, 1, 0, 1]), .code (cd17 [1, 1, 1, 1, 1])]) (us := [(6, .int .i64 0), (7, .int .i64 0), (12, .pointer (some ⟨b7, 0, none⟩))]) (by kernel_rfl) ?_
  refine r_load (c := (cd17 [1, 1, 1, 1, 0, 0])) (i := 1) (d := (some 13)) (ty := 3) (t := 3) (x := (.tmp 12)) (p := ⟨b7, 0, none⟩) (v := .int .i64 ((gt a0 a1).Op)) (by kernel_rfl) (by kernel_rfl) (by kernel_rfl) (loads_at 0 (hS12.blk 0 rfl) (by kernel_rfl) (by kernel_rfl)) ?_
  obtain ⟨v13, hv14, hp15⟩ := bind_some' hp2
  have J19 : ∀ (t16 : Int) (he21 : t16 = v13) (l20 : List Value) (w17 : World) (hS18 : St w0 Z (xblk b7 38 (enc_api_Node (gt a0 a1)) :: fs) w17), Runs Tryd.prog 17 [.code (cd17 [1, 1, 1, 1, 1])] (fill [some (.slice Aa0 a0.length ca0), none, none, none, none, some (.pointer (some ⟨b7, 0, none⟩)), some (.int .i64 t16), some (.int .i64 0), none, none, none, none, none, none, none, none, none, none, none, none, none, none, none, none, none, none, none, none, none, none, none, none, none, none, none, none, none, none, none, none, none, none, none, none, none, none, none, none, none, none, none, none, none, none, none, none, none, none, none, none, none, none, none, none, none, none, none, none, none, none, none] l20) w17 R := by
   intro t16 he21 l20 w17 hS18
   subst he21
   try dsimp only at hp15
   refine sx_run 4 (todo' := [.inRegion (opsOf (cd17 [1, 1, 1, 1, 1, 0, 0])) [1, 2, 3, 4, 5, 6, 7], .code (cd17 [1, 1, 1, 1, 1, 0, 1]), .code (cd17 [1, 1, 1, 1, 1, 1])]) (us := [(40, .pointer (some ⟨b7, 0, none⟩))]) (by kernel_rfl) ?_
   refine r_load (c := (cd17 [1, 1, 1, 1, 1, 0, 0])) (i := 1) (d := (some 41)) (ty := 3) (t := 3) (x := (.tmp 40)) (p := ⟨b7, 0, none⟩) (v := .int .i64 ((gt a0 a1).Op)) (by kernel_rfl) (by kernel_rfl) (by kernel_rfl) (loads_at 0 (hS18.blk 0 rfl) (by kernel_rfl) (by kernel_rfl)) ?_
   obtain ⟨v22, hv23, hp24⟩ := bind_some' hp15
   have J28 : ∀ (t25 : Int) (he30 : t25 = v22) (l29 : List Value) (w26 : World) (hS27 : St w0 Z (xblk b7 38 (enc_api_Node (gt a0 a1)) :: fs) w26), Runs Tryd.prog 17 [.code (cd17 [1, 1, 1, 1, 1, 1])] (fill [none, none, none, none, none, some (.pointer (some ⟨b7, 0, none⟩)), some (.int .i64 t16), some (.int .i64 t25), none, none, none, none, none, none, none, none, none, none, none, none, none, none, none, none, none, none, none, none, none, none, none, none, none, none, none, none, none, none, none, none, none, none, none, none, none, none, none, none, none, none, none, none, none, none, none, none, none, none, none, none, none, none, none, none, none, none, none, none, none, none, none] l29) w26 R := by
    intro t25 he30 l29 w26 hS27
    subst he30
    try dsimp only at hp24
    refine sx_run 4 (todo' := [.inRegion (opsOf (cd17 [1, 1, 1, 1, 1, 1, 0, 0])) [1, 2], .code (cd17 [1, 1, 1, 1, 1, 1, 0, 1]), .code (cd17 [1, 1, 1, 1, 1, 1, 1])]) (us := [(63, .pointer (some ⟨b7, 0, none⟩))]) (by kernel_rfl) ?_
    refine r_load (c := (cd17 [1, 1, 1, 1, 1, 1, 0, 0])) (i := 1) (d := (some 64)) (ty := 3) (t := 3) (x := (.tmp 63)) (p := ⟨b7, 0, none⟩) (v := .int .i64 ((gt a0 a1).Op)) (by kernel_rfl) (by kernel_rfl) (by kernel_rfl) (loads_at 0 (hS27.blk 0 rfl) (by kernel_rfl) (by kernel_rfl)) ?_
    refine sx_split 1 (todo' := [.inRegion (opsOf (cd17 [1, 1, 1, 1, 1, 1, 0, 0])) [], .code (cd17 [1, 1, 1, 1, 1, 1, 0, 1]), .code (cd17 [1, 1, 1, 1, 1, 1, 1])]) (us := []) (d := 65) (t := (((gt a0 a1).Op) == 3)) (by kernel_rfl) (fun h31 => ?_) (fun h32 => ?_)
    ·skip
     have hp33 := ite_t hp24 h31
     refine sx_run 8 (todo' := [.code (cd17 [1, 1, 1, 1, 1, 1, 0, 1, 0, 1]), .code (cd17 [1, 1, 1, 1, 1, 1, 1])]) (us := [(66, .int .i64 t16), (67, .int .i64 (IntKind.i64.wrap (t16 + 1))), (4, .int .i64 (IntKind.i64.wrap (t16 + 1)))]) (by kernel_rfl) ?_
     have hS34 := hS27.drop
     refine runs_ret (fn := Tryd.f17) (v := .int .i64 (IntKind.i64.wrap (t16 + 1))) Tryd.func17 (by kernel_rfl) ?_
     have hr35 := (Option.some.inj hp33)
     cases hr35
     exact hR _ _ ⟨rfl, hS34⟩
    ·skip
     have hp36 := ite_f hp24 h32
     refine sx_run 10 (todo' := [.code (cd17 [1, 1, 1, 1, 1, 1, 1, 1])]) (us := [(68, .int .i64 t16), (69, .int .i64 t25), (70, .int .i64 (bmax t16 t25)), (4, .int .i64 (bmax t16 t25))]) (by kernel_rfl) ?_
     have hS37 := hS27.drop
     refine runs_ret (fn := Tryd.f17) (v := .int .i64 (bmax t16 t25)) Tryd.func17 (by kernel_rfl) ?_
     have hr38 := (Option.some.inj hp36)
     cases hr38
     exact hR _ _ ⟨rfl, hS37⟩
   refine sx_split 1 (todo' := [.inRegion (opsOf (cd17 [1, 1, 1, 1, 1, 0, 0])) [3, 4, 5, 6, 7], .code (cd17 [1, 1, 1, 1, 1, 0, 1]), .code (cd17 [1, 1, 1, 1, 1, 1])]) (us := []) (d := 42) (t := (((gt a0 a1).Op) == 4)) (by kernel_rfl) (fun h39 => ?_) (fun h40 => ?_)
   ·skip
    have hp41 := ite_t hv23 h39
    refine sx_run 11 (todo' := [.inRegion (opsOf (cd17 [1, 1, 1, 1, 1, 0, 1, 0, 0])) [2, 3, 4], .code (cd17 [1, 1, 1, 1, 1, 0, 1, 0, 1]), .code (cd17 [1, 1, 1, 1, 1, 1])]) (us := [(43, .bool true), (44, undef), (45, undef), (46, undef), (47, .bool true), (48, .slice Aa0 a0.length ca0), (49, .pointer (some ⟨b7, 2, none⟩))]) (by kernel_rfl) ?_
    refine r_load (c := (cd17 [1, 1, 1, 1, 1, 0, 1, 0, 0])) (i := 2) (d := (some 50)) (ty := 3) (t := 3) (x := (.tmp 49)) (p := ⟨b7, 2, none⟩) (v := .int .i64 ((gt a0 a1).B)) (by kernel_rfl) (by kernel_rfl) (by kernel_rfl) (loads_at 2 (hS18.blk 0 rfl) (by kernel_rfl) (by kernel_rfl)) ?_
    obtain ⟨t42, hr43, hp44⟩ := bind_some' hp41
    refine r_call1 (c := (cd17 [1, 1, 1, 1, 1, 0, 1, 0, 0])) (i := 3) (d := (some 51)) (g := 17) (args := #[.slice Aa0 a0.length ca0, .int .i64 ((gt a0 a1).B)]) (by kernel_rfl) (by kernel_rfl) (by kernel_rfl) (by kernel_rfl) (hrec_weirref06_Deep a0 ((gt a0 a1).B) Aa0 ca0 hS18 ha0 hr43) ?_
    rintro _ w45 ⟨rfl, hS46⟩
    refine ⟨.int .i64 t42, rfl, ?_⟩
    refine sx_run 3 (todo' := [.code (cd17 [1, 1, 1, 1, 1, 0, 1, 0, 1, 0]), .code (cd17 [1, 1, 1, 1, 1, 0, 1, 0, 1, 1]), .code (cd17 [1, 1, 1, 1, 1, 1])]) (us := [(7, .int .i64 t42)]) (by kernel_rfl) ?_
    refine r_quiet hS46 (c := (cd17 [1, 1, 1, 1, 1, 0, 1, 0, 1, 0])) (id := 10) (by kernel_rfl) (by kernel_rfl) (by kernel_rfl) (is := [0, 1, 2, 3, 4, 5, 6, 7, 8]) (by kernel_rfl) ?_
    refine q_run 1 (is' := [1, 2, 3, 4, 5, 6, 7, 8]) (us := [(52, .pointer (some ⟨b7, 0, none⟩))]) (by kernel_rfl) ?_
    refine q_load (c := (cd17 [1, 1, 1, 1, 1, 0, 1, 0, 1, 0])) (i := 1) (d := (some 53)) (ty := 3) (t := 3) (x := (.tmp 52)) (p := ⟨b7, 0, none⟩) (v := .int .i64 ((gt a0 a1).Op)) (by kernel_rfl) (by kernel_rfl) (by kernel_rfl) (fun w hC => (loads_at 0 (hC.blk 0 rfl) (by kernel_rfl) (by kernel_rfl))) ?_
    refine q_run 2 (is' := [4, 5, 6, 7, 8]) (us := [(54, .slice Aa0 a0.length ca0), (55, .pointer (some ⟨b7, 2, none⟩))]) (by kernel_rfl) ?_
    refine q_load (c := (cd17 [1, 1, 1, 1, 1, 0, 1, 0, 1, 0])) (i := 4) (d := (some 56)) (ty := 3) (t := 3) (x := (.tmp 55)) (p := ⟨b7, 2, none⟩) (v := .int .i64 ((gt a0 a1).B)) (by kernel_rfl) (by kernel_rfl) (by kernel_rfl) (fun w hC => (loads_at 2 (hC.blk 0 rfl) (by kernel_rfl) (by kernel_rfl))) ?_
    obtain ⟨g47, hp48⟩ := ite_some hp44
    obtain ⟨b49, p50, hA51, hc52⟩ := ha0.atF g47.1 g47.2
    refine q_indexAddr (c := (cd17 [1, 1, 1, 1, 1, 0, 1, 0, 1, 0])) (i := 5) (d := (some 57)) (ty := 0) (t := 23) (e := 38) (n := a0.length) (cp := ca0) (sz := 6) (kk := .i64) (x := (.tmp 54)) (y := (.tmp 56)) (b := b49) (o' := p50) (j := (gt a0 a1).B) (by kernel_rfl) (by kernel_rfl) (slv (by kernel_rfl) hA51) (by kernel_rfl) (by kernel_rfl) (by kernel_rfl) g47.1 g47.2 ?_
    refine q_run 1 (is' := [7, 8]) (us := [(58, .pointer (some ⟨b49, p50 + ((gt a0 a1).B).toNat * 6, none⟩))]) (by kernel_rfl) ?_
    refine q_load (c := (cd17 [1, 1, 1, 1, 1, 0, 1, 0, 1, 0])) (i := 7) (d := (some 59)) (ty := 3) (t := 3) (x := (.tmp 58)) (p := ⟨b49, p50 + ((gt a0 a1).B).toNat * 6, none⟩) (v := .int .i64 ((gt a0 ((gt a0 a1).B)).Op)) (by kernel_rfl) (by kernel_rfl) (by kernel_rfl) (fun w hC => (loads_at 0 (hc52.cells hC) (by kernel_rfl) (by kernel_rfl))) ?_
    obtain ⟨t53, hr54, hp55⟩ := bind_some' hp48
    refine q_call1 (c := (cd17 [1, 1, 1, 1, 1, 0, 1, 0, 1, 0])) (i := 8) (d := (some 60)) (v := .bool t53) (g := 29) (args := #[.int .i64 ((gt a0 a1).Op), .int .i64 ((gt a0 ((gt a0 a1).B)).Op), .bool true]) (by kernel_rfl) (by kernel_rfl) (by kernel_rfl) (by kernel_rfl) (fun w hC => by
     refine (weirref06_bracketed.ok ((gt a0 a1).Op) ((gt a0 ((gt a0 a1).B)).Op) true hC hr54).mono ?_
     rintro e w2 ⟨rfl, h2⟩
     exact ⟨rfl, h2⟩) ?_
    refine Qs.nil ?_
    intro w56 hS57
    cases t53
    ·skip
     have hp58 := ite_f hp55 rfl
     refine sx_run 2 (todo' := [.code (cd17 [1, 1, 1, 1, 1, 1])]) (us := []) (by kernel_rfl) ?_
     refine Runs.fill (m := [none, none, none, none, none, some (.pointer (some ⟨b7, 0, none⟩)), some (.int .i64 t16), some (.int .i64 t42), none, none, none, none, none, none, none, none, none, none, none, none, none, none, none, none, none, none, none, none, none, none, none, none, none, none, none, none, none, none, none, none, none, none, none, none, none, none, none, none, none, none, none, none, none, none, none, none, none, none, none, none, none, none, none, none, none, none, none, none, none, none, none]) (by kernel_rfl) ?_
     exact J28 t42 (Option.some.inj hp58) _ _ hS57
    ·skip
     have hp59 := ite_t hp55 rfl
     refine sx_run 6 (todo' := [.code (cd17 [1, 1, 1, 1, 1, 1])]) (us := [(61, .int .i64 t42), (62, .int .i64 (IntKind.i64.wrap (t42 + 1))), (7, .int .i64 (IntKind.i64.wrap (t42 + 1)))]) (by kernel_rfl) ?_
     refine Runs.fill (m := [none, none, none, none, none, some (.pointer (some ⟨b7, 0, none⟩)), some (.int .i64 t16), some (.int .i64 (IntKind.i64.wrap (t42 + 1))), none, none, none, none, none, none, none, none, none, none, none, none, none, none, none, none, none, none, none, none, none, none, none, none, none, none, none, none, none, none, none, none, none, none, none, none, none, none, none, none, none, none, none, none, none, none, none, none, none, none, none, none, none, none, none, none, none, none, none, none, none, none, none]) (by kernel_rfl) ?_
     exact J28 (IntKind.i64.wrap (t42 + 1)) (Option.some.inj hp59) _ _ hS57
   ·skip
    have hp60 := ite_f hv23 h40
    refine sx_run 2 (todo' := [.inRegion (opsOf (cd17 [1, 1, 1, 1, 1, 0, 0])) [5, 6, 7], .code (cd17 [1, 1, 1, 1, 1, 0, 1]), .code (cd17 [1, 1, 1, 1, 1, 1])]) (us := [(43, .bool false), (44, .pointer (some ⟨b7, 0, none⟩))]) (by kernel_rfl) ?_
    refine r_load (c := (cd17 [1, 1, 1, 1, 1, 0, 0])) (i := 5) (d := (some 45)) (ty := 3) (t := 3) (x := (.tmp 44)) (p := ⟨b7, 0, none⟩) (v := .int .i64 ((gt a0 a1).Op)) (by kernel_rfl) (by kernel_rfl) (by kernel_rfl) (loads_at 0 (hS18.blk 0 rfl) (by kernel_rfl) (by kernel_rfl)) ?_
    refine sx_split 1 (todo' := [.inRegion (opsOf (cd17 [1, 1, 1, 1, 1, 0, 0])) [7], .code (cd17 [1, 1, 1, 1, 1, 0, 1]), .code (cd17 [1, 1, 1, 1, 1, 1])]) (us := []) (d := 46) (t := (((gt a0 a1).Op) == 5)) (by kernel_rfl) (fun h61 => ?_) (fun h62 => ?_)
    ·skip
     have hp63 := ite_t hp60 h61
     refine sx_run 7 (todo' := [.inRegion (opsOf (cd17 [1, 1, 1, 1, 1, 0, 1, 0, 0])) [2, 3, 4], .code (cd17 [1, 1, 1, 1, 1, 0, 1, 0, 1]), .code (cd17 [1, 1, 1, 1, 1, 1])]) (us := [(47, .bool true), (48, .slice Aa0 a0.length ca0), (49, .pointer (some ⟨b7, 2, none⟩))]) (by kernel_rfl) ?_
     refine r_load (c := (cd17 [1, 1, 1, 1, 1, 0, 1, 0, 0])) (i := 2) (d := (some 50)) (ty := 3) (t := 3) (x := (.tmp 49)) (p := ⟨b7, 2, none⟩) (v := .int .i64 ((gt a0 a1).B)) (by kernel_rfl) (by kernel_rfl) (by kernel_rfl) (loads_at 2 (hS18.blk 0 rfl) (by kernel_rfl) (by kernel_rfl)) ?_
     obtain ⟨t64, hr65, hp66⟩ := bind_some' hp63
     refine r_call1 (c := (cd17 [1, 1, 1, 1, 1, 0, 1, 0, 0])) (i := 3) (d := (some 51)) (g := 17) (args := #[.slice Aa0 a0.length ca0, .int .i64 ((gt a0 a1).B)]) (by kernel_rfl) (by kernel_rfl) (by kernel_rfl) (by kernel_rfl) (hrec_weirref06_Deep a0 ((gt a0 a1).B) Aa0 ca0 hS18 ha0 hr65) ?_
     rintro _ w67 ⟨rfl, hS68⟩
     refine ⟨.int .i64 t64, rfl, ?_⟩
     refine sx_run 3 (todo' := [.code (cd17 [1, 1, 1, 1, 1, 0, 1, 0, 1, 0]), .code (cd17 [1, 1, 1, 1, 1, 0, 1, 0, 1, 1]), .code (cd17 [1, 1, 1, 1, 1, 1])]) (us := [(7, .int .i64 t64)]) (by kernel_rfl) ?_
     refine r_quiet hS68 (c := (cd17 [1, 1, 1, 1, 1, 0, 1, 0, 1, 0])) (id := 10) (by kernel_rfl) (by kernel_rfl) (by kernel_rfl) (is := [0, 1, 2, 3, 4, 5, 6, 7, 8]) (by kernel_rfl) ?_
     refine q_run 1 (is' := [1, 2, 3, 4, 5, 6, 7, 8]) (us := [(52, .pointer (some ⟨b7, 0, none⟩))]) (by kernel_rfl) ?_
     refine q_load (c := (cd17 [1, 1, 1, 1, 1, 0, 1, 0, 1, 0])) (i := 1) (d := (some 53)) (ty := 3) (t := 3) (x := (.tmp 52)) (p := ⟨b7, 0, none⟩) (v := .int .i64 ((gt a0 a1).Op)) (by kernel_rfl) (by kernel_rfl) (by kernel_rfl) (fun w hC => (loads_at 0 (hC.blk 0 rfl) (by kernel_rfl) (by kernel_rfl))) ?_
     refine q_run 2 (is' := [4, 5, 6, 7, 8]) (us := [(54, .slice Aa0 a0.length ca0), (55, .pointer (some ⟨b7, 2, none⟩))]) (by kernel_rfl) ?_
     refine q_load (c := (cd17 [1, 1, 1, 1, 1, 0, 1, 0, 1, 0])) (i := 4) (d := (some 56)) (ty := 3) (t := 3) (x := (.tmp 55)) (p := ⟨b7, 2, none⟩) (v := .int .i64 ((gt a0 a1).B)) (by kernel_rfl) (by kernel_rfl) (by kernel_rfl) (fun w hC => (loads_at 2 (hC.blk 0 rfl) (by kernel_rfl) (by kernel_rfl))) ?_
     obtain ⟨g69, hp70⟩ := ite_some hp66
     obtain ⟨b71, p72, hA73, hc74⟩ := ha0.atF g69.1 g69.2
     refine q_indexAddr (c := (cd17 [1, 1, 1, 1, 1, 0, 1, 0, 1, 0])) (i := 5) (d := (some 57)) (ty := 0) (t := 23) (e := 38) (n := a0.length) (cp := ca0) (sz := 6) (kk := .i64) (x := (.tmp 54)) (y := (.tmp 56)) (b := b71) (o' := p72) (j := (gt a0 a1).B) (by kernel_rfl) (by kernel_rfl) (slv (by kernel_rfl) hA73) (by kernel_rfl) (by kernel_rfl) (by kernel_rfl) g69.1 g69.2 ?_
     refine q_run 1 (is' := [7, 8]) (us := [(58, .pointer (some ⟨b71, p72 + ((gt a0 a1).B).toNat * 6, none⟩))]) (by kernel_rfl) ?_
     refine q_load (c := (cd17 [1, 1, 1, 1, 1, 0, 1, 0, 1, 0])) (i := 7) (d := (some 59)) (ty := 3) (t := 3) (x := (.tmp 58)) (p := ⟨b71, p72 + ((gt a0 a1).B).toNat * 6, none⟩) (v := .int .i64 ((gt a0 ((gt a0 a1).B)).Op)) (by kernel_rfl) (by kernel_rfl) (by kernel_rfl) (fun w hC => (loads_at 0 (hc74.cells hC) (by kernel_rfl) (by kernel_rfl))) ?_
     obtain ⟨t75, hr76, hp77⟩ := bind_some' hp70
     refine q_call1 (c := (cd17 [1, 1, 1, 1, 1, 0, 1, 0, 1, 0])) (i := 8) (d := (some 60)) (v := .bool t75) (g := 29) (args := #[.int .i64 ((gt a0 a1).Op), .int .i64 ((gt a0 ((gt a0 a1).B)).Op), .bool true]) (by kernel_rfl) (by kernel_rfl) (by kernel_rfl) (by kernel_rfl) (fun w hC => by
      refine (weirref06_bracketed.ok ((gt a0 a1).Op) ((gt a0 ((gt a0 a1).B)).Op) true hC hr76).mono ?_
      rintro e w2 ⟨rfl, h2⟩
      exact ⟨rfl, h2⟩) ?_
     refine Qs.nil ?_
     intro w78 hS79
     cases t75
     ·skip
      have hp80 := ite_f hp77 rfl
      refine sx_run 2 (todo' := [.code (cd17 [1, 1, 1, 1, 1, 1])]) (us := []) (by kernel_rfl) ?_
      refine Runs.fill (m := [none, none, none, none, none, some (.pointer (some ⟨b7, 0, none⟩)), some (.int .i64 t16), some (.int .i64 t64), none, none, none, none, none, none, none, none, none, none, none, none, none, none, none, none, none, none, none, none, none, none, none, none, none, none, none, none, none, none, none, none, none, none, none, none, none, none, none, none, none, none, none, none, none, none, none, none, none, none, none, none, none, none, none, none, none, none, none, none, none, none, none]) (by kernel_rfl) ?_
      exact J28 t64 (Option.some.inj hp80) _ _ hS79
     ·skip
      have hp81 := ite_t hp77 rfl
      refine sx_run 6 (todo' := [.code (cd17 [1, 1, 1, 1, 1, 1])]) (us := [(61, .int .i64 t64), (62, .int .i64 (IntKind.i64.wrap (t64 + 1))), (7, .int .i64 (IntKind.i64.wrap (t64 + 1)))]) (by kernel_rfl) ?_
      refine Runs.fill (m := [none, none, none, none, none, some (.pointer (some ⟨b7, 0, none⟩)), some (.int .i64 t16), some (.int .i64 (IntKind.i64.wrap (t64 + 1))), none, none, none, none, none, none, none, none, none, none, none, none, none, none, none, none, none, none, none, none, none, none, none, none, none, none, none, none, none, none, none, none, none, none, none, none, none, none, none, none, none, none, none, none, none, none, none, none, none, none, none, none, none, none, none, none, none, none, none, none, none, none, none]) (by kernel_rfl) ?_
      exact J28 (IntKind.i64.wrap (t64 + 1)) (Option.some.inj hp81) _ _ hS79
    ·skip
     have hp82 := ite_f hp60 h62
     refine sx_run 4 (todo' := [.code (cd17 [1, 1, 1, 1, 1, 1])]) (us := [(47, .bool false)]) (by kernel_rfl) ?_
     refine Runs.fill (m := [none, none, none, none, none, some (.pointer (some ⟨b7, 0, none⟩)), some (.int .i64 t16), some (.int .i64 0), none, none, none, none, none, none, none, none, none, none, none, none, none, none, none, none, none, none, none, none, none, none, none, none, none, none, none, none, none, none, none, none, none, none, none, none, none, none, none, none, none, none, none, none, none, none, none, none, none, none, none, none, none, none, none, none, none, none, none, none, none, none, none]) (by kernel_rfl) ?_
     exact J28 0 (Option.some.inj hp82) _ _ hS18
  refine sx_split 1 (todo' := [.inRegion (opsOf (cd17 [1, 1, 1, 1, 0, 0])) [3, 4, 5, 6, 7, 8, 9, 10, 11, 12], .code (cd17 [1, 1, 1, 1, 0, 1]), .code (cd17 [1, 1, 1, 1, 1])]) (us := []) (d := 14) (t := (((gt a0 a1).Op) == 3)) (by kernel_rfl) (fun h83 => ?_) (fun h84 => ?_)
  ·skip
   have hp85 := ite_t hv14 h83
   refine sx_run 16 (todo' := [.inRegion (opsOf (cd17 [1, 1, 1, 1, 0, 1, 0, 0])) [2, 3, 4], .code (cd17 [1, 1, 1, 1, 0, 1, 0, 1]), .code (cd17 [1, 1, 1, 1, 1])]) (us := [(15, .bool true), (16, undef), (17, undef), (18, undef), (19, .bool true), (20, .bool true), (21, undef), (22, undef), (23, undef), (24, .bool true), (25, .slice Aa0 a0.length ca0), (26, .pointer (some ⟨b7, 1, none⟩))]) (by kernel_rfl) ?_
   refine r_load (c := (cd17 [1, 1, 1, 1, 0, 1, 0, 0])) (i := 2) (d := (some 27)) (ty := 3) (t := 3) (x := (.tmp 26)) (p := ⟨b7, 1, none⟩) (v := .int .i64 ((gt a0 a1).A)) (by kernel_rfl) (by kernel_rfl) (by kernel_rfl) (loads_at 1 (hS12.blk 0 rfl) (by kernel_rfl) (by kernel_rfl)) ?_
   obtain ⟨t86, hr87, hp88⟩ := bind_some' hp85
   refine r_call1 (c := (cd17 [1, 1, 1, 1, 0, 1, 0, 0])) (i := 3) (d := (some 28)) (g := 17) (args := #[.slice Aa0 a0.length ca0, .int .i64 ((gt a0 a1).A)]) (by kernel_rfl) (by kernel_rfl) (by kernel_rfl) (by kernel_rfl) (hrec_weirref06_Deep a0 ((gt a0 a1).A) Aa0 ca0 hS12 ha0 hr87) ?_
   rintro _ w89 ⟨rfl, hS90⟩
   refine ⟨.int .i64 t86, rfl, ?_⟩
   refine sx_run 3 (todo' := [.code (cd17 [1, 1, 1, 1, 0, 1, 0, 1, 0]), .code (cd17 [1, 1, 1, 1, 0, 1, 0, 1, 1]), .code (cd17 [1, 1, 1, 1, 1])]) (us := [(6, .int .i64 t86)]) (by kernel_rfl) ?_
   refine r_quiet hS90 (c := (cd17 [1, 1, 1, 1, 0, 1, 0, 1, 0])) (id := 6) (by kernel_rfl) (by kernel_rfl) (by kernel_rfl) (is := [0, 1, 2, 3, 4, 5, 6, 7, 8]) (by kernel_rfl) ?_
   refine q_run 1 (is' := [1, 2, 3, 4, 5, 6, 7, 8]) (us := [(29, .pointer (some ⟨b7, 0, none⟩))]) (by kernel_rfl) ?_
   refine q_load (c := (cd17 [1, 1, 1, 1, 0, 1, 0, 1, 0])) (i := 1) (d := (some 30)) (ty := 3) (t := 3) (x := (.tmp 29)) (p := ⟨b7, 0, none⟩) (v := .int .i64 ((gt a0 a1).Op)) (by kernel_rfl) (by kernel_rfl) (by kernel_rfl) (fun w hC => (loads_at 0 (hC.blk 0 rfl) (by kernel_rfl) (by kernel_rfl))) ?_
   refine q_run 2 (is' := [4, 5, 6, 7, 8]) (us := [(31, .slice Aa0 a0.length ca0), (32, .pointer (some ⟨b7, 1, none⟩))]) (by kernel_rfl) ?_
   refine q_load (c := (cd17 [1, 1, 1, 1, 0, 1, 0, 1, 0])) (i := 4) (d := (some 33)) (ty := 3) (t := 3) (x := (.tmp 32)) (p := ⟨b7, 1, none⟩) (v := .int .i64 ((gt a0 a1).A)) (by kernel_rfl) (by kernel_rfl) (by kernel_rfl) (fun w hC => (loads_at 1 (hC.blk 0 rfl) (by kernel_rfl) (by kernel_rfl))) ?_
   obtain ⟨g91, hp92⟩ := ite_some hp88
   obtain ⟨b93, p94, hA95, hc96⟩ := ha0.atF g91.1 g91.2
   refine q_indexAddr (c := (cd17 [1, 1, 1, 1, 0, 1, 0, 1, 0])) (i := 5) (d := (some 34)) (ty := 0) (t := 23) (e := 38) (n := a0.length) (cp := ca0) (sz := 6) (kk := .i64) (x := (.tmp 31)) (y := (.tmp 33)) (b := b93) (o' := p94) (j := (gt a0 a1).A) (by kernel_rfl) (by kernel_rfl) (slv (by kernel_rfl) hA95) (by kernel_rfl) (by kernel_rfl) (by kernel_rfl) g91.1 g91.2 ?_
   refine q_run 1 (is' := [7, 8]) (us := [(35, .pointer (some ⟨b93, p94 + ((gt a0 a1).A).toNat * 6, none⟩))]) (by kernel_rfl) ?_
   refine q_load (c := (cd17 [1, 1, 1, 1, 0, 1, 0, 1, 0])) (i := 7) (d := (some 36)) (ty := 3) (t := 3) (x := (.tmp 35)) (p := ⟨b93, p94 + ((gt a0 a1).A).toNat * 6, none⟩) (v := .int .i64 ((gt a0 ((gt a0 a1).A)).Op)) (by kernel_rfl) (by kernel_rfl) (by kernel_rfl) (fun w hC => (loads_at 0 (hc96.cells hC) (by kernel_rfl) (by kernel_rfl))) ?_
   obtain ⟨t97, hr98, hp99⟩ := bind_some' hp92
   refine q_call1 (c := (cd17 [1, 1, 1, 1, 0, 1, 0, 1, 0])) (i := 8) (d := (some 37)) (v := .bool t97) (g := 29) (args := #[.int .i64 ((gt a0 a1).Op), .int .i64 ((gt a0 ((gt a0 a1).A)).Op), .bool false]) (by kernel_rfl) (by kernel_rfl) (by kernel_rfl) (by kernel_rfl) (fun w hC => by
    refine (weirref06_bracketed.ok ((gt a0 a1).Op) ((gt a0 ((gt a0 a1).A)).Op) false hC hr98).mono ?_
    rintro e w2 ⟨rfl, h2⟩
    exact ⟨rfl, h2⟩) ?_
   refine Qs.nil ?_
   intro w100 hS101
   cases t97
   ·skip
    have hp102 := ite_f hp99 rfl
    refine sx_run 2 (todo' := [.code (cd17 [1, 1, 1, 1, 1])]) (us := []) (by kernel_rfl) ?_
    refine Runs.fill (m := [some (.slice Aa0 a0.length ca0), none, none, none, none, some (.pointer (some ⟨b7, 0, none⟩)), some (.int .i64 t86), some (.int .i64 0), none, none, none, none, none, none, none, none, none, none, none, none, none, none, none, none, none, none, none, none, none, none, none, none, none, none, none, none, none, none, none, none, none, none, none, none, none, none, none, none, none, none, none, none, none, none, none, none, none, none, none, none, none, none, none, none, none, none, none, none, none, none, none]) (by kernel_rfl) ?_
    exact J19 t86 (Option.some.inj hp102) _ _ hS101
   ·skip
    have hp103 := ite_t hp99 rfl
    refine sx_run 6 (todo' := [.code (cd17 [1, 1, 1, 1, 1])]) (us := [(38, .int .i64 t86), (39, .int .i64 (IntKind.i64.wrap (t86 + 1))), (6, .int .i64 (IntKind.i64.wrap (t86 + 1)))]) (by kernel_rfl) ?_
    refine Runs.fill (m := [some (.slice Aa0 a0.length ca0), none, none, none, none, some (.pointer (some ⟨b7, 0, none⟩)), some (.int .i64 (IntKind.i64.wrap (t86 + 1))), some (.int .i64 0), none, none, none, none, none, none, none, none, none, none, none, none, none, none, none, none, none, none, none, none, none, none, none, none, none, none, none, none, none, none, none, none, none, none, none, none, none, none, none, none, none, none, none, none, none, none, none, none, none, none, none, none, none, none, none, none, none, none, none, none, none, none, none]) (by kernel_rfl) ?_
    exact J19 (IntKind.i64.wrap (t86 + 1)) (Option.some.inj hp103) _ _ hS101
  ·skip
   have hp104 := ite_f hv14 h84
   refine sx_run 2 (todo' := [.inRegion (opsOf (cd17 [1, 1, 1, 1, 0, 0])) [5, 6, 7, 8, 9, 10, 11, 12], .code (cd17 [1, 1, 1, 1, 0, 1]), .code (cd17 [1, 1, 1, 1, 1])]) (us := [(15, .bool false), (16, .pointer (some ⟨b7, 0, none⟩))]) (by kernel_rfl) ?_
   refine r_load (c := (cd17 [1, 1, 1, 1, 0, 0])) (i := 5) (d := (some 17)) (ty := 3) (t := 3) (x := (.tmp 16)) (p := ⟨b7, 0, none⟩) (v := .int .i64 ((gt a0 a1).Op)) (by kernel_rfl) (by kernel_rfl) (by kernel_rfl) (loads_at 0 (hS12.blk 0 rfl) (by kernel_rfl) (by kernel_rfl)) ?_
   refine sx_split 1 (todo' := [.inRegion (opsOf (cd17 [1, 1, 1, 1, 0, 0])) [7, 8, 9, 10, 11, 12], .code (cd17 [1, 1, 1, 1, 0, 1]), .code (cd17 [1, 1, 1, 1, 1])]) (us := []) (d := 18) (t := (((gt a0 a1).Op) == 4)) (by kernel_rfl) (fun h105 => ?_) (fun h106 => ?_)
   ·skip
    have hp107 := ite_t hp104 h105
    refine sx_run 12 (todo' := [.inRegion (opsOf (cd17 [1, 1, 1, 1, 0, 1, 0, 0])) [2, 3, 4], .code (cd17 [1, 1, 1, 1, 0, 1, 0, 1]), .code (cd17 [1, 1, 1, 1, 1])]) (us := [(19, .bool true), (20, .bool true), (21, undef), (22, undef), (23, undef), (24, .bool true), (25, .slice Aa0 a0.length ca0), (26, .pointer (some ⟨b7, 1, none⟩))]) (by kernel_rfl) ?_
    refine r_load (c := (cd17 [1, 1, 1, 1, 0, 1, 0, 0])) (i := 2) (d := (some 27)) (ty := 3) (t := 3) (x := (.tmp 26)) (p := ⟨b7, 1, none⟩) (v := .int .i64 ((gt a0 a1).A)) (by kernel_rfl) (by kernel_rfl) (by kernel_rfl) (loads_at 1 (hS12.blk 0 rfl) (by kernel_rfl) (by kernel_rfl)) ?_
    obtain ⟨t108, hr109, hp110⟩ := bind_some' hp107
    refine r_call1 (c := (cd17 [1, 1, 1, 1, 0, 1, 0, 0])) (i := 3) (d := (some 28)) (g := 17) (args := #[.slice Aa0 a0.length ca0, .int .i64 ((gt a0 a1).A)]) (by kernel_rfl) (by kernel_rfl) (by kernel_rfl) (by kernel_rfl) (hrec_weirref06_Deep a0 ((gt a0 a1).A) Aa0 ca0 hS12 ha0 hr109) ?_
    rintro _ w111 ⟨rfl, hS112⟩
    refine ⟨.int .i64 t108, rfl, ?_⟩
    refine sx_run 3 (todo' := [.code (cd17 [1, 1, 1, 1, 0, 1, 0, 1, 0]), .code (cd17 [1, 1, 1, 1, 0, 1, 0, 1, 1]), .code (cd17 [1, 1, 1, 1, 1])]) (us := [(6, .int .i64 t108)]) (by kernel_rfl) ?_
    refine r_quiet hS112 (c := (cd17 [1, 1, 1, 1, 0, 1, 0, 1, 0])) (id := 6) (by kernel_rfl) (by kernel_rfl) (by kernel_rfl) (is := [0, 1, 2, 3, 4, 5, 6, 7, 8]) (by kernel_rfl) ?_
    refine q_run 1 (is' := [1, 2, 3, 4, 5, 6, 7, 8]) (us := [(29, .pointer (some ⟨b7, 0, none⟩))]) (by kernel_rfl) ?_
    refine q_load (c := (cd17 [1, 1, 1, 1, 0, 1, 0, 1, 0])) (i := 1) (d := (some 30)) (ty := 3) (t := 3) (x := (.tmp 29)) (p := ⟨b7, 0, none⟩) (v := .int .i64 ((gt a0 a1).Op)) (by kernel_rfl) (by kernel_rfl) (by kernel_rfl) (fun w hC => (loads_at 0 (hC.blk 0 rfl) (by kernel_rfl) (by kernel_rfl))) ?_
    refine q_run 2 (is' := [4, 5, 6, 7, 8]) (us := [(31, .slice Aa0 a0.length ca0), (32, .pointer (some ⟨b7, 1, none⟩))]) (by kernel_rfl) ?_
    refine q_load (c := (cd17 [1, 1, 1, 1, 0, 1, 0, 1, 0])) (i := 4) (d := (some 33)) (ty := 3) (t := 3) (x := (.tmp 32)) (p := ⟨b7, 1, none⟩) (v := .int .i64 ((gt a0 a1).A)) (by kernel_rfl) (by kernel_rfl) (by kernel_rfl) (fun w hC => (loads_at 1 (hC.blk 0 rfl) (by kernel_rfl) (by kernel_rfl))) ?_
    obtain ⟨g113, hp114⟩ := ite_some hp110
    obtain ⟨b115, p116, hA117, hc118⟩ := ha0.atF g113.1 g113.2
    refine q_indexAddr (c := (cd17 [1, 1, 1, 1, 0, 1, 0, 1, 0])) (i := 5) (d := (some 34)) (ty := 0) (t := 23) (e := 38) (n := a0.length) (cp := ca0) (sz := 6) (kk := .i64) (x := (.tmp 31)) (y := (.tmp 33)) (b := b115) (o' := p116) (j := (gt a0 a1).A) (by kernel_rfl) (by kernel_rfl) (slv (by kernel_rfl) hA117) (by kernel_rfl) (by kernel_rfl) (by kernel_rfl) g113.1 g113.2 ?_
    refine q_run 1 (is' := [7, 8]) (us := [(35, .pointer (some ⟨b115, p116 + ((gt a0 a1).A).toNat * 6, none⟩))]) (by kernel_rfl) ?_
    refine q_load (c := (cd17 [1, 1, 1, 1, 0, 1, 0, 1, 0])) (i := 7) (d := (some 36)) (ty := 3) (t := 3) (x := (.tmp 35)) (p := ⟨b115, p116 + ((gt a0 a1).A).toNat * 6, none⟩) (v := .int .i64 ((gt a0 ((gt a0 a1).A)).Op)) (by kernel_rfl) (by kernel_rfl) (by kernel_rfl) (fun w hC => (loads_at 0 (hc118.cells hC) (by kernel_rfl) (by kernel_rfl))) ?_
    obtain ⟨t119, hr120, hp121⟩ := bind_some' hp114
    refine q_call1 (c := (cd17 [1, 1, 1, 1, 0, 1, 0, 1, 0])) (i := 8) (d := (some 37)) (v := .bool t119) (g := 29) (args := #[.int .i64 ((gt a0 a1).Op), .int .i64 ((gt a0 ((gt a0 a1).A)).Op), .bool false]) (by kernel_rfl) (by kernel_rfl) (by kernel_rfl) (by kernel_rfl) (fun w hC => by
     refine (weirref06_bracketed.ok ((gt a0 a1).Op) ((gt a0 ((gt a0 a1).A)).Op) false hC hr120).mono ?_
     rintro e w2 ⟨rfl, h2⟩
     exact ⟨rfl, h2⟩) ?_
    refine Qs.nil ?_
    intro w122 hS123
    cases t119
    ·skip
     have hp124 := ite_f hp121 rfl
     refine sx_run 2 (todo' := [.code (cd17 [1, 1, 1, 1, 1])]) (us := []) (by kernel_rfl) ?_
     refine Runs.fill (m := [some (.slice Aa0 a0.length ca0), none, none, none, none, some (.pointer (some ⟨b7, 0, none⟩)), some (.int .i64 t108), some (.int .i64 0), none, none, none, none, none, none, none, none, none, none, none, none, none, none, none, none, none, none, none, none, none, none, none, none, none, none, none, none, none, none, none, none, none, none, none, none, none, none, none, none, none, none, none, none, none, none, none, none, none, none, none, none, none, none, none, none, none, none, none, none, none, none, none]) (by kernel_rfl) ?_
     exact J19 t108 (Option.some.inj hp124) _ _ hS123
    ·skip
     have hp125 := ite_t hp121 rfl
     refine sx_run 6 (todo' := [.code (cd17 [1, 1, 1, 1, 1])]) (us := [(38, .int .i64 t108), (39, .int .i64 (IntKind.i64.wrap (t108 + 1))), (6, .int .i64 (IntKind.i64.wrap (t108 + 1)))]) (by kernel_rfl) ?_
     refine Runs.fill (m := [some (.slice Aa0 a0.length ca0), none, none, none, none, some (.pointer (some ⟨b7, 0, none⟩)), some (.int .i64 (IntKind.i64.wrap (t108 + 1))), some (.int .i64 0), none, none, none, none, none, none, none, none, none, none, none, none, none, none, none, none, none, none, none, none, none, none, none, none, none, none, none, none, none, none, none, none, none, none, none, none, none, none, none, none, none, none, none, none, none, none, none, none, none, none, none, none, none, none, none, none, none, none, none, none, none, none, none]) (by kernel_rfl) ?_
     exact J19 (IntKind.i64.wrap (t108 + 1)) (Option.some.inj hp125) _ _ hS123
   ·skip
    have hp126 := ite_f hp104 h106
    refine sx_run 3 (todo' := [.inRegion (opsOf (cd17 [1, 1, 1, 1, 0, 0])) [10, 11, 12], .code (cd17 [1, 1, 1, 1, 0, 1]), .code (cd17 [1, 1, 1, 1, 1])]) (us := [(19, .bool false), (20, .bool false), (21, .pointer (some ⟨b7, 0, none⟩))]) (by kernel_rfl) ?_
    refine r_load (c := (cd17 [1, 1, 1, 1, 0, 0])) (i := 10) (d := (some 22)) (ty := 3) (t := 3) (x := (.tmp 21)) (p := ⟨b7, 0, none⟩) (v := .int .i64 ((gt a0 a1).Op)) (by kernel_rfl) (by kernel_rfl) (by kernel_rfl) (loads_at 0 (hS12.blk 0 rfl) (by kernel_rfl) (by kernel_rfl)) ?_
    refine sx_split 1 (todo' := [.inRegion (opsOf (cd17 [1, 1, 1, 1, 0, 0])) [12], .code (cd17 [1, 1, 1, 1, 0, 1]), .code (cd17 [1, 1, 1, 1, 1])]) (us := []) (d := 23) (t := (((gt a0 a1).Op) == 5)) (by kernel_rfl) (fun h127 => ?_) (fun h128 => ?_)
    ·skip
     have hp129 := ite_t hp126 h127
     refine sx_run 7 (todo' := [.inRegion (opsOf (cd17 [1, 1, 1, 1, 0, 1, 0, 0])) [2, 3, 4], .code (cd17 [1, 1, 1, 1, 0, 1, 0, 1]), .code (cd17 [1, 1, 1, 1, 1])]) (us := [(24, .bool true), (25, .slice Aa0 a0.length ca0), (26, .pointer (some ⟨b7, 1, none⟩))]) (by kernel_rfl) ?_
     refine r_load (c := (cd17 [1, 1, 1, 1, 0, 1, 0, 0])) (i := 2) (d := (some 27)) (ty := 3) (t := 3) (x := (.tmp 26)) (p := ⟨b7, 1, none⟩) (v := .int .i64 ((gt a0 a1).A)) (by kernel_rfl) (by kernel_rfl) (by kernel_rfl) (loads_at 1 (hS12.blk 0 rfl) (by kernel_rfl) (by kernel_rfl)) ?_
     obtain ⟨t130, hr131, hp132⟩ := bind_some' hp129
     refine r_call1 (c := (cd17 [1, 1, 1, 1, 0, 1, 0, 0])) (i := 3) (d := (some 28)) (g := 17) (args := #[.slice Aa0 a0.length ca0, .int .i64 ((gt a0 a1).A)]) (by kernel_rfl) (by kernel_rfl) (by kernel_rfl) (by kernel_rfl) (hrec_weirref06_Deep a0 ((gt a0 a1).A) Aa0 ca0 hS12 ha0 hr131) ?_
     rintro _ w133 ⟨rfl, hS134⟩
     refine ⟨.int .i64 t130, rfl, ?_⟩
     refine sx_run 3 (todo' := [.code (cd17 [1, 1, 1, 1, 0, 1, 0, 1, 0]), .code (cd17 [1, 1, 1, 1, 0, 1, 0, 1, 1]), .code (cd17 [1, 1, 1, 1, 1])]) (us := [(6, .int .i64 t130)]) (by kernel_rfl) ?_
     refine r_quiet hS134 (c := (cd17 [1, 1, 1, 1, 0, 1, 0, 1, 0])) (id := 6) (by kernel_rfl) (by kernel_rfl) (by kernel_rfl) (is := [0, 1, 2, 3, 4, 5, 6, 7, 8]) (by kernel_rfl) ?_
     refine q_run 1 (is' := [1, 2, 3, 4, 5, 6, 7, 8]) (us := [(29, .pointer (some ⟨b7, 0, none⟩))]) (by kernel_rfl) ?_
     refine q_load (c := (cd17 [1, 1, 1, 1, 0, 1, 0, 1, 0])) (i := 1) (d := (some 30)) (ty := 3) (t := 3) (x := (.tmp 29)) (p := ⟨b7, 0, none⟩) (v := .int .i64 ((gt a0 a1).Op)) (by kernel_rfl) (by kernel_rfl) (by kernel_rfl) (fun w hC => (loads_at 0 (hC.blk 0 rfl) (by kernel_rfl) (by kernel_rfl))) ?_
     refine q_run 2 (is' := [4, 5, 6, 7, 8]) (us := [(31, .slice Aa0 a0.length ca0), (32, .pointer (some ⟨b7, 1, none⟩))]) (by kernel_rfl) ?_
     refine q_load (c := (cd17 [1, 1, 1, 1, 0, 1, 0, 1, 0])) (i := 4) (d := (some 33)) (ty := 3) (t := 3) (x := (.tmp 32)) (p := ⟨b7, 1, none⟩) (v := .int .i64 ((gt a0 a1).A)) (by kernel_rfl) (by kernel_rfl) (by kernel_rfl) (fun w hC => (loads_at 1 (hC.blk 0 rfl) (by kernel_rfl) (by kernel_rfl))) ?_
     obtain ⟨g135, hp136⟩ := ite_some hp132
     obtain ⟨b137, p138, hA139, hc140⟩ := ha0.atF g135.1 g135.2
     refine q_indexAddr (c := (cd17 [1, 1, 1, 1, 0, 1, 0, 1, 0])) (i := 5) (d := (some 34)) (ty := 0) (t := 23) (e := 38) (n := a0.length) (cp := ca0) (sz := 6) (kk := .i64) (x := (.tmp 31)) (y := (.tmp 33)) (b := b137) (o' := p138) (j := (gt a0 a1).A) (by kernel_rfl) (by kernel_rfl) (slv (by kernel_rfl) hA139) (by kernel_rfl) (by kernel_rfl) (by kernel_rfl) g135.1 g135.2 ?_
     refine q_run 1 (is' := [7, 8]) (us := [(35, .pointer (some ⟨b137, p138 + ((gt a0 a1).A).toNat * 6, none⟩))]) (by kernel_rfl) ?_
     refine q_load (c := (cd17 [1, 1, 1, 1, 0, 1, 0, 1, 0])) (i := 7) (d := (some 36)) (ty := 3) (t := 3) (x := (.tmp 35)) (p := ⟨b137, p138 + ((gt a0 a1).A).toNat * 6, none⟩) (v := .int .i64 ((gt a0 ((gt a0 a1).A)).Op)) (by kernel_rfl) (by kernel_rfl) (by kernel_rfl) (fun w hC => (loads_at 0 (hc140.cells hC) (by kernel_rfl) (by kernel_rfl))) ?_
     obtain ⟨t141, hr142, hp143⟩ := bind_some' hp136
     refine q_call1 (c := (cd17 [1, 1, 1, 1, 0, 1, 0, 1, 0])) (i := 8) (d := (some 37)) (v := .bool t141) (g := 29) (args := #[.int .i64 ((gt a0 a1).Op), .int .i64 ((gt a0 ((gt a0 a1).A)).Op), .bool false]) (by kernel_rfl) (by kernel_rfl) (by kernel_rfl) (by kernel_rfl) (fun w hC => by
      refine (weirref06_bracketed.ok ((gt a0 a1).Op) ((gt a0 ((gt a0 a1).A)).Op) false hC hr142).mono ?_
      rintro e w2 ⟨rfl, h2⟩
      exact ⟨rfl, h2⟩) ?_
     refine Qs.nil ?_
     intro w144 hS145
     cases t141
     ·skip
      have hp146 := ite_f hp143 rfl
      refine sx_run 2 (todo' := [.code (cd17 [1, 1, 1, 1, 1])]) (us := []) (by kernel_rfl) ?_
      refine Runs.fill (m := [some (.slice Aa0 a0.length ca0), none, none, none, none, some (.pointer (some ⟨b7, 0, none⟩)), some (.int .i64 t130), some (.int .i64 0), none, none, none, none, none, none, none, none, none, none, none, none, none, none, none, none, none, none, none, none, none, none, none, none, none, none, none, none, none, none, none, none, none, none, none, none, none, none, none, none, none, none, none, none, none, none, none, none, none, none, none, none, none, none, none, none, none, none, none, none, none, none, none]) (by kernel_rfl) ?_
      exact J19 t130 (Option.some.inj hp146) _ _ hS145
     ·skip
      have hp147 := ite_t hp143 rfl
      refine sx_run 6 (todo' := [.code (cd17 [1, 1, 1, 1, 1])]) (us := [(38, .int .i64 t130), (39, .int .i64 (IntKind.i64.wrap (t130 + 1))), (6, .int .i64 (IntKind.i64.wrap (t130 + 1)))]) (by kernel_rfl) ?_
      refine Runs.fill (m := [some (.slice Aa0 a0.length ca0), none, none, none, none, some (.pointer (some ⟨b7, 0, none⟩)), some (.int .i64 (IntKind.i64.wrap (t130 + 1))), some (.int .i64 0), none, none, none, none, none, none, none, none, none, none, none, none, none, none, none, none, none, none, none, none, none, none, none, none, none, none, none, none, none, none, none, none, none, none, none, none, none, none, none, none, none, none, none, none, none, none, none, none, none, none, none, none, none, none, none, none, none, none, none, none, none, none, none]) (by kernel_rfl) ?_
      exact J19 (IntKind.i64.wrap (t130 + 1)) (Option.some.inj hp147) _ _ hS145
    ·skip
     have hp148 := ite_f hp126 h128
     refine sx_run 4 (todo' := [.code (cd17 [1, 1, 1, 1, 1])]) (us := [(24, .bool false)]) (by kernel_rfl) ?_
     refine Runs.fill (m := [some (.slice Aa0 a0.length ca0), none, none, none, none, some (.pointer (some ⟨b7, 0, none⟩)), some (.int .i64 0), some (.int .i64 0), none, none, none, none, none, none, none, none, none, none, none, none, none, none, none, none, none, none, none, none, none, none, none, none, none, none, none, none, none, none, none, none, none, none, none, none, none, none, none, none, none, none, none, none, none, none, none, none, none, none, none, none, none, none, none, none, none, none, none, none, none, none, none]) (by kernel_rfl) ?_
     exact J19 0 (Option.some.inj hp148) _ _ hS12
def weirref06_Deep.f : Nat → (List api_Node) → Int → Option Int
  | 0 => fun _ _ => none
  | n + 1 => weirref06_Deep.body (weirref06_Deep.f n)
theorem weirref06_Deep.all : ∀ n, weirref06_Deep.Spec (weirref06_Deep.f n)
  | 0 => by
    intro a0 a1 Aa0 ca0 w0 Z fs w hS0 ha0 q0 hp0
    cases hp0
  | n + 1 => weirref06_Deep.bok (weirref06_Deep.f n) (weirref06_Deep.all n)
theorem weirref06_Deep.ok : weirref06_Deep.Spec (weirref06_Deep.f fuelN) := weirref06_Deep.all fuelN

noncomputable def cd9 (p : List Nat) : Code := sub (bodyOf Tryd.f9) p
def weirref06_Check.f (a0 : List api_Node) : Option Int :=
  (weirref06_Makes.f a0 >>= (fun t1 => (if (!t1) = true then some (60) else (weirref06_Deep.f fuelN a0 (IntKind.i64.wrap ((a0.length : Int) - 1)) >>= (fun t11 => (if (decide (t11 > 64)) = true then some (2) else some (0)))))))
set_option maxHeartbeats 16000000 in
theorem weirref06_Check.ok (a0 : List api_Node) (Aa0 : Option Addr) (ca0 : Nat) {w0 : World} {Z : Zm} {fs : List XObj} {w : World} (hS0 : St w0 Z (fs) w) (ha0 : SlZ (flat enc_api_Node) 6 Z Aa0 ca0 a0) {q0 : Int} (hp0 : weirref06_Check.f a0 = some q0) :
    Calls Tryd.prog 9 #[.slice Aa0 a0.length ca0] w (fun e w' => e = .returned (.int .i64 q0) ∧ St w0 Z (fs) w') := by
  refine calls_abs ?_; intro R hR
  unfold weirref06_Check.f at hp0
  refine calls_of_runs (fn := Tryd.f9) (c := cd9 []) Tryd.func9 (by kernel_rfl) (al := [.slice Aa0 a0.length ca0]) rfl (n := 11) rfl ?_
  refine sx_run 8 (todo' := [.inRegion (opsOf (cd9 [1, 0, 0])) [1, 2], .code (cd9 [1, 0, 1]), .code (cd9 [1, 1])]) (us := [(2, .int .i64 0), (3, .slice Aa0 a0.length ca0)]) (by kernel_rfl) ?_
  obtain ⟨t1, hr2, hp3⟩ := bind_some' hp0
  refine r_call1 (c := (cd9 [1, 0, 0])) (i := 1) (d := (some 4)) (g := 16) (args := #[.slice Aa0 a0.length ca0]) (by kernel_rfl) (by kernel_rfl) (by kernel_rfl) (by kernel_rfl) (weirref06_Makes.ok a0 Aa0 ca0 hS0 ha0 hr2) ?_
  rintro _ w4 ⟨rfl, hS5⟩
  refine ⟨.bool t1, rfl, ?_⟩
  refine sx_split 1 (todo' := [.inRegion (opsOf (cd9 [1, 0, 0])) [], .code (cd9 [1, 0, 1]), .code (cd9 [1, 1])]) (us := []) (d := 5) (t := (!t1)) (by kernel_rfl) (fun h6 => ?_) (fun h7 => ?_)
  ·skip
   have hp8 := ite_t hp3 h6
   refine sx_run 6 (todo' := [.code (cd9 [1, 0, 1, 0, 1]), .code (cd9 [1, 1])]) (us := [(2, .int .i64 60)]) (by kernel_rfl) ?_
   refine runs_ret (fn := Tryd.f9) (v := .int .i64 60) Tryd.func9 (by kernel_rfl) ?_
   have hr9 := (Option.some.inj hp8)
   cases hr9
   exact hR _ _ ⟨rfl, hS5⟩
  ·skip
   have hp10 := ite_f hp3 h7
   refine sx_run 10 (todo' := [.inRegion (opsOf (cd9 [1, 1, 0, 0])) [4, 5], .code (cd9 [1, 1, 0, 1]), .code (cd9 [1, 1, 1])]) (us := [(6, .slice Aa0 a0.length ca0), (7, .slice Aa0 a0.length ca0), (8, .int .i64 (a0.length : Int)), (9, .int .i64 (IntKind.i64.wrap ((a0.length : Int) - 1)))]) (by kernel_rfl) ?_
   obtain ⟨t11, hr12, hp13⟩ := bind_some' hp10
   refine r_call1 (c := (cd9 [1, 1, 0, 0])) (i := 4) (d := (some 10)) (g := 17) (args := #[.slice Aa0 a0.length ca0, .int .i64 (IntKind.i64.wrap ((a0.length : Int) - 1))]) (by kernel_rfl) (by kernel_rfl) (by kernel_rfl) (by kernel_rfl) (weirref06_Deep.ok a0 (IntKind.i64.wrap ((a0.length : Int) - 1)) Aa0 ca0 hS5 ha0 hr12) ?_
   rintro _ w14 ⟨rfl, hS15⟩
   refine ⟨.int .i64 t11, rfl, ?_⟩
   refine sx_split 1 (todo' := [.inRegion (opsOf (cd9 [1, 1, 0, 0])) [], .code (cd9 [1, 1, 0, 1]), .code (cd9 [1, 1, 1])]) (us := []) (d := 11) (t := (decide (t11 > 64))) (by kernel_rfl) (fun h16 => ?_) (fun h17 => ?_)
   ·skip
    have hp18 := ite_t hp13 h16
    refine sx_run 6 (todo' := [.code (cd9 [1, 1, 0, 1, 0, 1]), .code (cd9 [1, 1, 1])]) (us := [(2, .int .i64 2)]) (by kernel_rfl) ?_
    refine runs_ret (fn := Tryd.f9) (v := .int .i64 2) Tryd.func9 (by kernel_rfl) ?_
    have hr19 := (Option.some.inj hp18)
    cases hr19
    exact hR _ _ ⟨rfl, hS15⟩
   ·skip
    have hp20 := ite_f hp13 h17
    refine sx_run 7 (todo' := [.code (cd9 [1, 1, 1, 1])]) (us := [(2, .int .i64 0)]) (by kernel_rfl) ?_
    refine runs_ret (fn := Tryd.f9) (v := .int .i64 0) Tryd.func9 (by kernel_rfl) ?_
    have hr21 := (Option.some.inj hp20)
    cases hr21
    exact hR _ _ ⟨rfl, hS15⟩

noncomputable def cd33 (p : List Nat) : Code := sub (bodyOf Tryd.f33) p
def weirref04_in.l0 (a1 : Int) (t16 : Int) (t17 : ByteArray) : Option (Int × ByteArray) :=
  (if (decide (t16 ≥ a1)) = true then (if a1 ≠ 0 then (if a1 ≠ 0 then (if 0 ≤ (t16.tmod a1) ∧ (t16.tmod a1) ≤ (IntKind.u64.wrap ((t16.tmod a1) + 1)) ∧ (IntKind.u64.wrap ((t16.tmod a1) + 1)) ≤ ((⟨#[48, 49, 50, 51, 52, 53, 54, 55, 56, 57, 97, 98, 99, 100, 101, 102]⟩ : ByteArray).size : Int) then (if ((⟨#[48, 49, 50, 51, 52, 53, 54, 55, 56, 57, 97, 98, 99, 100, 101, 102]⟩ : ByteArray).extract (t16.tmod a1).toNat (IntKind.u64.wrap ((t16.tmod a1) + 1)).toNat).size + t17.size ≤ 9223372036854775807 then (if a1 ≠ 0 then (weirref04_in.l0 a1 (IntKind.u64.wrap (t16.tdiv a1)) (((⟨#[48, 49, 50, 51, 52, 53, 54, 55, 56, 57, 97, 98, 99, 100, 101, 102]⟩ : ByteArray).extract (t16.tmod a1).toNat (IntKind.u64.wrap ((t16.tmod a1) + 1)).toNat) ++ t17)) else none) else none) else none) else none) else none) else some ((t16, t17)))
 partial_fixpoint
def weirref04_in.f (a0 : Int) (a1 : Int) : Option ByteArray :=
  (weirref04_in.l0 a1 a0 (⟨#[]⟩ : ByteArray) >>= (fun (t4, t5) => (if 0 ≤ t4 ∧ t4 ≤ (IntKind.u64.wrap (t4 + 1)) ∧ (IntKind.u64.wrap (t4 + 1)) ≤ ((⟨#[48, 49, 50, 51, 52, 53, 54, 55, 56, 57, 97, 98, 99, 100, 101, 102]⟩ : ByteArray).size : Int) then (if ((⟨#[48, 49, 50, 51, 52, 53, 54, 55, 56, 57, 97, 98, 99, 100, 101, 102]⟩ : ByteArray).extract t4.toNat (IntKind.u64.wrap (t4 + 1)).toNat).size + t5.size ≤ 9223372036854775807 then some ((((⟨#[48, 49, 50, 51, 52, 53, 54, 55, 56, 57, 97, 98, 99, 100, 101, 102]⟩ : ByteArray).extract t4.toNat (IntKind.u64.wrap (t4 + 1)).toNat) ++ t5)) else none) else none)))
set_option maxHeartbeats 16000000 in
theorem weirref04_in.ok (a0 : Int) (a1 : Int) {w0 : World} {Z : Zm} {fs : List XObj} {w : World} (hS0 : St w0 Z (fs) w) {q0 : ByteArray} (hp0 : weirref04_in.f a0 a1 = some q0) :
    Calls Tryd.prog 33 #[.int .u64 a0, .int .u64 a1] w (fun e w' => e = .returned (.string q0) ∧ St w0 Z (fs) w') := by
  refine calls_abs ?_; intro R hR
  unfold weirref04_in.f at hp0
  refine calls_of_runs (fn := Tryd.f33) (c := cd33 []) Tryd.func33 (by kernel_rfl) (al := [.int .u64 a0, .int .u64 a1]) rfl (n := 26) rfl ?_
  refine sx_run 11 (todo' := [.code (cd33 [1, 1, 0, 0, 0]), .inLoop (cd33 [1, 1, 0, 0, 0]), .inBlock 0, .code (cd33 [1, 1, 1])]) (us := [(4, .string (⟨#[]⟩ : ByteArray)), (5, .string (⟨#[]⟩ : ByteArray))]) (by kernel_rfl) ?_
  obtain ⟨v1, hv2, hp3⟩ := bind_some' hp0
  have J8 : ∀ (t4 : Int) (t5 : ByteArray) (he10 : (t4, t5) = v1) (l9 : List Value) (w6 : World) (hS7 : St w0 Z (fs) w6), Runs Tryd.prog 33 [.code (cd33 [1, 1, 1])] (fill [some (.int .u64 t4), none, none, none, none, some (.string t5), none, none, none, none, none, none, none, none, none, none, none, none, none, none, none, none, none, none, none, none, none, none] l9) w6 R := by
   intro t4 t5 he10 l9 w6 hS7
   subst he10
   try dsimp only at hp3
   refine sx_run 5 (todo' := [.inRegion (opsOf (cd33 [1, 1, 1, 0])) [3, 4, 5, 6], .code (cd33 [1, 1, 1, 1])]) (us := [(22, .int .u64 t4), (23, .int .u64 t4), (24, .int .u64 (IntKind.u64.wrap (t4 + 1)))]) (by kernel_rfl) ?_
   obtain ⟨g11, hp12⟩ := ite_some hp3
   refine r_val (c := (cd33 [1, 1, 1, 0])) (i := 3) (d := (some 25)) (ty := 9) (op := .slice 9 (.const (.string (⟨#[48, 49, 50, 51, 52, 53, 54, 55, 56, 57, 97, 98, 99, 100, 101, 102]⟩ : ByteArray))) (some (.tmp 22)) (some (.tmp 24)) none) (v := .string ((⟨#[48, 49, 50, 51, 52, 53, 54, 55, 56, 57, 97, 98, 99, 100, 101, 102]⟩ : ByteArray).extract t4.toNat (IntKind.u64.wrap (t4 + 1)).toNat)) (by kernel_rfl) (by kernel_rfl) (fun o ho _ => x_cutStr_ss (k := .u64) (k' := .u64) (by kernel_rfl) (by kernel_rfl) (by kernel_rfl) (by kernel_rfl) g11 ho) ?_
   refine sx_run 1 (todo' := [.inRegion (opsOf (cd33 [1, 1, 1, 0])) [5, 6], .code (cd33 [1, 1, 1, 1])]) (us := [(26, .string t5)]) (by kernel_rfl) ?_
   obtain ⟨g13, hp14⟩ := ite_some hp12
   refine r_val (c := (cd33 [1, 1, 1, 0])) (i := 5) (d := (some 27)) (ty := 9) (op := .binOp .add 9 (.tmp 25) (.tmp 26) 9) (v := .string (((⟨#[48, 49, 50, 51, 52, 53, 54, 55, 56, 57, 97, 98, 99, 100, 101, 102]⟩ : ByteArray).extract t4.toNat (IntKind.u64.wrap (t4 + 1)).toNat) ++ t5)) (by kernel_rfl) (by kernel_rfl) (fun o ho _ => x_concat (by kernel_rfl) (by kernel_rfl) g13 ho) ?_
   refine sx_run 2 (todo' := [.code (cd33 [1, 1, 1, 1])]) (us := [(4, .string (((⟨#[48, 49, 50, 51, 52, 53, 54, 55, 56, 57, 97, 98, 99, 100, 101, 102]⟩ : ByteArray).extract t4.toNat (IntKind.u64.wrap (t4 + 1)).toNat) ++ t5))]) (by kernel_rfl) ?_
   refine runs_ret (fn := Tryd.f33) (v := .string (((⟨#[48, 49, 50, 51, 52, 53, 54, 55, 56, 57, 97, 98, 99, 100, 101, 102]⟩ : ByteArray).extract t4.toNat (IntKind.u64.wrap (t4 + 1)).toNat) ++ t5)) Tryd.func33 (by kernel_rfl) ?_
   have hr15 := (Option.some.inj hp14)
   cases hr15
   exact hR _ _ ⟨rfl, hS7⟩
  have L26 : ∀ (t16 : Int) (t17 : ByteArray) (e21 : (Int × ByteArray)), weirref04_in.l0 a1 t16 t17 = some e21 → e21 = v1 → ∀ (l20 : List Value) (w18 : World) (hS19 : St w0 Z (fs) w18), Runs Tryd.prog 33 [.code (cd33 [1, 1, 0, 0, 0]), .inLoop (cd33 [1, 1, 0, 0, 0]), .inBlock 0, .code (cd33 [1, 1, 1])] (fill [some (.int .u64 t16), some (.int .u64 a1), none, none, none, some (.string t17), none, none, none, none, none, none, none, none, none, none, none, none, none, none, none, none, none, none, none, none, none, none] l20) w18 R := by
   refine weirref04_in.l0.partial_correctness a1 (fun t16 t17 e21 => e21 = v1 → ∀ (l20 : List Value) (w18 : World) (hS19 : St w0 Z (fs) w18), Runs Tryd.prog 33 [.code (cd33 [1, 1, 0, 0, 0]), .inLoop (cd33 [1, 1, 0, 0, 0]), .inBlock 0, .code (cd33 [1, 1, 1])] (fill [some (.int .u64 t16), some (.int .u64 a1), none, none, none, some (.string t17), none, none, none, none, none, none, none, none, none, none, none, none, none, none, none, none, none, none, none, none, none, none] l20) w18 R) ?_
   intro rec25 ih24 t16 t17 e21 hb23 he22 l20 w18 hS19
   refine sx_split 6 (todo' := [.inRegion (opsOf (cd33 [1, 1, 0, 0, 0, 0, 0])) [], .code (cd33 [1, 1, 0, 0, 0, 0, 1]), .code (cd33 [1, 1, 0, 0, 0, 1]), .inLoop (cd33 [1, 1, 0, 0, 0]), .inBlock 0, .code (cd33 [1, 1, 1])]) (us := [(6, .int .u64 t16), (7, .int .u64 a1)]) (d := 8) (t := (decide (t16 ≥ a1))) (by kernel_rfl) (fun h27 => ?_) (fun h28 => ?_)
   ·skip
    have hp29 := ite_t hb23 h27
    refine sx_run 5 (todo' := [.code (cd33 [1, 1, 0, 0, 0, 1, 0, 0]), .code (cd33 [1, 1, 0, 0, 0, 1, 0, 1]), .inBlock 1, .inLoop (cd33 [1, 1, 0, 0, 0]), .inBlock 0, .code (cd33 [1, 1, 1])]) (us := []) (by kernel_rfl) ?_
    refine r_quiet hS19 (c := (cd33 [1, 1, 0, 0, 0, 1, 0, 0])) (id := 3) (by kernel_rfl) (by kernel_rfl) (by kernel_rfl) (is := [0, 1, 2, 3, 4, 5, 6, 7, 8, 9, 10]) (by kernel_rfl) ?_
    refine q_run 2 (is' := [2, 3, 4, 5, 6, 7, 8, 9, 10]) (us := [(9, .int .u64 t16), (10, .int .u64 a1)]) (by kernel_rfl) ?_
    obtain ⟨g30, hp31⟩ := ite_some hp29
    refine q_val (c := (cd33 [1, 1, 0, 0, 0, 1, 0, 0])) (i := 2) (d := (some 11)) (ty := 67) (op := .binOp .rem 67 (.tmp 9) (.tmp 10) 67) (v := .int .u64 (t16.tmod a1)) (by kernel_rfl) (by kernel_rfl) (fun w hC o ho _ => (x_div (by kernel_rfl) (by kernel_rfl) g30).2 ho) ?_
    refine q_run 2 (is' := [5, 6, 7, 8, 9, 10]) (us := [(12, .int .u64 t16), (13, .int .u64 a1)]) (by kernel_rfl) ?_
    obtain ⟨g32, hp33⟩ := ite_some hp31
    refine q_val (c := (cd33 [1, 1, 0, 0, 0, 1, 0, 0])) (i := 5) (d := (some 14)) (ty := 67) (op := .binOp .rem 67 (.tmp 12) (.tmp 13) 67) (v := .int .u64 (t16.tmod a1)) (by kernel_rfl) (by kernel_rfl) (fun w hC o ho _ => (x_div (by kernel_rfl) (by kernel_rfl) g32).2 ho) ?_
    refine q_run 1 (is' := [7, 8, 9, 10]) (us := [(15, .int .u64 (IntKind.u64.wrap ((t16.tmod a1) + 1)))]) (by kernel_rfl) ?_
    obtain ⟨g34, hp35⟩ := ite_some hp33
    refine q_val (c := (cd33 [1, 1, 0, 0, 0, 1, 0, 0])) (i := 7) (d := (some 16)) (ty := 9) (op := .slice 9 (.const (.string (⟨#[48, 49, 50, 51, 52, 53, 54, 55, 56, 57, 97, 98, 99, 100, 101, 102]⟩ : ByteArray))) (some (.tmp 11)) (some (.tmp 15)) none) (v := .string ((⟨#[48, 49, 50, 51, 52, 53, 54, 55, 56, 57, 97, 98, 99, 100, 101, 102]⟩ : ByteArray).extract (t16.tmod a1).toNat (IntKind.u64.wrap ((t16.tmod a1) + 1)).toNat)) (by kernel_rfl) (by kernel_rfl) (fun w hC o ho _ => x_cutStr_ss (k := .u64) (k' := .u64) (by kernel_rfl) (by kernel_rfl) (by kernel_rfl) (by kernel_rfl) g34 ho) ?_
    refine q_run 1 (is' := [9, 10]) (us := [(17, .string t17)]) (by kernel_rfl) ?_
    obtain ⟨g36, hp37⟩ := ite_some hp35
    refine q_val (c := (cd33 [1, 1, 0, 0, 0, 1, 0, 0])) (i := 9) (d := (some 18)) (ty := 9) (op := .binOp .add 9 (.tmp 16) (.tmp 17) 9) (v := .string (((⟨#[48, 49, 50, 51, 52, 53, 54, 55, 56, 57, 97, 98, 99, 100, 101, 102]⟩ : ByteArray).extract (t16.tmod a1).toNat (IntKind.u64.wrap ((t16.tmod a1) + 1)).toNat) ++ t17)) (by kernel_rfl) (by kernel_rfl) (fun w hC o ho _ => x_concat (by kernel_rfl) (by kernel_rfl) g36 ho) ?_
    refine q_run 1 (is' := []) (us := [(5, .string (((⟨#[48, 49, 50, 51, 52, 53, 54, 55, 56, 57, 97, 98, 99, 100, 101, 102]⟩ : ByteArray).extract (t16.tmod a1).toNat (IntKind.u64.wrap ((t16.tmod a1) + 1)).toNat) ++ t17))]) (by kernel_rfl) ?_
    refine Qs.nil ?_
    intro w38 hS39
    refine sx_run 3 (todo' := [.inRegion (opsOf (cd33 [1, 1, 0, 0, 0, 1, 0, 1])) [2, 3], .inBlock 1, .inLoop (cd33 [1, 1, 0, 0, 0]), .inBlock 0, .code (cd33 [1, 1, 1])]) (us := [(19, .int .u64 t16), (20, .int .u64 a1)]) (by kernel_rfl) ?_
    obtain ⟨g40, hp41⟩ := ite_some hp37
    refine r_val (c := (cd33 [1, 1, 0, 0, 0, 1, 0, 1])) (i := 2) (d := (some 21)) (ty := 67) (op := .binOp .quo 67 (.tmp 19) (.tmp 20) 67) (v := .int .u64 (IntKind.u64.wrap (t16.tdiv a1))) (by kernel_rfl) (by kernel_rfl) (fun o ho _ => (x_div (by kernel_rfl) (by kernel_rfl) g40).1 ho) ?_
    refine sx_run 3 (todo' := [.inLoop (cd33 [1, 1, 0, 0, 0]), .inBlock 0, .code (cd33 [1, 1, 1])]) (us := [(0, .int .u64 (IntKind.u64.wrap (t16.tdiv a1)))]) (by kernel_rfl) ?_
    refine sx_run 1 (todo' := [.code (cd33 [1, 1, 0, 0, 0]), .inLoop (cd33 [1, 1, 0, 0, 0]), .inBlock 0, .code (cd33 [1, 1, 1])]) (us := []) (by kernel_rfl) ?_
    refine Runs.fill (m := [some (.int .u64 (IntKind.u64.wrap (t16.tdiv a1))), some (.int .u64 a1), none, none, none, some (.string (((⟨#[48, 49, 50, 51, 52, 53, 54, 55, 56, 57, 97, 98, 99, 100, 101, 102]⟩ : ByteArray).extract (t16.tmod a1).toNat (IntKind.u64.wrap ((t16.tmod a1) + 1)).toNat) ++ t17)), none, none, none, none, none, none, none, none, none, none, none, none, none, none, none, none, none, none, none, none, none, none]) (by kernel_rfl) ?_
    exact ih24 (IntKind.u64.wrap (t16.tdiv a1)) (((⟨#[48, 49, 50, 51, 52, 53, 54, 55, 56, 57, 97, 98, 99, 100, 101, 102]⟩ : ByteArray).extract (t16.tmod a1).toNat (IntKind.u64.wrap ((t16.tmod a1) + 1)).toNat) ++ t17) _ hp41 he22 _ _ hS39
   ·skip
    have hp42 := ite_f hb23 h28
    refine sx_run 3 (todo' := [.code (cd33 [1, 1, 1])]) (us := []) (by kernel_rfl) ?_
    refine Runs.fill (m := [some (.int .u64 t16), none, none, none, none, some (.string t17), none, none, none, none, none, none, none, none, none, none, none, none, none, none, none, none, none, none, none, none, none, none]) (by kernel_rfl) ?_
    exact J8 t16 t17 ((Option.some.inj hp42).trans he22) _ _ hS19
  refine Runs.fill (m := [some (.int .u64 a0), some (.int .u64 a1), none, none, none, some (.string (⟨#[]⟩ : ByteArray)), none, none, none, none, none, none, none, none, none, none, none, none, none, none, none, none, none, none, none, none, none, none]) (by kernel_rfl) ?_
  exact L26 a0 (⟨#[]⟩ : ByteArray) _ hv2 rfl _ _ hS0

noncomputable def cd23 (p : List Nat) : Code := sub (bodyOf Tryd.f23) p
def weirref04_Text.f (a0 : Int) : Option ByteArray :=
  (if (decide (a0 < 0)) = true then (weirref04_in.f (IntKind.u64.wrap (0 - (IntKind.u64.wrap a0))) 10 >>= (fun t4 => (if (⟨#[45]⟩ : ByteArray).size + t4.size ≤ 9223372036854775807 then some (((⟨#[45]⟩ : ByteArray) ++ t4)) else none))) else (weirref04_in.f (IntKind.u64.wrap a0) 10 >>= (fun t13 => some (t13))))
set_option maxHeartbeats 16000000 in
theorem weirref04_Text.ok (a0 : Int) {w0 : World} {Z : Zm} {fs : List XObj} {w : World} (hS0 : St w0 Z (fs) w) {q0 : ByteArray} (hp0 : weirref04_Text.f a0 = some q0) :
    Calls Tryd.prog 23 #[.int .i64 a0] w (fun e w' => e = .returned (.string q0) ∧ St w0 Z (fs) w') := by
  refine calls_abs ?_; intro R hR
  unfold weirref04_Text.f at hp0
  refine calls_of_runs (fn := Tryd.f23) (c := cd23 []) Tryd.func23 (by kernel_rfl) (al := [.int .i64 a0]) rfl (n := 12) rfl ?_
  refine sx_split 9 (todo' := [.inRegion (opsOf (cd23 [1, 0, 0])) [], .code (cd23 [1, 0, 1]), .code (cd23 [1, 1])]) (us := [(2, .string (⟨#[]⟩ : ByteArray)), (3, .int .i64 a0)]) (d := 4) (t := (decide (a0 < 0))) (by kernel_rfl) (fun h1 => ?_) (fun h2 => ?_)
  ·skip
   have hp3 := ite_t hp0 h1
   refine sx_run 7 (todo' := [.inRegion (opsOf (cd23 [1, 0, 1, 0, 0])) [3, 4, 5], .code (cd23 [1, 0, 1, 0, 1]), .code (cd23 [1, 1])]) (us := [(5, .int .i64 a0), (6, .int .u64 (IntKind.u64.wrap a0)), (7, .int .u64 (IntKind.u64.wrap (0 - (IntKind.u64.wrap a0))))]) (by kernel_rfl) ?_
   obtain ⟨t4, hr5, hp6⟩ := bind_some' hp3
   refine r_call1 (c := (cd23 [1, 0, 1, 0, 0])) (i := 3) (d := (some 8)) (g := 33) (args := #[.int .u64 (IntKind.u64.wrap (0 - (IntKind.u64.wrap a0))), .int .u64 10]) (by kernel_rfl) (by kernel_rfl) (by kernel_rfl) (by kernel_rfl) (weirref04_in.ok (IntKind.u64.wrap (0 - (IntKind.u64.wrap a0))) 10 hS0 hr5) ?_
   rintro _ w7 ⟨rfl, hS8⟩
   refine ⟨.string t4, rfl, ?_⟩
   obtain ⟨g9, hp10⟩ := ite_some hp6
   refine r_val (c := (cd23 [1, 0, 1, 0, 0])) (i := 4) (d := (some 9)) (ty := 9) (op := .binOp .add 9 (.const (.string (⟨#[45]⟩ : ByteArray))) (.tmp 8) 9) (v := .string ((⟨#[45]⟩ : ByteArray) ++ t4)) (by kernel_rfl) (by kernel_rfl) (fun o ho _ => x_concat (by kernel_rfl) (by kernel_rfl) g9 ho) ?_
   refine sx_run 2 (todo' := [.code (cd23 [1, 0, 1, 0, 1]), .code (cd23 [1, 1])]) (us := [(2, .string ((⟨#[45]⟩ : ByteArray) ++ t4))]) (by kernel_rfl) ?_
   refine runs_ret (fn := Tryd.f23) (v := .string ((⟨#[45]⟩ : ByteArray) ++ t4)) Tryd.func23 (by kernel_rfl) ?_
   have hr11 := (Option.some.inj hp10)
   cases hr11
   exact hR _ _ ⟨rfl, hS8⟩
  ·skip
   have hp12 := ite_f hp0 h2
   refine sx_run 7 (todo' := [.inRegion (opsOf (cd23 [1, 1, 0])) [2, 3], .code (cd23 [1, 1, 1])]) (us := [(10, .int .i64 a0), (11, .int .u64 (IntKind.u64.wrap a0))]) (by kernel_rfl) ?_
   obtain ⟨t13, hr14, hp15⟩ := bind_some' hp12
   refine r_call1 (c := (cd23 [1, 1, 0])) (i := 2) (d := (some 12)) (g := 33) (args := #[.int .u64 (IntKind.u64.wrap a0), .int .u64 10]) (by kernel_rfl) (by kernel_rfl) (by kernel_rfl) (by kernel_rfl) (weirref04_in.ok (IntKind.u64.wrap a0) 10 hS0 hr14) ?_
   rintro _ w16 ⟨rfl, hS17⟩
   refine ⟨.string t13, rfl, ?_⟩
   refine sx_run 2 (todo' := [.code (cd23 [1, 1, 1])]) (us := [(2, .string t13)]) (by kernel_rfl) ?_
   refine runs_ret (fn := Tryd.f23) (v := .string t13) Tryd.func23 (by kernel_rfl) ?_
   have hr18 := (Option.some.inj hp15)
   cases hr18
   exact hR _ _ ⟨rfl, hS17⟩

def weirref06_text.Spec (rec : (List api_Node) → Int → Option ByteArray) : Prop := ∀ (a0 : List api_Node) (a1 : Int) (Aa0 : Option Addr) (ca0 : Nat) {w0 : World} {Z : Zm} {fs : List XObj} {w : World} (_ : St w0 Z (fs) w) (_ : SlZ (flat enc_api_Node) 6 Z Aa0 ca0 a0) {q0 : ByteArray}, rec a0 a1 = some q0 →
    Calls Tryd.prog 13 #[.slice Aa0 a0.length ca0, .int .i64 a1] w (fun e w' => e = .returned (.string q0) ∧ St w0 Z (fs) w')

noncomputable def cd24 (p : List Nat) : Code := sub (bodyOf Tryd.f24) p
def weirref06_part_1.f (rec_weirref06_text : (List api_Node) → Int → Option ByteArray) (a0 : List api_Node) (a1 : Int) (a2 : Int) (a3 : Bool) : Option ByteArray :=
  (rec_weirref06_text a0 a2 >>= (fun t1 => (if 0 ≤ a2 ∧ a2 < (a0.length : Int) then (weirref06_bracketed.f a1 ((gt a0 a2).Op) a3 >>= (fun t12 => (if t12 = true then (if (⟨#[40]⟩ : ByteArray).size + t1.size ≤ 9223372036854775807 then (if ((⟨#[40]⟩ : ByteArray) ++ t1).size + (⟨#[41]⟩ : ByteArray).size ≤ 9223372036854775807 then some ((((⟨#[40]⟩ : ByteArray) ++ t1) ++ (⟨#[41]⟩ : ByteArray))) else none) else none) else some (t1)))) else none)))
set_option maxHeartbeats 16000000 in
theorem weirref06_part_1.ok (rec_weirref06_text : (List api_Node) → Int → Option ByteArray) (hrec_weirref06_text : weirref06_text.Spec rec_weirref06_text) (a0 : List api_Node) (a1 : Int) (a2 : Int) (a3 : Bool) (Aa0 : Option Addr) (ca0 : Nat) {w0 : World} {Z : Zm} {fs : List XObj} {w : World} (hS0 : St w0 Z (fs) w) (ha0 : SlZ (flat enc_api_Node) 6 Z Aa0 ca0 a0) {q0 : ByteArray} (hp0 : weirref06_part_1.f rec_weirref06_text a0 a1 a2 a3 = some q0) :
    Calls Tryd.prog 24 #[.slice Aa0 a0.length ca0, .int .i64 a1, .int .i64 a2, .bool a3] w (fun e w' => e = .returned (.string q0) ∧ St w0 Z (fs) w') := by
  refine calls_abs ?_; intro R hR
  unfold weirref06_part_1.f at hp0
  refine calls_of_runs (fn := Tryd.f24) (c := cd24 []) Tryd.func24 (by kernel_rfl) (al := [.slice Aa0 a0.length ca0, .int .i64 a1, .int .i64 a2, .bool a3]) rfl (n := 21) rfl ?_
  refine sx_run 8 (todo' := [.inRegion (opsOf (cd24 [1, 0])) [2, 3], .code (cd24 [1, 1])]) (us := [(8, .string (⟨#[]⟩ : ByteArray)), (10, .slice Aa0 a0.length ca0), (11, .int .i64 a2)]) (by kernel_rfl) ?_
  obtain ⟨t1, hr2, hp3⟩ := bind_some' hp0
  refine r_call1 (c := (cd24 [1, 0])) (i := 2) (d := (some 12)) (g := 13) (args := #[.slice Aa0 a0.length ca0, .int .i64 a2]) (by kernel_rfl) (by kernel_rfl) (by kernel_rfl) (by kernel_rfl) (hrec_weirref06_text a0 a2 Aa0 ca0 hS0 ha0 hr2) ?_
  rintro _ w4 ⟨rfl, hS5⟩
  refine ⟨.string t1, rfl, ?_⟩
  refine sx_run 8 (todo' := [.inRegion (opsOf (cd24 [1, 1, 0, 0])) [3, 4, 5, 6, 7], .code (cd24 [1, 1, 0, 1]), .code (cd24 [1, 1, 1])]) (us := [(9, .string t1), (13, .int .i64 a1), (14, .slice Aa0 a0.length ca0), (15, .int .i64 a2)]) (by kernel_rfl) ?_
  obtain ⟨g6, hp7⟩ := ite_some hp3
  obtain ⟨b8, p9, hA10, hc11⟩ := ha0.atF g6.1 g6.2
  refine r_indexAddr (c := (cd24 [1, 1, 0, 0])) (i := 3) (d := (some 16)) (ty := 0) (t := 23) (e := 38) (n := a0.length) (cp := ca0) (sz := 6) (kk := .i64) (x := (.tmp 14)) (y := (.tmp 15)) (b := b8) (o' := p9) (j := a2) (by kernel_rfl) (by kernel_rfl) (slv (by kernel_rfl) hA10) (by kernel_rfl) (by kernel_rfl) (by kernel_rfl) g6.1 g6.2 ?_
  refine sx_run 1 (todo' := [.inRegion (opsOf (cd24 [1, 1, 0, 0])) [5, 6, 7], .code (cd24 [1, 1, 0, 1]), .code (cd24 [1, 1, 1])]) (us := [(17, .pointer (some ⟨b8, p9 + a2.toNat * 6, none⟩))]) (by kernel_rfl) ?_
  refine r_load (c := (cd24 [1, 1, 0, 0])) (i := 5) (d := (some 18)) (ty := 3) (t := 3) (x := (.tmp 17)) (p := ⟨b8, p9 + a2.toNat * 6, none⟩) (v := .int .i64 ((gt a0 a2).Op)) (by kernel_rfl) (by kernel_rfl) (by kernel_rfl) (loads_at 0 (hc11.cells hS5) (by kernel_rfl) (by kernel_rfl)) ?_
  refine sx_run 1 (todo' := [.inRegion (opsOf (cd24 [1, 1, 0, 0])) [7], .code (cd24 [1, 1, 0, 1]), .code (cd24 [1, 1, 1])]) (us := [(19, .bool a3)]) (by kernel_rfl) ?_
  obtain ⟨t12, hr13, hp14⟩ := bind_some' hp7
  refine r_call1 (c := (cd24 [1, 1, 0, 0])) (i := 7) (d := (some 20)) (g := 29) (args := #[.int .i64 a1, .int .i64 ((gt a0 a2).Op), .bool a3]) (by kernel_rfl) (by kernel_rfl) (by kernel_rfl) (by kernel_rfl) (weirref06_bracketed.ok a1 ((gt a0 a2).Op) a3 hS5 hr13) ?_
  rintro _ w15 ⟨rfl, hS16⟩
  refine ⟨.bool t12, rfl, ?_⟩
  refine sx_run 1 (todo' := [.code (cd24 [1, 1, 0, 1]), .code (cd24 [1, 1, 1])]) (us := []) (by kernel_rfl) ?_
  cases t12
  ·skip
   have hp17 := ite_f hp14 rfl
   refine sx_run 7 (todo' := [.code (cd24 [1, 1, 1, 1])]) (us := [(24, .string t1), (8, .string t1)]) (by kernel_rfl) ?_
   refine runs_ret (fn := Tryd.f24) (v := .string t1) Tryd.func24 (by kernel_rfl) ?_
   have hr18 := (Option.some.inj hp17)
   cases hr18
   exact hR _ _ ⟨rfl, hS16⟩
  ·skip
   have hp19 := ite_t hp14 rfl
   refine sx_run 4 (todo' := [.inRegion (opsOf (cd24 [1, 1, 0, 1, 0, 0])) [1, 2, 3], .code (cd24 [1, 1, 0, 1, 0, 1]), .code (cd24 [1, 1, 1])]) (us := [(21, .string t1)]) (by kernel_rfl) ?_
   obtain ⟨g20, hp21⟩ := ite_some hp19
   refine r_val (c := (cd24 [1, 1, 0, 1, 0, 0])) (i := 1) (d := (some 22)) (ty := 9) (op := .binOp .add 9 (.const (.string (⟨#[40]⟩ : ByteArray))) (.tmp 21) 9) (v := .string ((⟨#[40]⟩ : ByteArray) ++ t1)) (by kernel_rfl) (by kernel_rfl) (fun o ho _ => x_concat (by kernel_rfl) (by kernel_rfl) g20 ho) ?_
   obtain ⟨g22, hp23⟩ := ite_some hp21
   refine r_val (c := (cd24 [1, 1, 0, 1, 0, 0])) (i := 2) (d := (some 23)) (ty := 9) (op := .binOp .add 9 (.tmp 22) (.const (.string (⟨#[41]⟩ : ByteArray))) 9) (v := .string (((⟨#[40]⟩ : ByteArray) ++ t1) ++ (⟨#[41]⟩ : ByteArray))) (by kernel_rfl) (by kernel_rfl) (fun o ho _ => x_concat (by kernel_rfl) (by kernel_rfl) g22 ho) ?_
   refine sx_run 2 (todo' := [.code (cd24 [1, 1, 0, 1, 0, 1]), .code (cd24 [1, 1, 1])]) (us := [(8, .string (((⟨#[40]⟩ : ByteArray) ++ t1) ++ (⟨#[41]⟩ : ByteArray)))]) (by kernel_rfl) ?_
   refine runs_ret (fn := Tryd.f24) (v := .string (((⟨#[40]⟩ : ByteArray) ++ t1) ++ (⟨#[41]⟩ : ByteArray))) Tryd.func24 (by kernel_rfl) ?_
   have hr24 := (Option.some.inj hp23)
   cases hr24
   exact hR _ _ ⟨rfl, hS16⟩

noncomputable def cd13 (p : List Nat) : Code := sub (bodyOf Tryd.f13) p
def weirref06_text.body (rec_weirref06_text : (List api_Node) → Int → Option ByteArray) (a0 : List api_Node) (a1 : Int) : Option ByteArray :=
  (if 0 ≤ a1 ∧ a1 < (a0.length : Int) then (if (((gt a0 a1).Op) == 1) = true then some ((⟨#[116, 114, 117, 101]⟩ : ByteArray)) else (if (((gt a0 a1).Op) == 2) = true then (if (((gt a0 a1).Ref).Name).size + (⟨#[61]⟩ : ByteArray).size ≤ 9223372036854775807 then (weirref04_Text.f ((gt a0 a1).Value) >>= (fun t24 => (if ((((gt a0 a1).Ref).Name) ++ (⟨#[61]⟩ : ByteArray)).size + t24.size ≤ 9223372036854775807 then (if (decide ((((gt a0 a1).Ref).Thread) ≥ 0)) = true then (weirref04_Text.f (((gt a0 a1).Ref).Thread) >>= (fun t34 => (if t34.size + (⟨#[58]⟩ : ByteArray).size ≤ 9223372036854775807 then (if (t34 ++ (⟨#[58]⟩ : ByteArray)).size + (((((gt a0 a1).Ref).Name) ++ (⟨#[61]⟩ : ByteArray)) ++ t24).size ≤ 9223372036854775807 then some (((t34 ++ (⟨#[58]⟩ : ByteArray)) ++ (((((gt a0 a1).Ref).Name) ++ (⟨#[61]⟩ : ByteArray)) ++ t24))) else none) else none))) else some ((((((gt a0 a1).Ref).Name) ++ (⟨#[61]⟩ : ByteArray)) ++ t24))) else none))) else none) else (if (((gt a0 a1).Op) == 3) = true then (weirref06_part_1.f rec_weirref06_text a0 ((gt a0 a1).Op) ((gt a0 a1).A) false >>= (fun t52 => (if (⟨#[126]⟩ : ByteArray).size + t52.size ≤ 9223372036854775807 then some (((⟨#[126]⟩ : ByteArray) ++ t52)) else none))) else (if (((gt a0 a1).Op) == 4) = true then (weirref06_part_1.f rec_weirref06_text a0 ((gt a0 a1).Op) ((gt a0 a1).A) false >>= (fun t65 => (if t65.size + (⟨#[32, 47, 92, 32]⟩ : ByteArray).size ≤ 9223372036854775807 then (weirref06_part_1.f rec_weirref06_text a0 ((gt a0 a1).Op) ((gt a0 a1).B) true >>= (fun t70 => (if (t65 ++ (⟨#[32, 47, 92, 32]⟩ : ByteArray)).size + t70.size ≤ 9223372036854775807 then some (((t65 ++ (⟨#[32, 47, 92, 32]⟩ : ByteArray)) ++ t70)) else none))) else none))) else (weirref06_part_1.f rec_weirref06_text a0 ((gt a0 a1).Op) ((gt a0 a1).A) false >>= (fun t80 => (if t80.size + (⟨#[32, 92, 47, 32]⟩ : ByteArray).size ≤ 9223372036854775807 then (weirref06_part_1.f rec_weirref06_text a0 ((gt a0 a1).Op) ((gt a0 a1).B) true >>= (fun t85 => (if (t80 ++ (⟨#[32, 92, 47, 32]⟩ : ByteArray)).size + t85.size ≤ 9223372036854775807 then some (((t80 ++ (⟨#[32, 92, 47, 32]⟩ : ByteArray)) ++ t85)) else none))) else none))))))) else none)
set_option maxHeartbeats 16000000 in
theorem weirref06_text.bok (rec_weirref06_text : (List api_Node) → Int → Option ByteArray) (hrec_weirref06_text : weirref06_text.Spec rec_weirref06_text) : weirref06_text.Spec (weirref06_text.body rec_weirref06_text) := by
  intro a0 a1 Aa0 ca0 w0 Z fs w hS0 ha0 q0 hp0
  refine calls_abs ?_; intro R hR
  unfold weirref06_text.body at hp0
  refine calls_of_runs (fn := Tryd.f13) (c := cd13 []) Tryd.func13 (by kernel_rfl) (al := [.slice Aa0 a0.length ca0, .int .i64 a1]) rfl (n := 74) rfl ?_
  refine sx_run 8 (todo' := [.inRegion (opsOf (cd13 [1, 0])) [2, 3, 4, 5], .code (cd13 [1, 1])]) (us := [(4, .string (⟨#[]⟩ : ByteArray)), (7, .slice Aa0 a0.length ca0), (8, .int .i64 a1)]) (by kernel_rfl) ?_
  obtain ⟨g1, hp2⟩ := ite_some hp0
  obtain ⟨b3, p4, hA5, hc6⟩ := ha0.atF g1.1 g1.2
  refine r_indexAddr (c := (cd13 [1, 0])) (i := 2) (d := (some 9)) (ty := 0) (t := 23) (e := 38) (n := a0.length) (cp := ca0) (sz := 6) (kk := .i64) (x := (.tmp 7)) (y := (.tmp 8)) (b := b3) (o' := p4) (j := a1) (by kernel_rfl) (by kernel_rfl) (slv (by kernel_rfl) hA5) (by kernel_rfl) (by kernel_rfl) (by kernel_rfl) g1.1 g1.2 ?_
  refine r_load (c := (cd13 [1, 0])) (i := 3) (d := (some 10)) (ty := 38) (t := 38) (x := (.tmp 9)) (p := ⟨b3, p4 + a1.toNat * 6, none⟩) (v := .agg (enc_api_Node (gt a0 a1)).toArray) (by kernel_rfl) (by kernel_rfl) (by kernel_rfl) (loads_agg (hc6.cells hS0) (by kernel_rfl) (by kernel_rfl)) ?_
  refine r_alloc (c := (cd13 [1, 0])) (i := 4) (d := (some 5)) (ty := 0) (z := .agg (enc_api_Node (⟨0, 0, 0, ⟨0, (⟨#[]⟩ : ByteArray)⟩, 0⟩ : api_Node)).toArray) (t := 38) (cs := enc_api_Node (⟨0, 0, 0, ⟨0, (⟨#[]⟩ : ByteArray)⟩, 0⟩ : api_Node)) hS0 (by kernel_rfl) (by kernel_rfl) (by kernel_rfl) (by kernel_rfl) ?_
  intro b7 w8 hS9
  refine r_store (c := (cd13 [1, 0])) (i := 5) (d := none) (ty := 0) (t := 38) (x := (.tmp 5)) (y := (.tmp 10)) (b := b7) (o := 0) (e := 38) (cs := enc_api_Node (⟨0, 0, 0, ⟨0, (⟨#[]⟩ : ByteArray)⟩, 0⟩ : api_Node)) (v := .agg (enc_api_Node (gt a0 a1)).toArray) (vs := enc_api_Node (gt a0 a1)) (cs' := enc_api_Node (gt a0 a1)) hS9 (by kernel_rfl) (by kernel_rfl) (by kernel_rfl) (by kernel_rfl) (by kernel_rfl) (by kernel_rfl) (one_api_Node _) (Nat.le_of_ble_eq_true (by kernel_rfl)) (by kernel_rfl) ?_
  intro w11 hS12
  refine sx_run 5 (todo' := [.inRegion (opsOf (cd13 [1, 1, 0, 0])) [1], .code (cd13 [1, 1, 0, 1]), .code (cd13 [1, 1, 1])]) (us := [(11, .pointer (some ⟨b7, 0, none⟩))]) (by kernel_rfl) ?_
  refine r_load (c := (cd13 [1, 1, 0, 0])) (i := 1) (d := (some 12)) (ty := 3) (t := 3) (x := (.tmp 11)) (p := ⟨b7, 0, none⟩) (v := .int .i64 ((gt a0 a1).Op)) (by kernel_rfl) (by kernel_rfl) (by kernel_rfl) (loads_at 0 (hS12.blk 0 rfl) (by kernel_rfl) (by kernel_rfl)) ?_
  refine sx_split 5 (todo' := [.inRegion (opsOf (cd13 [1, 1, 0, 1, 0, 0])) [1], .code (cd13 [1, 1, 0, 1, 0, 1]), .inBlock 0, .code (cd13 [1, 1, 1])]) (us := []) (d := 14) (t := (((gt a0 a1).Op) == 1)) (by kernel_rfl) (fun h13 => ?_) (fun h14 => ?_)
  ·skip
   have hp15 := ite_t hp2 h13
   refine sx_run 7 (todo' := [.code (cd13 [1, 1, 0, 1, 0, 1, 0, 1]), .inBlock 0, .code (cd13 [1, 1, 1])]) (us := [(13, .bool true), (4, .string (⟨#[116, 114, 117, 101]⟩ : ByteArray))]) (by kernel_rfl) ?_
   have hS16 := hS12.drop
   refine runs_ret (fn := Tryd.f13) (v := .string (⟨#[116, 114, 117, 101]⟩ : ByteArray)) Tryd.func13 (by kernel_rfl) ?_
   have hr17 := (Option.some.inj hp15)
   cases hr17
   exact hR _ _ ⟨rfl, hS16⟩
  ·skip
   have hp18 := ite_f hp2 h14
   refine sx_split 6 (todo' := [.inRegion (opsOf (cd13 [1, 1, 0, 1, 0, 1, 1, 0])) [1], .code (cd13 [1, 1, 0, 1, 0, 1, 1, 1]), .inBlock 0, .code (cd13 [1, 1, 1])]) (us := [(13, .bool false)]) (d := 16) (t := (((gt a0 a1).Op) == 2)) (by kernel_rfl) (fun h19 => ?_) (fun h20 => ?_)
   ·skip
    have hp21 := ite_t hp18 h19
    refine sx_run 4 (todo' := [.code (cd13 [1, 1, 0, 1, 0, 1, 1, 1, 0, 0]), .code (cd13 [1, 1, 0, 1, 0, 1, 1, 1, 0, 1]), .inBlock 0, .code (cd13 [1, 1, 1])]) (us := [(15, .bool true)]) (by kernel_rfl) ?_
    refine r_quiet hS12 (c := (cd13 [1, 1, 0, 1, 0, 1, 1, 1, 0, 0])) (id := 6) (by kernel_rfl) (by kernel_rfl) (by kernel_rfl) (is := [0, 1, 2, 3, 4, 5, 6, 7, 8]) (by kernel_rfl) ?_
    refine q_run 2 (is' := [2, 3, 4, 5, 6, 7, 8]) (us := [(17, .pointer (some ⟨b7, 3, none⟩)), (18, .pointer (some ⟨b7, 4, none⟩))]) (by kernel_rfl) ?_
    refine q_load (c := (cd13 [1, 1, 0, 1, 0, 1, 1, 1, 0, 0])) (i := 2) (d := (some 19)) (ty := 9) (t := 9) (x := (.tmp 18)) (p := ⟨b7, 4, none⟩) (v := .string (((gt a0 a1).Ref).Name)) (by kernel_rfl) (by kernel_rfl) (by kernel_rfl) (fun w hC => (loads_at 1 (sub_api_Node_Ref (hC.blk 0 rfl)) (by kernel_rfl) (by kernel_rfl))) ?_
    obtain ⟨g22, hp23⟩ := ite_some hp21
    refine q_val (c := (cd13 [1, 1, 0, 1, 0, 1, 1, 1, 0, 0])) (i := 3) (d := (some 20)) (ty := 9) (op := .binOp .add 9 (.tmp 19) (.const (.string (⟨#[61]⟩ : ByteArray))) 9) (v := .string ((((gt a0 a1).Ref).Name) ++ (⟨#[61]⟩ : ByteArray))) (by kernel_rfl) (by kernel_rfl) (fun w hC o ho _ => x_concat (by kernel_rfl) (by kernel_rfl) g22 ho) ?_
    refine q_run 1 (is' := [5, 6, 7, 8]) (us := [(21, .pointer (some ⟨b7, 5, none⟩))]) (by kernel_rfl) ?_
    refine q_load (c := (cd13 [1, 1, 0, 1, 0, 1, 1, 1, 0, 0])) (i := 5) (d := (some 22)) (ty := 2) (t := 2) (x := (.tmp 21)) (p := ⟨b7, 5, none⟩) (v := .int .i64 ((gt a0 a1).Value)) (by kernel_rfl) (by kernel_rfl) (by kernel_rfl) (fun w hC => (loads_at 5 (hC.blk 0 rfl) (by kernel_rfl) (by kernel_rfl))) ?_
    obtain ⟨t24, hr25, hp26⟩ := bind_some' hp23
    refine q_call1 (c := (cd13 [1, 1, 0, 1, 0, 1, 1, 1, 0, 0])) (i := 6) (d := (some 23)) (v := .string t24) (g := 23) (args := #[.int .i64 ((gt a0 a1).Value)]) (by kernel_rfl) (by kernel_rfl) (by kernel_rfl) (by kernel_rfl) (fun w hC => by
     refine (weirref04_Text.ok ((gt a0 a1).Value) hC hr25).mono ?_
     rintro e w2 ⟨rfl, h2⟩
     exact ⟨rfl, h2⟩) ?_
    obtain ⟨g27, hp28⟩ := ite_some hp26
    refine q_val (c := (cd13 [1, 1, 0, 1, 0, 1, 1, 1, 0, 0])) (i := 7) (d := (some 24)) (ty := 9) (op := .binOp .add 9 (.tmp 20) (.tmp 23) 9) (v := .string (((((gt a0 a1).Ref).Name) ++ (⟨#[61]⟩ : ByteArray)) ++ t24)) (by kernel_rfl) (by kernel_rfl) (fun w hC o ho _ => x_concat (by kernel_rfl) (by kernel_rfl) g27 ho) ?_
    refine q_run 1 (is' := []) (us := [(6, .string (((((gt a0 a1).Ref).Name) ++ (⟨#[61]⟩ : ByteArray)) ++ t24))]) (by kernel_rfl) ?_
    refine Qs.nil ?_
    intro w29 hS30
    refine sx_run 5 (todo' := [.inRegion (opsOf (cd13 [1, 1, 0, 1, 0, 1, 1, 1, 0, 1, 0, 0])) [2, 3], .code (cd13 [1, 1, 0, 1, 0, 1, 1, 1, 0, 1, 0, 1]), .code (cd13 [1, 1, 0, 1, 0, 1, 1, 1, 0, 1, 1]), .inBlock 0, .code (cd13 [1, 1, 1])]) (us := [(25, .pointer (some ⟨b7, 3, none⟩)), (26, .pointer (some ⟨b7, 3, none⟩))]) (by kernel_rfl) ?_
    refine r_load (c := (cd13 [1, 1, 0, 1, 0, 1, 1, 1, 0, 1, 0, 0])) (i := 2) (d := (some 27)) (ty := 3) (t := 3) (x := (.tmp 26)) (p := ⟨b7, 3, none⟩) (v := .int .i64 (((gt a0 a1).Ref).Thread)) (by kernel_rfl) (by kernel_rfl) (by kernel_rfl) (loads_at 0 (sub_api_Node_Ref (hS30.blk 0 rfl)) (by kernel_rfl) (by kernel_rfl)) ?_
    refine sx_split 1 (todo' := [.inRegion (opsOf (cd13 [1, 1, 0, 1, 0, 1, 1, 1, 0, 1, 0, 0])) [], .code (cd13 [1, 1, 0, 1, 0, 1, 1, 1, 0, 1, 0, 1]), .code (cd13 [1, 1, 0, 1, 0, 1, 1, 1, 0, 1, 1]), .inBlock 0, .code (cd13 [1, 1, 1])]) (us := []) (d := 28) (t := (decide ((((gt a0 a1).Ref).Thread) ≥ 0))) (by kernel_rfl) (fun h31 => ?_) (fun h32 => ?_)
    ·skip
     have hp33 := ite_t hp28 h31
     refine sx_run 5 (todo' := [.inRegion (opsOf (cd13 [1, 1, 0, 1, 0, 1, 1, 1, 0, 1, 0, 1, 0])) [2, 3, 4, 5, 6, 7], .code (cd13 [1, 1, 0, 1, 0, 1, 1, 1, 0, 1, 1]), .inBlock 0, .code (cd13 [1, 1, 1])]) (us := [(29, .pointer (some ⟨b7, 3, none⟩)), (30, .pointer (some ⟨b7, 3, none⟩))]) (by kernel_rfl) ?_
     refine r_load (c := (cd13 [1, 1, 0, 1, 0, 1, 1, 1, 0, 1, 0, 1, 0])) (i := 2) (d := (some 31)) (ty := 3) (t := 3) (x := (.tmp 30)) (p := ⟨b7, 3, none⟩) (v := .int .i64 (((gt a0 a1).Ref).Thread)) (by kernel_rfl) (by kernel_rfl) (by kernel_rfl) (loads_at 0 (sub_api_Node_Ref (hS30.blk 0 rfl)) (by kernel_rfl) (by kernel_rfl)) ?_
     obtain ⟨t34, hr35, hp36⟩ := bind_some' hp33
     refine r_call1 (c := (cd13 [1, 1, 0, 1, 0, 1, 1, 1, 0, 1, 0, 1, 0])) (i := 3) (d := (some 32)) (g := 23) (args := #[.int .i64 (((gt a0 a1).Ref).Thread)]) (by kernel_rfl) (by kernel_rfl) (by kernel_rfl) (by kernel_rfl) (weirref04_Text.ok (((gt a0 a1).Ref).Thread) hS30 hr35) ?_
     rintro _ w37 ⟨rfl, hS38⟩
     refine ⟨.string t34, rfl, ?_⟩
     obtain ⟨g39, hp40⟩ := ite_some hp36
     refine r_val (c := (cd13 [1, 1, 0, 1, 0, 1, 1, 1, 0, 1, 0, 1, 0])) (i := 4) (d := (some 33)) (ty := 9) (op := .binOp .add 9 (.tmp 32) (.const (.string (⟨#[58]⟩ : ByteArray))) 9) (v := .string (t34 ++ (⟨#[58]⟩ : ByteArray))) (by kernel_rfl) (by kernel_rfl) (fun o ho _ => x_concat (by kernel_rfl) (by kernel_rfl) g39 ho) ?_
     refine sx_run 1 (todo' := [.inRegion (opsOf (cd13 [1, 1, 0, 1, 0, 1, 1, 1, 0, 1, 0, 1, 0])) [6, 7], .code (cd13 [1, 1, 0, 1, 0, 1, 1, 1, 0, 1, 1]), .inBlock 0, .code (cd13 [1, 1, 1])]) (us := [(34, .string (((((gt a0 a1).Ref).Name) ++ (⟨#[61]⟩ : ByteArray)) ++ t24))]) (by kernel_rfl) ?_
     obtain ⟨g41, hp42⟩ := ite_some hp40
     refine r_val (c := (cd13 [1, 1, 0, 1, 0, 1, 1, 1, 0, 1, 0, 1, 0])) (i := 6) (d := (some 35)) (ty := 9) (op := .binOp .add 9 (.tmp 33) (.tmp 34) 9) (v := .string ((t34 ++ (⟨#[58]⟩ : ByteArray)) ++ (((((gt a0 a1).Ref).Name) ++ (⟨#[61]⟩ : ByteArray)) ++ t24))) (by kernel_rfl) (by kernel_rfl) (fun o ho _ => x_concat (by kernel_rfl) (by kernel_rfl) g41 ho) ?_
     refine sx_run 7 (todo' := [.code (cd13 [1, 1, 0, 1, 0, 1, 1, 1, 0, 1, 1, 1]), .inBlock 0, .code (cd13 [1, 1, 1])]) (us := [(6, .string ((t34 ++ (⟨#[58]⟩ : ByteArray)) ++ (((((gt a0 a1).Ref).Name) ++ (⟨#[61]⟩ : ByteArray)) ++ t24))), (36, .string ((t34 ++ (⟨#[58]⟩ : ByteArray)) ++ (((((gt a0 a1).Ref).Name) ++ (⟨#[61]⟩ : ByteArray)) ++ t24))), (4, .string ((t34 ++ (⟨#[58]⟩ : ByteArray)) ++ (((((gt a0 a1).Ref).Name) ++ (⟨#[61]⟩ : ByteArray)) ++ t24)))]) (by kernel_rfl) ?_
     have hS43 := hS38.drop
     refine runs_ret (fn := Tryd.f13) (v := .string ((t34 ++ (⟨#[58]⟩ : ByteArray)) ++ (((((gt a0 a1).Ref).Name) ++ (⟨#[61]⟩ : ByteArray)) ++ t24))) Tryd.func13 (by kernel_rfl) ?_
     have hr44 := (Option.some.inj hp42)
     cases hr44
     exact hR _ _ ⟨rfl, hS43⟩
    ·skip
     have hp45 := ite_f hp28 h32
     refine sx_run 8 (todo' := [.code (cd13 [1, 1, 0, 1, 0, 1, 1, 1, 0, 1, 1, 1]), .inBlock 0, .code (cd13 [1, 1, 1])]) (us := [(36, .string (((((gt a0 a1).Ref).Name) ++ (⟨#[61]⟩ : ByteArray)) ++ t24)), (4, .string (((((gt a0 a1).Ref).Name) ++ (⟨#[61]⟩ : ByteArray)) ++ t24))]) (by kernel_rfl) ?_
     have hS46 := hS30.drop
     refine runs_ret (fn := Tryd.f13) (v := .string (((((gt a0 a1).Ref).Name) ++ (⟨#[61]⟩ : ByteArray)) ++ t24)) Tryd.func13 (by kernel_rfl) ?_
     have hr47 := (Option.some.inj hp45)
     cases hr47
     exact hR _ _ ⟨rfl, hS46⟩
   ·skip
    have hp48 := ite_f hp18 h20
    refine sx_split 6 (todo' := [.inRegion (opsOf (cd13 [1, 1, 0, 1, 0, 1, 1, 1, 1, 0])) [1], .code (cd13 [1, 1, 0, 1, 0, 1, 1, 1, 1, 1]), .inBlock 0, .code (cd13 [1, 1, 1])]) (us := [(15, .bool false)]) (d := 38) (t := (((gt a0 a1).Op) == 3)) (by kernel_rfl) (fun h49 => ?_) (fun h50 => ?_)
    ·skip
     have hp51 := ite_t hp48 h49
     refine sx_run 7 (todo' := [.inRegion (opsOf (cd13 [1, 1, 0, 1, 0, 1, 1, 1, 1, 1, 0, 0])) [2, 3, 4, 5, 6, 7], .code (cd13 [1, 1, 0, 1, 0, 1, 1, 1, 1, 1, 0, 1]), .inBlock 0, .code (cd13 [1, 1, 1])]) (us := [(37, .bool true), (39, .slice Aa0 a0.length ca0), (40, .pointer (some ⟨b7, 0, none⟩))]) (by kernel_rfl) ?_
     refine r_load (c := (cd13 [1, 1, 0, 1, 0, 1, 1, 1, 1, 1, 0, 0])) (i := 2) (d := (some 41)) (ty := 3) (t := 3) (x := (.tmp 40)) (p := ⟨b7, 0, none⟩) (v := .int .i64 ((gt a0 a1).Op)) (by kernel_rfl) (by kernel_rfl) (by kernel_rfl) (loads_at 0 (hS12.blk 0 rfl) (by kernel_rfl) (by kernel_rfl)) ?_
     refine sx_run 1 (todo' := [.inRegion (opsOf (cd13 [1, 1, 0, 1, 0, 1, 1, 1, 1, 1, 0, 0])) [4, 5, 6, 7], .code (cd13 [1, 1, 0, 1, 0, 1, 1, 1, 1, 1, 0, 1]), .inBlock 0, .code (cd13 [1, 1, 1])]) (us := [(42, .pointer (some ⟨b7, 1, none⟩))]) (by kernel_rfl) ?_
     refine r_load (c := (cd13 [1, 1, 0, 1, 0, 1, 1, 1, 1, 1, 0, 0])) (i := 4) (d := (some 43)) (ty := 3) (t := 3) (x := (.tmp 42)) (p := ⟨b7, 1, none⟩) (v := .int .i64 ((gt a0 a1).A)) (by kernel_rfl) (by kernel_rfl) (by kernel_rfl) (loads_at 1 (hS12.blk 0 rfl) (by kernel_rfl) (by kernel_rfl)) ?_
     obtain ⟨t52, hr53, hp54⟩ := bind_some' hp51
     refine r_call1 (c := (cd13 [1, 1, 0, 1, 0, 1, 1, 1, 1, 1, 0, 0])) (i := 5) (d := (some 44)) (g := 24) (args := #[.slice Aa0 a0.length ca0, .int .i64 ((gt a0 a1).Op), .int .i64 ((gt a0 a1).A), .bool false]) (by kernel_rfl) (by kernel_rfl) (by kernel_rfl) (by kernel_rfl) (weirref06_part_1.ok rec_weirref06_text hrec_weirref06_text a0 ((gt a0 a1).Op) ((gt a0 a1).A) false Aa0 ca0 hS12 ha0 hr53) ?_
     rintro _ w55 ⟨rfl, hS56⟩
     refine ⟨.string t52, rfl, ?_⟩
     obtain ⟨g57, hp58⟩ := ite_some hp54
     refine r_val (c := (cd13 [1, 1, 0, 1, 0, 1, 1, 1, 1, 1, 0, 0])) (i := 6) (d := (some 45)) (ty := 9) (op := .binOp .add 9 (.const (.string (⟨#[126]⟩ : ByteArray))) (.tmp 44) 9) (v := .string ((⟨#[126]⟩ : ByteArray) ++ t52)) (by kernel_rfl) (by kernel_rfl) (fun o ho _ => x_concat (by kernel_rfl) (by kernel_rfl) g57 ho) ?_
     refine sx_run 2 (todo' := [.code (cd13 [1, 1, 0, 1, 0, 1, 1, 1, 1, 1, 0, 1]), .inBlock 0, .code (cd13 [1, 1, 1])]) (us := [(4, .string ((⟨#[126]⟩ : ByteArray) ++ t52))]) (by kernel_rfl) ?_
     have hS59 := hS56.drop
     refine runs_ret (fn := Tryd.f13) (v := .string ((⟨#[126]⟩ : ByteArray) ++ t52)) Tryd.func13 (by kernel_rfl) ?_
     have hr60 := (Option.some.inj hp58)
     cases hr60
     exact hR _ _ ⟨rfl, hS59⟩
    ·skip
     have hp61 := ite_f hp48 h50
     refine sx_split 6 (todo' := [.inRegion (opsOf (cd13 [1, 1, 0, 1, 0, 1, 1, 1, 1, 1, 1, 0])) [1], .code (cd13 [1, 1, 0, 1, 0, 1, 1, 1, 1, 1, 1, 1]), .inBlock 0, .code (cd13 [1, 1, 1])]) (us := [(37, .bool false)]) (d := 47) (t := (((gt a0 a1).Op) == 4)) (by kernel_rfl) (fun h62 => ?_) (fun h63 => ?_)
     ·skip
      have hp64 := ite_t hp61 h62
      refine sx_run 4 (todo' := [.code (cd13 [1, 1, 0, 1, 0, 1, 1, 1, 1, 1, 1, 1, 0, 0]), .code (cd13 [1, 1, 0, 1, 0, 1, 1, 1, 1, 1, 1, 1, 0, 1]), .inBlock 0, .code (cd13 [1, 1, 1])]) (us := [(46, .bool true)]) (by kernel_rfl) ?_
      refine r_quiet hS12 (c := (cd13 [1, 1, 0, 1, 0, 1, 1, 1, 1, 1, 1, 1, 0, 0])) (id := 13) (by kernel_rfl) (by kernel_rfl) (by kernel_rfl) (is := [0, 1, 2, 3, 4, 5, 6, 7, 8, 9, 10, 11, 12, 13, 14]) (by kernel_rfl) ?_
      refine q_run 2 (is' := [2, 3, 4, 5, 6, 7, 8, 9, 10, 11, 12, 13, 14]) (us := [(48, .slice Aa0 a0.length ca0), (49, .pointer (some ⟨b7, 0, none⟩))]) (by kernel_rfl) ?_
      refine q_load (c := (cd13 [1, 1, 0, 1, 0, 1, 1, 1, 1, 1, 1, 1, 0, 0])) (i := 2) (d := (some 50)) (ty := 3) (t := 3) (x := (.tmp 49)) (p := ⟨b7, 0, none⟩) (v := .int .i64 ((gt a0 a1).Op)) (by kernel_rfl) (by kernel_rfl) (by kernel_rfl) (fun w hC => (loads_at 0 (hC.blk 0 rfl) (by kernel_rfl) (by kernel_rfl))) ?_
      refine q_run 1 (is' := [4, 5, 6, 7, 8, 9, 10, 11, 12, 13, 14]) (us := [(51, .pointer (some ⟨b7, 1, none⟩))]) (by kernel_rfl) ?_
      refine q_load (c := (cd13 [1, 1, 0, 1, 0, 1, 1, 1, 1, 1, 1, 1, 0, 0])) (i := 4) (d := (some 52)) (ty := 3) (t := 3) (x := (.tmp 51)) (p := ⟨b7, 1, none⟩) (v := .int .i64 ((gt a0 a1).A)) (by kernel_rfl) (by kernel_rfl) (by kernel_rfl) (fun w hC => (loads_at 1 (hC.blk 0 rfl) (by kernel_rfl) (by kernel_rfl))) ?_
      obtain ⟨t65, hr66, hp67⟩ := bind_some' hp64
      refine q_call1 (c := (cd13 [1, 1, 0, 1, 0, 1, 1, 1, 1, 1, 1, 1, 0, 0])) (i := 5) (d := (some 53)) (v := .string t65) (g := 24) (args := #[.slice Aa0 a0.length ca0, .int .i64 ((gt a0 a1).Op), .int .i64 ((gt a0 a1).A), .bool false]) (by kernel_rfl) (by kernel_rfl) (by kernel_rfl) (by kernel_rfl) (fun w hC => by
       refine (weirref06_part_1.ok rec_weirref06_text hrec_weirref06_text a0 ((gt a0 a1).Op) ((gt a0 a1).A) false Aa0 ca0 hC ha0 hr66).mono ?_
       rintro e w2 ⟨rfl, h2⟩
       exact ⟨rfl, h2⟩) ?_
      obtain ⟨g68, hp69⟩ := ite_some hp67
      refine q_val (c := (cd13 [1, 1, 0, 1, 0, 1, 1, 1, 1, 1, 1, 1, 0, 0])) (i := 6) (d := (some 54)) (ty := 9) (op := .binOp .add 9 (.tmp 53) (.const (.string (⟨#[32, 47, 92, 32]⟩ : ByteArray))) 9) (v := .string (t65 ++ (⟨#[32, 47, 92, 32]⟩ : ByteArray))) (by kernel_rfl) (by kernel_rfl) (fun w hC o ho _ => x_concat (by kernel_rfl) (by kernel_rfl) g68 ho) ?_
      refine q_run 2 (is' := [9, 10, 11, 12, 13, 14]) (us := [(55, .slice Aa0 a0.length ca0), (56, .pointer (some ⟨b7, 0, none⟩))]) (by kernel_rfl) ?_
      refine q_load (c := (cd13 [1, 1, 0, 1, 0, 1, 1, 1, 1, 1, 1, 1, 0, 0])) (i := 9) (d := (some 57)) (ty := 3) (t := 3) (x := (.tmp 56)) (p := ⟨b7, 0, none⟩) (v := .int .i64 ((gt a0 a1).Op)) (by kernel_rfl) (by kernel_rfl) (by kernel_rfl) (fun w hC => (loads_at 0 (hC.blk 0 rfl) (by kernel_rfl) (by kernel_rfl))) ?_
      refine q_run 1 (is' := [11, 12, 13, 14]) (us := [(58, .pointer (some ⟨b7, 2, none⟩))]) (by kernel_rfl) ?_
      refine q_load (c := (cd13 [1, 1, 0, 1, 0, 1, 1, 1, 1, 1, 1, 1, 0, 0])) (i := 11) (d := (some 59)) (ty := 3) (t := 3) (x := (.tmp 58)) (p := ⟨b7, 2, none⟩) (v := .int .i64 ((gt a0 a1).B)) (by kernel_rfl) (by kernel_rfl) (by kernel_rfl) (fun w hC => (loads_at 2 (hC.blk 0 rfl) (by kernel_rfl) (by kernel_rfl))) ?_
      obtain ⟨t70, hr71, hp72⟩ := bind_some' hp69
      refine q_call1 (c := (cd13 [1, 1, 0, 1, 0, 1, 1, 1, 1, 1, 1, 1, 0, 0])) (i := 12) (d := (some 60)) (v := .string t70) (g := 24) (args := #[.slice Aa0 a0.length ca0, .int .i64 ((gt a0 a1).Op), .int .i64 ((gt a0 a1).B), .bool true]) (by kernel_rfl) (by kernel_rfl) (by kernel_rfl) (by kernel_rfl) (fun w hC => by
       refine (weirref06_part_1.ok rec_weirref06_text hrec_weirref06_text a0 ((gt a0 a1).Op) ((gt a0 a1).B) true Aa0 ca0 hC ha0 hr71).mono ?_
       rintro e w2 ⟨rfl, h2⟩
       exact ⟨rfl, h2⟩) ?_
      obtain ⟨g73, hp74⟩ := ite_some hp72
      refine q_val (c := (cd13 [1, 1, 0, 1, 0, 1, 1, 1, 1, 1, 1, 1, 0, 0])) (i := 13) (d := (some 61)) (ty := 9) (op := .binOp .add 9 (.tmp 54) (.tmp 60) 9) (v := .string ((t65 ++ (⟨#[32, 47, 92, 32]⟩ : ByteArray)) ++ t70)) (by kernel_rfl) (by kernel_rfl) (fun w hC o ho _ => x_concat (by kernel_rfl) (by kernel_rfl) g73 ho) ?_
      refine q_run 1 (is' := []) (us := [(4, .string ((t65 ++ (⟨#[32, 47, 92, 32]⟩ : ByteArray)) ++ t70))]) (by kernel_rfl) ?_
      refine Qs.nil ?_
      intro w75 hS76
      have hS77 := hS76.drop
      refine runs_ret (fn := Tryd.f13) (v := .string ((t65 ++ (⟨#[32, 47, 92, 32]⟩ : ByteArray)) ++ t70)) Tryd.func13 (by kernel_rfl) ?_
      have hr78 := (Option.some.inj hp74)
      cases hr78
      exact hR _ _ ⟨rfl, hS77⟩
     ·skip
      have hp79 := ite_f hp61 h63
      refine sx_run 6 (todo' := [.code (cd13 [1, 1, 1, 0]), .code (cd13 [1, 1, 1, 1])]) (us := [(46, .bool false)]) (by kernel_rfl) ?_
      refine r_quiet hS12 (c := (cd13 [1, 1, 1, 0])) (id := 14) (by kernel_rfl) (by kernel_rfl) (by kernel_rfl) (is := [0, 1, 2, 3, 4, 5, 6, 7, 8, 9, 10, 11, 12, 13, 14]) (by kernel_rfl) ?_
      refine q_run 2 (is' := [2, 3, 4, 5, 6, 7, 8, 9, 10, 11, 12, 13, 14]) (us := [(62, .slice Aa0 a0.length ca0), (63, .pointer (some ⟨b7, 0, none⟩))]) (by kernel_rfl) ?_
      refine q_load (c := (cd13 [1, 1, 1, 0])) (i := 2) (d := (some 64)) (ty := 3) (t := 3) (x := (.tmp 63)) (p := ⟨b7, 0, none⟩) (v := .int .i64 ((gt a0 a1).Op)) (by kernel_rfl) (by kernel_rfl) (by kernel_rfl) (fun w hC => (loads_at 0 (hC.blk 0 rfl) (by kernel_rfl) (by kernel_rfl))) ?_
      refine q_run 1 (is' := [4, 5, 6, 7, 8, 9, 10, 11, 12, 13, 14]) (us := [(65, .pointer (some ⟨b7, 1, none⟩))]) (by kernel_rfl) ?_
      refine q_load (c := (cd13 [1, 1, 1, 0])) (i := 4) (d := (some 66)) (ty := 3) (t := 3) (x := (.tmp 65)) (p := ⟨b7, 1, none⟩) (v := .int .i64 ((gt a0 a1).A)) (by kernel_rfl) (by kernel_rfl) (by kernel_rfl) (fun w hC => (loads_at 1 (hC.blk 0 rfl) (by kernel_rfl) (by kernel_rfl))) ?_
      obtain ⟨t80, hr81, hp82⟩ := bind_some' hp79
      refine q_call1 (c := (cd13 [1, 1, 1, 0])) (i := 5) (d := (some 67)) (v := .string t80) (g := 24) (args := #[.slice Aa0 a0.length ca0, .int .i64 ((gt a0 a1).Op), .int .i64 ((gt a0 a1).A), .bool false]) (by kernel_rfl) (by kernel_rfl) (by kernel_rfl) (by kernel_rfl) (fun w hC => by
       refine (weirref06_part_1.ok rec_weirref06_text hrec_weirref06_text a0 ((gt a0 a1).Op) ((gt a0 a1).A) false Aa0 ca0 hC ha0 hr81).mono ?_
       rintro e w2 ⟨rfl, h2⟩
       exact ⟨rfl, h2⟩) ?_
      obtain ⟨g83, hp84⟩ := ite_some hp82
      refine q_val (c := (cd13 [1, 1, 1, 0])) (i := 6) (d := (some 68)) (ty := 9) (op := .binOp .add 9 (.tmp 67) (.const (.string (⟨#[32, 92, 47, 32]⟩ : ByteArray))) 9) (v := .string (t80 ++ (⟨#[32, 92, 47, 32]⟩ : ByteArray))) (by kernel_rfl) (by kernel_rfl) (fun w hC o ho _ => x_concat (by kernel_rfl) (by kernel_rfl) g83 ho) ?_
      refine q_run 2 (is' := [9, 10, 11, 12, 13, 14]) (us := [(69, .slice Aa0 a0.length ca0), (70, .pointer (some ⟨b7, 0, none⟩))]) (by kernel_rfl) ?_
      refine q_load (c := (cd13 [1, 1, 1, 0])) (i := 9) (d := (some 71)) (ty := 3) (t := 3) (x := (.tmp 70)) (p := ⟨b7, 0, none⟩) (v := .int .i64 ((gt a0 a1).Op)) (by kernel_rfl) (by kernel_rfl) (by kernel_rfl) (fun w hC => (loads_at 0 (hC.blk 0 rfl) (by kernel_rfl) (by kernel_rfl))) ?_
      refine q_run 1 (is' := [11, 12, 13, 14]) (us := [(72, .pointer (some ⟨b7, 2, none⟩))]) (by kernel_rfl) ?_
      refine q_load (c := (cd13 [1, 1, 1, 0])) (i := 11) (d := (some 73)) (ty := 3) (t := 3) (x := (.tmp 72)) (p := ⟨b7, 2, none⟩) (v := .int .i64 ((gt a0 a1).B)) (by kernel_rfl) (by kernel_rfl) (by kernel_rfl) (fun w hC => (loads_at 2 (hC.blk 0 rfl) (by kernel_rfl) (by kernel_rfl))) ?_
      obtain ⟨t85, hr86, hp87⟩ := bind_some' hp84
      refine q_call1 (c := (cd13 [1, 1, 1, 0])) (i := 12) (d := (some 74)) (v := .string t85) (g := 24) (args := #[.slice Aa0 a0.length ca0, .int .i64 ((gt a0 a1).Op), .int .i64 ((gt a0 a1).B), .bool true]) (by kernel_rfl) (by kernel_rfl) (by kernel_rfl) (by kernel_rfl) (fun w hC => by
       refine (weirref06_part_1.ok rec_weirref06_text hrec_weirref06_text a0 ((gt a0 a1).Op) ((gt a0 a1).B) true Aa0 ca0 hC ha0 hr86).mono ?_
       rintro e w2 ⟨rfl, h2⟩
       exact ⟨rfl, h2⟩) ?_
      obtain ⟨g88, hp89⟩ := ite_some hp87
      refine q_val (c := (cd13 [1, 1, 1, 0])) (i := 13) (d := (some 75)) (ty := 9) (op := .binOp .add 9 (.tmp 68) (.tmp 74) 9) (v := .string ((t80 ++ (⟨#[32, 92, 47, 32]⟩ : ByteArray)) ++ t85)) (by kernel_rfl) (by kernel_rfl) (fun w hC o ho _ => x_concat (by kernel_rfl) (by kernel_rfl) g88 ho) ?_
      refine q_run 1 (is' := []) (us := [(4, .string ((t80 ++ (⟨#[32, 92, 47, 32]⟩ : ByteArray)) ++ t85))]) (by kernel_rfl) ?_
      refine Qs.nil ?_
      intro w90 hS91
      have hS92 := hS91.drop
      refine runs_ret (fn := Tryd.f13) (v := .string ((t80 ++ (⟨#[32, 92, 47, 32]⟩ : ByteArray)) ++ t85)) Tryd.func13 (by kernel_rfl) ?_
      have hr93 := (Option.some.inj hp89)
      cases hr93
      exact hR _ _ ⟨rfl, hS92⟩
def weirref06_text.f : Nat → (List api_Node) → Int → Option ByteArray
  | 0 => fun _ _ => none
  | n + 1 => weirref06_text.body (weirref06_text.f n)
theorem weirref06_text.all : ∀ n, weirref06_text.Spec (weirref06_text.f n)
  | 0 => by
    intro a0 a1 Aa0 ca0 w0 Z fs w hS0 ha0 q0 hp0
    cases hp0
  | n + 1 => weirref06_text.bok (weirref06_text.f n) (weirref06_text.all n)
theorem weirref06_text.ok : weirref06_text.Spec (weirref06_text.f fuelN) := weirref06_text.all fuelN

noncomputable def cd6 (p : List Nat) : Code := sub (bodyOf Tryd.f6) p
def weirref06_Text.f (a0 : List api_Node) : Option (ByteArray × Int) :=
  (weirref06_Check.f a0 >>= (fun t1 => (if (t1 != 0) = true then some (((⟨#[]⟩ : ByteArray), t1)) else (weirref06_text.f fuelN a0 (IntKind.i64.wrap ((a0.length : Int) - 1)) >>= (fun t11 => some ((t11, 0)))))))
set_option maxHeartbeats 16000000 in
theorem weirref06_Text.ok (a0 : List api_Node) (Aa0 : Option Addr) (ca0 : Nat) {w0 : World} {Z : Zm} {fs : List XObj} {w : World} (hS0 : St w0 Z (fs) w) (ha0 : SlZ (flat enc_api_Node) 6 Z Aa0 ca0 a0) {q0 : ByteArray} {q1 : Int} (hp0 : weirref06_Text.f a0 = some (q0, q1)) :
    Calls Tryd.prog 6 #[.slice Aa0 a0.length ca0] w (fun e w' => e = .returned (.tuple #[.string q0, .int .i64 q1]) ∧ St w0 Z (fs) w') := by
  refine calls_abs ?_; intro R hR
  unfold weirref06_Text.f at hp0
  refine calls_of_runs (fn := Tryd.f6) (c := cd6 []) Tryd.func6 (by kernel_rfl) (al := [.slice Aa0 a0.length ca0]) rfl (n := 14) rfl ?_
  refine sx_run 8 (todo' := [.inRegion (opsOf (cd6 [1, 0])) [1, 2], .code (cd6 [1, 1])]) (us := [(2, .string (⟨#[]⟩ : ByteArray)), (3, .int .i64 0), (5, .slice Aa0 a0.length ca0)]) (by kernel_rfl) ?_
  obtain ⟨t1, hr2, hp3⟩ := bind_some' hp0
  refine r_call1 (c := (cd6 [1, 0])) (i := 1) (d := (some 6)) (g := 9) (args := #[.slice Aa0 a0.length ca0]) (by kernel_rfl) (by kernel_rfl) (by kernel_rfl) (by kernel_rfl) (weirref06_Check.ok a0 Aa0 ca0 hS0 ha0 hr2) ?_
  rintro _ w4 ⟨rfl, hS5⟩
  refine ⟨.int .i64 t1, rfl, ?_⟩
  refine sx_split 7 (todo' := [.inRegion (opsOf (cd6 [1, 1, 0, 0])) [], .code (cd6 [1, 1, 0, 1]), .code (cd6 [1, 1, 1])]) (us := [(4, .int .i64 t1), (7, .int .i64 t1)]) (d := 8) (t := (t1 != 0)) (by kernel_rfl) (fun h6 => ?_) (fun h7 => ?_)
  ·skip
   have hp8 := ite_t hp3 h6
   refine sx_run 8 (todo' := [.code (cd6 [1, 1, 0, 1, 0, 1]), .code (cd6 [1, 1, 1])]) (us := [(9, .int .i64 t1), (2, .string (⟨#[]⟩ : ByteArray)), (3, .int .i64 t1)]) (by kernel_rfl) ?_
   refine runs_ret (fn := Tryd.f6) (v := .tuple #[.string (⟨#[]⟩ : ByteArray), .int .i64 t1]) Tryd.func6 (by kernel_rfl) ?_
   have hr9 := (Option.some.inj hp8)
   cases hr9
   exact hR _ _ ⟨rfl, hS5⟩
  ·skip
   have hp10 := ite_f hp3 h7
   refine sx_run 9 (todo' := [.inRegion (opsOf (cd6 [1, 1, 1, 0])) [4, 5, 6], .code (cd6 [1, 1, 1, 1])]) (us := [(10, .slice Aa0 a0.length ca0), (11, .slice Aa0 a0.length ca0), (12, .int .i64 (a0.length : Int)), (13, .int .i64 (IntKind.i64.wrap ((a0.length : Int) - 1)))]) (by kernel_rfl) ?_
   obtain ⟨t11, hr12, hp13⟩ := bind_some' hp10
   refine r_call1 (c := (cd6 [1, 1, 1, 0])) (i := 4) (d := (some 14)) (g := 13) (args := #[.slice Aa0 a0.length ca0, .int .i64 (IntKind.i64.wrap ((a0.length : Int) - 1))]) (by kernel_rfl) (by kernel_rfl) (by kernel_rfl) (by kernel_rfl) (weirref06_text.ok a0 (IntKind.i64.wrap ((a0.length : Int) - 1)) Aa0 ca0 hS5 ha0 hr12) ?_
   rintro _ w14 ⟨rfl, hS15⟩
   refine ⟨.string t11, rfl, ?_⟩
   refine sx_run 3 (todo' := [.code (cd6 [1, 1, 1, 1])]) (us := [(2, .string t11), (3, .int .i64 0)]) (by kernel_rfl) ?_
   refine runs_ret (fn := Tryd.f6) (v := .tuple #[.string t11, .int .i64 0]) Tryd.func6 (by kernel_rfl) ?_
   have hr16 := (Option.some.inj hp13)
   cases hr16
   exact hR _ _ ⟨rfl, hS15⟩

noncomputable def cd7 (p : List Nat) : Code := sub (bodyOf Tryd.f7) p
def weirlaw06_num.f (a0 : Int) : Option Int :=
  some (a0)
set_option maxHeartbeats 16000000 in
theorem weirlaw06_num.ok (a0 : Int) {w0 : World} {Z : Zm} {fs : List XObj} {w : World} (hS0 : St w0 Z (fs) w) {q0 : Int} (hp0 : weirlaw06_num.f a0 = some q0) :
    Calls Tryd.prog 7 #[.int .i64 a0] w (fun e w' => e = .returned (.int .i64 q0) ∧ St w0 Z (fs) w') := by
  refine calls_abs ?_; intro R hR
  unfold weirlaw06_num.f at hp0
  refine calls_of_runs (fn := Tryd.f7) (c := cd7 []) Tryd.func7 (by kernel_rfl) (al := [.int .i64 a0]) rfl (n := 3) rfl ?_
  refine sx_run 9 (todo' := [.code (cd7 [1, 1])]) (us := [(2, .int .i64 0), (3, .int .i64 a0), (2, .int .i64 a0)]) (by kernel_rfl) ?_
  refine runs_ret (fn := Tryd.f7) (v := .int .i64 a0) Tryd.func7 (by kernel_rfl) ?_
  have hr1 := (Option.some.inj hp0)
  cases hr1
  exact hR _ _ ⟨rfl, hS0⟩

noncomputable def cd18 (p : List Nat) : Code := sub (bodyOf Tryd.f18) p
def weirlaw06_sameCond.l0 (a0 : List api_Node) (a1 : List api_Node) (t16 : Int) : Option (Sum Unit Bool) :=
  (if (decide (t16 < (a0.length : Int))) = true then (if 0 ≤ t16 ∧ t16 < (a0.length : Int) then (if 0 ≤ t16 ∧ t16 < (a1.length : Int) then (if (!(decide ((gt a0 t16) = (gt a1 t16)))) = true then some (.inr (false)) else (weirlaw06_sameCond.l0 a0 a1 (IntKind.i64.wrap (t16 + 1)))) else none) else none) else some (.inl ()))
 partial_fixpoint
def weirlaw06_sameCond.f (a0 : List api_Node) (a1 : List api_Node) : Option Bool :=
  (if ((a0.length : Int) != (a1.length : Int)) = true then some (false) else (weirlaw06_sameCond.l0 a0 a1 0 >>= (fun | .inl () => some (true) | .inr e => some e)))
set_option maxHeartbeats 16000000 in
theorem weirlaw06_sameCond.ok (a0 : List api_Node) (a1 : List api_Node) (Aa0 : Option Addr) (ca0 : Nat) (Aa1 : Option Addr) (ca1 : Nat) {w0 : World} {Z : Zm} {fs : List XObj} {w : World} (hS0 : St w0 Z (fs) w) (ha0 : SlZ (flat enc_api_Node) 6 Z Aa0 ca0 a0) (ha1 : SlZ (flat enc_api_Node) 6 Z Aa1 ca1 a1) {q0 : Bool} (hp0 : weirlaw06_sameCond.f a0 a1 = some q0) :
    Calls Tryd.prog 18 #[.slice Aa0 a0.length ca0, .slice Aa1 a1.length ca1] w (fun e w' => e = .returned (.bool q0) ∧ St w0 Z (fs) w') := by
  refine calls_abs ?_; intro R hR
  unfold weirlaw06_sameCond.f at hp0
  refine calls_of_runs (fn := Tryd.f18) (c := cd18 []) Tryd.func18 (by kernel_rfl) (al := [.slice Aa0 a0.length ca0, .slice Aa1 a1.length ca1]) rfl (n := 24) rfl ?_
  refine sx_split 12 (todo' := [.inRegion (opsOf (cd18 [1, 0, 0])) [], .code (cd18 [1, 0, 1]), .code (cd18 [1, 1])]) (us := [(4, .bool false), (6, .slice Aa0 a0.length ca0), (7, .int .i64 (a0.length : Int)), (8, .slice Aa1 a1.length ca1), (9, .int .i64 (a1.length : Int))]) (d := 10) (t := ((a0.length : Int) != (a1.length : Int))) (by kernel_rfl) (fun h1 => ?_) (fun h2 => ?_)
  ·skip
   have hp3 := ite_t hp0 h1
   refine sx_run 6 (todo' := [.code (cd18 [1, 0, 1, 0, 1]), .code (cd18 [1, 1])]) (us := [(4, .bool false)]) (by kernel_rfl) ?_
   refine runs_ret (fn := Tryd.f18) (v := .bool false) Tryd.func18 (by kernel_rfl) ?_
   have hr4 := (Option.some.inj hp3)
   cases hr4
   exact hR _ _ ⟨rfl, hS0⟩
  ·skip
   have hp5 := ite_f hp0 h2
   refine sx_run 10 (todo' := [.code (cd18 [1, 1, 0, 1, 0, 0]), .inLoop (cd18 [1, 1, 0, 1, 0, 0]), .inBlock 0, .code (cd18 [1, 1, 1])]) (us := [(5, .int .i64 0)]) (by kernel_rfl) ?_
   obtain ⟨v6, hv7, hp8⟩ := bind_some' hp5
   have hq11 : ∀ x, Sum.inr x = v6 → x = q0 := by intro x hx; subst hx; simpa using hp8
   have J12 : ∀ (he14 : Sum.inl () = v6) (l13 : List Value) (w9 : World) (hS10 : St w0 Z (fs) w9), Runs Tryd.prog 18 [.code (cd18 [1, 1, 1])] (fill [none, none, none, none, none, none, none, none, none, none, none, none, none, none, none, none, none, none, none, none, none, none, none, none, none, none] l13) w9 R := by
    intro he14 l13 w9 hS10
    subst he14
    try dsimp only at hp8
    refine sx_run 4 (todo' := [.code (cd18 [1, 1, 1, 1])]) (us := [(4, .bool true)]) (by kernel_rfl) ?_
    refine runs_ret (fn := Tryd.f18) (v := .bool true) Tryd.func18 (by kernel_rfl) ?_
    have hr15 := (Option.some.inj hp8)
    cases hr15
    exact hR _ _ ⟨rfl, hS10⟩
   have L25 : ∀ (t16 : Int) (e20 : Sum Unit Bool), weirlaw06_sameCond.l0 a0 a1 t16 = some e20 → e20 = v6 → ∀ (l19 : List Value) (w17 : World) (hS18 : St w0 Z (fs) w17), Runs Tryd.prog 18 [.code (cd18 [1, 1, 0, 1, 0, 0]), .inLoop (cd18 [1, 1, 0, 1, 0, 0]), .inBlock 0, .code (cd18 [1, 1, 1])] (fill [some (.slice Aa0 a0.length ca0), some (.slice Aa1 a1.length ca1), none, none, none, some (.int .i64 t16), none, none, none, none, none, none, none, none, none, none, none, none, none, none, none, none, none, none, none, none] l19) w17 R := by
    refine weirlaw06_sameCond.l0.partial_correctness a0 a1 (fun t16 e20 => e20 = v6 → ∀ (l19 : List Value) (w17 : World) (hS18 : St w0 Z (fs) w17), Runs Tryd.prog 18 [.code (cd18 [1, 1, 0, 1, 0, 0]), .inLoop (cd18 [1, 1, 0, 1, 0, 0]), .inBlock 0, .code (cd18 [1, 1, 1])] (fill [some (.slice Aa0 a0.length ca0), some (.slice Aa1 a1.length ca1), none, none, none, some (.int .i64 t16), none, none, none, none, none, none, none, none, none, none, none, none, none, none, none, none, none, none, none, none] l19) w17 R) ?_
    intro rec24 ih23 t16 e20 hb22 he21 l19 w17 hS18
    have hq26 : ∀ x, Sum.inr x = e20 → x = q0 := fun x hx => hq11 x (hx.trans he21)
    refine sx_split 7 (todo' := [.inRegion (opsOf (cd18 [1, 1, 0, 1, 0, 0, 0, 0])) [], .code (cd18 [1, 1, 0, 1, 0, 0, 0, 1]), .code (cd18 [1, 1, 0, 1, 0, 0, 1]), .inLoop (cd18 [1, 1, 0, 1, 0, 0]), .inBlock 0, .code (cd18 [1, 1, 1])]) (us := [(11, .int .i64 t16), (12, .slice Aa0 a0.length ca0), (13, .int .i64 (a0.length : Int))]) (d := 14) (t := (decide (t16 < (a0.length : Int)))) (by kernel_rfl) (fun h27 => ?_) (fun h28 => ?_)
    ·skip
     have hp29 := ite_t hb22 h27
     refine sx_run 6 (todo' := [.code (cd18 [1, 1, 0, 1, 0, 0, 1, 0, 0, 0]), .code (cd18 [1, 1, 0, 1, 0, 0, 1, 0, 0, 1]), .inBlock 1, .code (cd18 [1, 1, 0, 1, 0, 0, 1, 1]), .inLoop (cd18 [1, 1, 0, 1, 0, 0]), .inBlock 0, .code (cd18 [1, 1, 1])]) (us := []) (by kernel_rfl) ?_
     refine r_quiet hS18 (c := (cd18 [1, 1, 0, 1, 0, 0, 1, 0, 0, 0])) (id := 6) (by kernel_rfl) (by kernel_rfl) (by kernel_rfl) (is := [0, 1, 2, 3, 4, 5, 6, 7, 8]) (by kernel_rfl) ?_
     refine q_run 2 (is' := [2, 3, 4, 5, 6, 7, 8]) (us := [(17, .slice Aa0 a0.length ca0), (18, .int .i64 t16)]) (by kernel_rfl) ?_
     obtain ⟨g30, hp31⟩ := ite_some hp29
     obtain ⟨b32, p33, hA34, hc35⟩ := ha0.atF g30.1 g30.2
     refine q_indexAddr (c := (cd18 [1, 1, 0, 1, 0, 0, 1, 0, 0, 0])) (i := 2) (d := (some 19)) (ty := 0) (t := 23) (e := 38) (n := a0.length) (cp := ca0) (sz := 6) (kk := .i64) (x := (.tmp 17)) (y := (.tmp 18)) (b := b32) (o' := p33) (j := t16) (by kernel_rfl) (by kernel_rfl) (slv (by kernel_rfl) hA34) (by kernel_rfl) (by kernel_rfl) (by kernel_rfl) g30.1 g30.2 ?_
     refine q_load (c := (cd18 [1, 1, 0, 1, 0, 0, 1, 0, 0, 0])) (i := 3) (d := (some 20)) (ty := 38) (t := 38) (x := (.tmp 19)) (p := ⟨b32, p33 + t16.toNat * 6, none⟩) (v := .agg (enc_api_Node (gt a0 t16)).toArray) (by kernel_rfl) (by kernel_rfl) (by kernel_rfl) (fun w hC => (loads_agg (hc35.cells hC) (by kernel_rfl) (by kernel_rfl))) ?_
     refine q_run 2 (is' := [6, 7, 8]) (us := [(21, .slice Aa1 a1.length ca1), (22, .int .i64 t16)]) (by kernel_rfl) ?_
     obtain ⟨g36, hp37⟩ := ite_some hp31
     obtain ⟨b38, p39, hA40, hc41⟩ := ha1.atF g36.1 g36.2
     refine q_indexAddr (c := (cd18 [1, 1, 0, 1, 0, 0, 1, 0, 0, 0])) (i := 6) (d := (some 23)) (ty := 0) (t := 23) (e := 38) (n := a1.length) (cp := ca1) (sz := 6) (kk := .i64) (x := (.tmp 21)) (y := (.tmp 22)) (b := b38) (o' := p39) (j := t16) (by kernel_rfl) (by kernel_rfl) (slv (by kernel_rfl) hA40) (by kernel_rfl) (by kernel_rfl) (by kernel_rfl) g36.1 g36.2 ?_
     refine q_load (c := (cd18 [1, 1, 0, 1, 0, 0, 1, 0, 0, 0])) (i := 7) (d := (some 24)) (ty := 38) (t := 38) (x := (.tmp 23)) (p := ⟨b38, p39 + t16.toNat * 6, none⟩) (v := .agg (enc_api_Node (gt a1 t16)).toArray) (by kernel_rfl) (by kernel_rfl) (by kernel_rfl) (fun w hC => (loads_agg (hc41.cells hC) (by kernel_rfl) (by kernel_rfl))) ?_
     refine q_val (c := (cd18 [1, 1, 0, 1, 0, 0, 1, 0, 0, 0])) (i := 8) (d := (some 25)) (ty := 4) (op := .binOp .neq 38 (.tmp 20) (.tmp 24) 38) (v := .bool (!(decide ((gt a0 t16) = (gt a1 t16))))) (by kernel_rfl) (by kernel_rfl) (fun w hC o ho _ => x_neq_api_Node (by kernel_rfl) (by kernel_rfl) ho) ?_
     refine q_split (!(decide ((gt a0 t16) = (gt a1 t16)))) (fun h42 => ?_) (fun h43 => ?_)
     ·skip
      have hp44 := ite_t hp37 h42
      refine Qs.nil ?_
      intro w45 hS46
      refine sx_run 5 (todo' := [.code (cd18 [1, 1, 0, 1, 0, 0, 1, 0, 0, 1, 0, 1]), .inBlock 1, .code (cd18 [1, 1, 0, 1, 0, 0, 1, 1]), .inLoop (cd18 [1, 1, 0, 1, 0, 0]), .inBlock 0, .code (cd18 [1, 1, 1])]) (us := [(4, .bool false)]) (by kernel_rfl) ?_
      refine runs_ret (fn := Tryd.f18) (v := .bool false) Tryd.func18 (by kernel_rfl) ?_
      have hr47 := (hq26 _ (Option.some.inj hp44))
      cases hr47
      exact hR _ _ ⟨rfl, hS46⟩
     ·skip
      have hp48 := ite_f hp37 h43
      refine Qs.nil ?_
      intro w49 hS50
      refine sx_run 8 (todo' := [.inLoop (cd18 [1, 1, 0, 1, 0, 0]), .inBlock 0, .code (cd18 [1, 1, 1])]) (us := [(15, .int .i64 t16), (16, .int .i64 (IntKind.i64.wrap (t16 + 1))), (5, .int .i64 (IntKind.i64.wrap (t16 + 1)))]) (by kernel_rfl) ?_
      refine sx_run 1 (todo' := [.code (cd18 [1, 1, 0, 1, 0, 0]), .inLoop (cd18 [1, 1, 0, 1, 0, 0]), .inBlock 0, .code (cd18 [1, 1, 1])]) (us := []) (by kernel_rfl) ?_
      refine Runs.fill (m := [some (.slice Aa0 a0.length ca0), some (.slice Aa1 a1.length ca1), none, none, none, some (.int .i64 (IntKind.i64.wrap (t16 + 1))), none, none, none, none, none, none, none, none, none, none, none, none, none, none, none, none, none, none, none, none]) (by kernel_rfl) ?_
      exact ih23 (IntKind.i64.wrap (t16 + 1)) _ hp48 he21 _ _ hS50
    ·skip
     have hp51 := ite_f hb22 h28
     refine sx_run 3 (todo' := [.code (cd18 [1, 1, 1])]) (us := []) (by kernel_rfl) ?_
     refine Runs.fill (m := [none, none, none, none, none, none, none, none, none, none, none, none, none, none, none, none, none, none, none, none, none, none, none, none, none, none]) (by kernel_rfl) ?_
     exact J12 ((Option.some.inj hp51).trans he21) _ _ hS18
   refine Runs.fill (m := [some (.slice Aa0 a0.length ca0), some (.slice Aa1 a1.length ca1), none, none, none, some (.int .i64 0), none, none, none, none, none, none, none, none, none, none, none, none, none, none, none, none, none, none, none, none]) (by kernel_rfl) ?_
   exact L25 0 _ hv7 rfl _ _ hS0

noncomputable def cd10 (p : List Nat) : Code := sub (bodyOf Tryd.f10) p
def weirlaw06_back.f (a0 : List api_Node) (a0n : Nat) (a1 : List api_Node) : Option Bool :=
  (if 0 ≤ (IntKind.i64.wrap ((a1.length : Int) + 1)) ∧ (IntKind.i64.wrap ((a1.length : Int) + 1)) ≤ (a0.length : Int) then (if a0n ≤ a0.length then (weirlaw06_sameCond.f (a0.take a0n) a1 >>= (fun t7 => (if t7 = true then (if 0 ≤ (a1.length : Int) ∧ (a1.length : Int) < (((IntKind.i64.wrap ((a1.length : Int) + 1)).toNat : Nat) : Int) ∧ (a1.length : Int) < (a0.length : Int) then (if (((gt a0 (a1.length : Int)).Op) == 77) = true then some (true) else some (false)) else none) else some (false)))) else none) else none)
set_option maxHeartbeats 16000000 in
theorem weirlaw06_back.ok (a0 : List api_Node) (a0n : Nat) (a1 : List api_Node) (Aa0 : Option Addr) (ca0 : Nat) (Aa1 : Option Addr) (ca1 : Nat) {w0 : World} {Z : Zm} {fs : List XObj} {w : World} (hS0 : St w0 Z (xrow Aa0 ca0 38 6 (a0.flatMap enc_api_Node) :: fs) w) (ha1 : SlZ (flat enc_api_Node) 6 Z Aa1 ca1 a1) {q0 : Bool} (hp0 : weirlaw06_back.f a0 a0n a1 = some q0) :
    Calls Tryd.prog 10 #[.slice Aa0 a0n ca0, .slice Aa1 a1.length ca1] w (fun e w' => e = .returned (.bool q0) ∧ St w0 Z (xrow Aa0 ca0 38 6 (a0.flatMap enc_api_Node) :: fs) w') := by
  refine calls_abs ?_; intro R hR
  unfold weirlaw06_back.f at hp0
  refine calls_of_runs (fn := Tryd.f10) (c := cd10 []) Tryd.func10 (by kernel_rfl) (al := [.slice Aa0 a0n ca0, .slice Aa1 a1.length ca1]) rfl (n := 21) rfl ?_
  refine sx_run 10 (todo' := [.inRegion (opsOf (cd10 [1, 0])) [4, 5], .code (cd10 [1, 1])]) (us := [(4, .bool false), (6, .slice Aa0 a0n ca0), (7, .slice Aa1 a1.length ca1), (8, .int .i64 (a1.length : Int)), (9, .int .i64 (IntKind.i64.wrap ((a1.length : Int) + 1)))]) (by kernel_rfl) ?_
  obtain ⟨g1, hp2⟩ := ite_some hp0
  have hc3 := (hS0.row 0 rfl).cap len_api_Node (by omega)
  have g4 : 0 ≤ (IntKind.i64.wrap ((a1.length : Int) + 1)) ∧ (IntKind.i64.wrap ((a1.length : Int) + 1)) ≤ (ca0 : Int) := by omega
  refine r_val (c := (cd10 [1, 0])) (i := 4) (d := (some 10)) (ty := 23) (op := .slice 23 (.tmp 6) none (some (.tmp 9)) none) (v := .slice Aa0 ((IntKind.i64.wrap ((a1.length : Int) + 1)).toNat) ca0) (by kernel_rfl) (by kernel_rfl) (fun o ho _ => x_cutSl_nsC (e := 38) (sz := 6) (A := Aa0) (n := a0n) (c := ca0) (k := .i64) (by kernel_rfl) (by kernel_rfl) (by kernel_rfl) (by kernel_rfl) g4 cut0 ho) ?_
  refine sx_run 6 (todo' := [.inRegion (opsOf (cd10 [1, 1, 0])) [2, 3, 4, 5, 6, 7, 8, 9, 10, 11, 12], .code (cd10 [1, 1, 1])]) (us := [(5, .slice Aa0 ((IntKind.i64.wrap ((a1.length : Int) + 1)).toNat) ca0), (11, .slice Aa0 a0n ca0), (12, .slice Aa1 a1.length ca1)]) (by kernel_rfl) ?_
  obtain ⟨g5, hp6⟩ := ite_some hp2
  obtain ⟨t7, hr8, hp9⟩ := bind_some' hp6
  obtain ⟨Z10, hz11, hS12, hs13, hb14⟩ := hS0.lendrow len_api_Node (by omega)
  refine r_call1 (c := (cd10 [1, 1, 0])) (i := 2) (d := (some 13)) (g := 18) (args := #[.slice Aa0 a0n ca0, .slice Aa1 a1.length ca1]) (by kernel_rfl) (by kernel_rfl) (by kernel_rfl) (by kernel_rfl) (args_eq (by rw [lenTake g5]) (weirlaw06_sameCond.ok (a0.take a0n) a1 Aa0 ca0 Aa1 ca1 hS12 (hs13.take0 a0n) (ha1.up hz11) hr8)) ?_
  rintro _ w15 ⟨rfl, hS16⟩
  refine ⟨.bool t7, rfl, ?_⟩
  have hS17 := hb14 _ _ hS16
  refine sx_run 1 (todo' := [.inRegion (opsOf (cd10 [1, 1, 0])) [4, 5, 6, 7, 8, 9, 10, 11, 12], .code (cd10 [1, 1, 1])]) (us := [(14, .bool t7)]) (by kernel_rfl) ?_
  cases t7
  ·skip
   have hp18 := ite_f hp9 rfl
   refine sx_run 10 (todo' := [.code (cd10 [1, 1, 1])]) (us := [(15, undef), (16, undef), (17, undef), (18, undef), (19, undef), (20, undef), (21, undef), (22, .bool false), (4, .bool false)]) (by kernel_rfl) ?_
   refine runs_ret (fn := Tryd.f10) (v := .bool false) Tryd.func10 (by kernel_rfl) ?_
   have hr19 := (Option.some.inj hp18)
   cases hr19
   exact hR _ _ ⟨rfl, hS17⟩
  ·skip
   have hp20 := ite_t hp9 rfl
   refine sx_run 3 (todo' := [.inRegion (opsOf (cd10 [1, 1, 0])) [7, 8, 9, 10, 11, 12], .code (cd10 [1, 1, 1])]) (us := [(15, .slice Aa0 ((IntKind.i64.wrap ((a1.length : Int) + 1)).toNat) ca0), (16, .slice Aa1 a1.length ca1), (17, .int .i64 (a1.length : Int))]) (by kernel_rfl) ?_
   obtain ⟨g21, hp22⟩ := ite_some hp20
   obtain ⟨b23, p24, hA25, -⟩ := (hS17.row 0 rfl).at_ len_api_Node (by omega) (i := (a1.length : Int)) (by omega) g21.2.2
   have g26 : 0 ≤ (a1.length : Int) ∧ (a1.length : Int) < (a0.length : Int) := ⟨g21.1, g21.2.2⟩
   refine r_indexAddr (c := (cd10 [1, 1, 0])) (i := 7) (d := (some 18)) (ty := 0) (t := 23) (e := 38) (n := (IntKind.i64.wrap ((a1.length : Int) + 1)).toNat) (cp := ca0) (sz := 6) (kk := .i64) (x := (.tmp 15)) (y := (.tmp 17)) (b := b23) (o' := p24) (j := (a1.length : Int)) (by kernel_rfl) (by kernel_rfl) (slv (by kernel_rfl) hA25) (by kernel_rfl) (by kernel_rfl) (by kernel_rfl) g21.1 g21.2.1 ?_
   refine sx_run 1 (todo' := [.inRegion (opsOf (cd10 [1, 1, 0])) [9, 10, 11, 12], .code (cd10 [1, 1, 1])]) (us := [(19, .pointer (some ⟨b23, p24 + (a1.length : Int).toNat * 6, none⟩))]) (by kernel_rfl) ?_
   refine r_load (c := (cd10 [1, 1, 0])) (i := 9) (d := (some 20)) (ty := 3) (t := 3) (x := (.tmp 19)) (p := ⟨b23, p24 + (a1.length : Int).toNat * 6, none⟩) (v := .int .i64 ((gt a0 (a1.length : Int)).Op)) (by kernel_rfl) (by kernel_rfl) (by kernel_rfl) (loads_at 0 ((hS17.row 0 rfl).at2 hA25 len_api_Node (by omega) g26.1 g26.2) (by kernel_rfl) (by kernel_rfl)) ?_
   refine sx_split 1 (todo' := [.inRegion (opsOf (cd10 [1, 1, 0])) [11, 12], .code (cd10 [1, 1, 1])]) (us := []) (d := 21) (t := (((gt a0 (a1.length : Int)).Op) == 77)) (by kernel_rfl) (fun h27 => ?_) (fun h28 => ?_)
   ·skip
    have hp29 := ite_t hp22 h27
    refine sx_run 3 (todo' := [.code (cd10 [1, 1, 1])]) (us := [(22, .bool true), (4, .bool true)]) (by kernel_rfl) ?_
    refine runs_ret (fn := Tryd.f10) (v := .bool true) Tryd.func10 (by kernel_rfl) ?_
    have hr30 := (Option.some.inj hp29)
    cases hr30
    exact hR _ _ ⟨rfl, hS17⟩
   ·skip
    have hp31 := ite_f hp22 h28
    refine sx_run 3 (todo' := [.code (cd10 [1, 1, 1])]) (us := [(22, .bool false), (4, .bool false)]) (by kernel_rfl) ?_
    refine runs_ret (fn := Tryd.f10) (v := .bool false) Tryd.func10 (by kernel_rfl) ?_
    have hr32 := (Option.some.inj hp31)
    cases hr32
    exact hR _ _ ⟨rfl, hS17⟩

noncomputable def cd3 (p : List Nat) : Code := sub (bodyOf Tryd.f3) p
def weirlaw06_CondTexts.f (a0 : List api_Node) : Option Bool :=
  (weirlaw06_lent.f a0 >>= (fun (t1, t2) => (if t2 ≤ t1.length then (cond_Text.f (t1.take t2) >>= (fun (t12, t13) => (weirref06_Text.f a0 >>= (fun (t24, t25) => (if t2 ≤ t1.length then (cond_Check.f (t1.take t2) >>= (fun t32 => (weirlaw06_num.f t32 >>= (fun t43 => (weirref06_Check.f a0 >>= (fun t48 => (if (t43 == t48) = true then (if (seq t12 t24) = true then (weirlaw06_num.f t13 >>= (fun t59 => (if (t59 == t25) = true then (weirlaw06_back.f t1 t2 a0 >>= (fun t67 => some (t67))) else some (false)))) else some (false)) else some (false)))))))) else none))))) else none)))
set_option maxHeartbeats 16000000 in
theorem weirlaw06_CondTexts.ok (a0 : List api_Node) (Aa0 : Option Addr) (ca0 : Nat) {w0 : World} {Z : Zm} {fs : List XObj} {w : World} (hS0 : St w0 Z (fs) w) (ha0 : SlZ (flat enc_api_Node) 6 Z Aa0 ca0 a0) (hE : Env Z) {q0 : Bool} (hp0 : weirlaw06_CondTexts.f a0 = some q0) :
    Calls Tryd.prog 3 #[.slice Aa0 a0.length ca0] w (fun e w' => e = .returned (.bool q0) ∧ St w0 Z (fs) w') := by
  refine calls_abs ?_; intro R hR
  unfold weirlaw06_CondTexts.f at hp0
  refine calls_of_runs (fn := Tryd.f3) (c := cd3 []) Tryd.func3 (by kernel_rfl) (al := [.slice Aa0 a0.length ca0]) rfl (n := 41) rfl ?_
  refine sx_run 7 (todo' := [.inRegion (opsOf (cd3 [1, 0])) [1, 2], .code (cd3 [1, 1])]) (us := [(2, .bool false), (8, .slice Aa0 a0.length ca0)]) (by kernel_rfl) ?_
  obtain ⟨⟨t1, t2⟩, hr5, hp6⟩ := bind_some' hp0
  try dsimp only at hp6
  refine r_call1 (c := (cd3 [1, 0])) (i := 1) (d := (some 9)) (g := 4) (args := #[.slice Aa0 a0.length ca0]) (by kernel_rfl) (by kernel_rfl) (by kernel_rfl) (by kernel_rfl) (weirlaw06_lent.ok a0 Aa0 ca0 hS0 ha0 hr5) ?_
  rintro _ w8 ⟨Q3, Q4, rfl, hS9⟩
  refine ⟨.slice Q3 t2 Q4, rfl, ?_⟩
  refine sx_run 5 (todo' := [.inRegion (opsOf (cd3 [1, 1, 0])) [1, 2, 3, 4, 5, 6], .code (cd3 [1, 1, 1])]) (us := [(3, .slice Q3 t2 Q4), (11, .slice Q3 t2 Q4)]) (by kernel_rfl) ?_
  obtain ⟨g10, hp11⟩ := ite_some hp6
  obtain ⟨⟨t12, t13⟩, hr14, hp15⟩ := bind_some' hp11
  try dsimp only at hp15
  obtain ⟨Z16, hz17, hS18, hs19, hb20⟩ := hS9.lendrow len_api_Node (by omega)
  refine r_call1 (c := (cd3 [1, 1, 0])) (i := 1) (d := (some 12)) (g := 5) (args := #[.slice Q3 t2 Q4]) (by kernel_rfl) (by kernel_rfl) (by kernel_rfl) (by kernel_rfl) (args_eq (by rw [lenTake g10]) (cond_Text.ok (t1.take t2) Q3 Q4 hS18 (hs19.take0 t2) (hE.up hz17) hr14)) ?_
  rintro _ w21 ⟨rfl, hS22⟩
  refine ⟨.tuple #[.string t12, .int .i64 t13], rfl, ?_⟩
  have hS23 := hb20 _ _ hS22
  refine sx_run 9 (todo' := [.inRegion (opsOf (cd3 [1, 1, 1, 0])) [1, 2, 3, 4, 5, 6], .code (cd3 [1, 1, 1, 1])]) (us := [(10, .tuple #[.string t12, .int .i64 t13]), (13, .string t12), (14, .int .i64 t13), (4, .string t12), (5, .int .i64 t13), (16, .slice Aa0 a0.length ca0)]) (by kernel_rfl) ?_
  obtain ⟨⟨t24, t25⟩, hr26, hp27⟩ := bind_some' hp15
  try dsimp only at hp27
  refine r_call1 (c := (cd3 [1, 1, 1, 0])) (i := 1) (d := (some 17)) (g := 6) (args := #[.slice Aa0 a0.length ca0]) (by kernel_rfl) (by kernel_rfl) (by kernel_rfl) (by kernel_rfl) (weirref06_Text.ok a0 Aa0 ca0 hS23 ha0 hr26) ?_
  rintro _ w28 ⟨rfl, hS29⟩
  refine ⟨.tuple #[.string t24, .int .i64 t25], rfl, ?_⟩
  refine sx_run 9 (todo' := [.inRegion (opsOf (cd3 [1, 1, 1, 1, 0])) [1, 2, 3, 4, 5, 6, 7, 8, 9, 10, 11, 12, 13, 14, 15, 16, 17, 18, 19, 20, 21, 22], .code (cd3 [1, 1, 1, 1, 1])]) (us := [(15, .tuple #[.string t24, .int .i64 t25]), (18, .string t24), (19, .int .i64 t25), (6, .string t24), (7, .int .i64 t25), (20, .slice Q3 t2 Q4)]) (by kernel_rfl) ?_
  obtain ⟨g30, hp31⟩ := ite_some hp27
  obtain ⟨t32, hr33, hp34⟩ := bind_some' hp31
  obtain ⟨Z35, hz36, hS37, hs38, hb39⟩ := hS29.lendrow len_api_Node (by omega)
  refine r_call1 (c := (cd3 [1, 1, 1, 1, 0])) (i := 1) (d := (some 21)) (g := 8) (args := #[.slice Q3 t2 Q4]) (by kernel_rfl) (by kernel_rfl) (by kernel_rfl) (by kernel_rfl) (args_eq (by rw [lenTake g30]) (cond_Check.ok (t1.take t2) Q3 Q4 hS37 (hs38.take0 t2) hr33)) ?_
  rintro _ w40 ⟨rfl, hS41⟩
  refine ⟨.int .i64 t32, rfl, ?_⟩
  have hS42 := hb39 _ _ hS41
  obtain ⟨t43, hr44, hp45⟩ := bind_some' hp34
  refine r_call1 (c := (cd3 [1, 1, 1, 1, 0])) (i := 2) (d := (some 22)) (g := 7) (args := #[.int .i64 t32]) (by kernel_rfl) (by kernel_rfl) (by kernel_rfl) (by kernel_rfl) (weirlaw06_num.ok t32 hS42 hr44) ?_
  rintro _ w46 ⟨rfl, hS47⟩
  refine ⟨.int .i64 t43, rfl, ?_⟩
  refine sx_run 1 (todo' := [.inRegion (opsOf (cd3 [1, 1, 1, 1, 0])) [4, 5, 6, 7, 8, 9, 10, 11, 12, 13, 14, 15, 16, 17, 18, 19, 20, 21, 22], .code (cd3 [1, 1, 1, 1, 1])]) (us := [(23, .slice Aa0 a0.length ca0)]) (by kernel_rfl) ?_
  obtain ⟨t48, hr49, hp50⟩ := bind_some' hp45
  refine r_call1 (c := (cd3 [1, 1, 1, 1, 0])) (i := 4) (d := (some 24)) (g := 9) (args := #[.slice Aa0 a0.length ca0]) (by kernel_rfl) (by kernel_rfl) (by kernel_rfl) (by kernel_rfl) (weirref06_Check.ok a0 Aa0 ca0 hS47 ha0 hr49) ?_
  rintro _ w51 ⟨rfl, hS52⟩
  refine ⟨.int .i64 t48, rfl, ?_⟩
  refine sx_split 1 (todo' := [.inRegion (opsOf (cd3 [1, 1, 1, 1, 0])) [6, 7, 8, 9, 10, 11, 12, 13, 14, 15, 16, 17, 18, 19, 20, 21, 22], .code (cd3 [1, 1, 1, 1, 1])]) (us := []) (d := 25) (t := (t43 == t48)) (by kernel_rfl) (fun h53 => ?_) (fun h54 => ?_)
  ·skip
   have hp55 := ite_t hp50 h53
   refine sx_split 4 (todo' := [.inRegion (opsOf (cd3 [1, 1, 1, 1, 0])) [10, 11, 12, 13, 14, 15, 16, 17, 18, 19, 20, 21, 22], .code (cd3 [1, 1, 1, 1, 1])]) (us := [(26, .bool true), (27, .string t12), (28, .string t24)]) (d := 29) (t := (seq t12 t24)) (by kernel_rfl) (fun h56 => ?_) (fun h57 => ?_)
   ·skip
    have hp58 := ite_t hp55 h56
    refine sx_run 3 (todo' := [.inRegion (opsOf (cd3 [1, 1, 1, 1, 0])) [13, 14, 15, 16, 17, 18, 19, 20, 21, 22], .code (cd3 [1, 1, 1, 1, 1])]) (us := [(30, .bool true), (31, .bool true), (32, .int .i64 t13)]) (by kernel_rfl) ?_
    obtain ⟨t59, hr60, hp61⟩ := bind_some' hp58
    refine r_call1 (c := (cd3 [1, 1, 1, 1, 0])) (i := 13) (d := (some 33)) (g := 7) (args := #[.int .i64 t13]) (by kernel_rfl) (by kernel_rfl) (by kernel_rfl) (by kernel_rfl) (weirlaw06_num.ok t13 hS52 hr60) ?_
    rintro _ w62 ⟨rfl, hS63⟩
    refine ⟨.int .i64 t59, rfl, ?_⟩
    refine sx_split 2 (todo' := [.inRegion (opsOf (cd3 [1, 1, 1, 1, 0])) [16, 17, 18, 19, 20, 21, 22], .code (cd3 [1, 1, 1, 1, 1])]) (us := [(34, .int .i64 t25)]) (d := 35) (t := (t59 == t25)) (by kernel_rfl) (fun h64 => ?_) (fun h65 => ?_)
    ·skip
     have hp66 := ite_t hp61 h64
     refine sx_run 4 (todo' := [.inRegion (opsOf (cd3 [1, 1, 1, 1, 0])) [20, 21, 22], .code (cd3 [1, 1, 1, 1, 1])]) (us := [(36, .bool true), (37, .bool true), (38, .slice Q3 t2 Q4), (39, .slice Aa0 a0.length ca0)]) (by kernel_rfl) ?_
     obtain ⟨t67, hr68, hp69⟩ := bind_some' hp66
     refine r_call1 (c := (cd3 [1, 1, 1, 1, 0])) (i := 20) (d := (some 40)) (g := 10) (args := #[.slice Q3 t2 Q4, .slice Aa0 a0.length ca0]) (by kernel_rfl) (by kernel_rfl) (by kernel_rfl) (by kernel_rfl) (weirlaw06_back.ok t1 t2 a0 Q3 Q4 Aa0 ca0 hS63 ha0 hr68) ?_
     rintro _ w70 ⟨rfl, hS71⟩
     refine ⟨.bool t67, rfl, ?_⟩
     refine sx_run 3 (todo' := [.code (cd3 [1, 1, 1, 1, 1])]) (us := [(41, .bool t67), (2, .bool t67)]) (by kernel_rfl) ?_
     have hS72 := hS71.drop
     refine runs_ret (fn := Tryd.f3) (v := .bool t67) Tryd.func3 (by kernel_rfl) ?_
     have hr73 := (Option.some.inj hp69)
     cases hr73
     exact hR _ _ ⟨rfl, hS72⟩
    ·skip
     have hp74 := ite_f hp61 h65
     refine sx_run 8 (todo' := [.code (cd3 [1, 1, 1, 1, 1])]) (us := [(36, .bool false), (37, .bool false), (38, undef), (39, undef), (40, undef), (41, .bool false), (2, .bool false)]) (by kernel_rfl) ?_
     have hS75 := hS63.drop
     refine runs_ret (fn := Tryd.f3) (v := .bool false) Tryd.func3 (by kernel_rfl) ?_
     have hr76 := (Option.some.inj hp74)
     cases hr76
     exact hR _ _ ⟨rfl, hS75⟩
   ·skip
    have hp77 := ite_f hp55 h57
    refine sx_run 14 (todo' := [.code (cd3 [1, 1, 1, 1, 1])]) (us := [(30, .bool false), (31, .bool false), (32, undef), (33, undef), (34, undef), (35, undef), (36, .bool false), (37, .bool false), (38, undef), (39, undef), (40, undef), (41, .bool false), (2, .bool false)]) (by kernel_rfl) ?_
    have hS78 := hS52.drop
    refine runs_ret (fn := Tryd.f3) (v := .bool false) Tryd.func3 (by kernel_rfl) ?_
    have hr79 := (Option.some.inj hp77)
    cases hr79
    exact hR _ _ ⟨rfl, hS78⟩
  ·skip
   have hp80 := ite_f hp50 h54
   refine sx_run 18 (todo' := [.code (cd3 [1, 1, 1, 1, 1])]) (us := [(26, .bool false), (27, undef), (28, undef), (29, undef), (30, .bool false), (31, .bool false), (32, undef), (33, undef), (34, undef), (35, undef), (36, .bool false), (37, .bool false), (38, undef), (39, undef), (40, undef), (41, .bool false), (2, .bool false)]) (by kernel_rfl) ?_
   have hS81 := hS52.drop
   refine runs_ret (fn := Tryd.f3) (v := .bool false) Tryd.func3 (by kernel_rfl) ?_
   have hr82 := (Option.some.inj hp80)
   cases hr82
   exact hR _ _ ⟨rfl, hS81⟩

end
end Go.Proofs.YtmaldbnnighojaaDoor.K
