/- The walk, part 2: each Go function as a plain Lean function, and that its call answers as that function says. No condition. -/
import Derived.Test.YthkpeoiphkndiaaE
import Derived.Test.YthkpeoiphkndiaaNS
import Derived.Test.YthkpeoiphkndiaaLS
import Derived.Test.YthkpeoiphkndiaaNM
import Derived.Test.YthkpeoiphkndiaaNV
import Derived.Test.YthkpeoiphkndiaaF1
set_option linter.unusedVariables false
set_option linter.unusedSimpArgs false
set_option maxRecDepth 100000
namespace Go.Proofs.Ythkpeoiphkndiaa.K
open Go Go.RowKit
noncomputable section
noncomputable def cd12 (p : List Nat) : Code := sub (bodyOf Try.f12) p
def cond_Refs.l0 (a0 : List api_Node) (t41 : List api_Ref) (t45 : Int) : Option (List api_Ref) :=
  (if (decide (t45 < (a0.length : Int))) = true then (if 0 ≤ t45 ∧ t45 < (a0.length : Int) then (if (((gt a0 t45).Op) == 2) = true then (if (t41.length + ([(gt a0 t45).Ref] : List api_Ref).length) * 24 ≤ 140737488355328 then (cond_Refs.l0 a0 (t41 ++ ([(gt a0 t45).Ref] : List api_Ref)) (IntKind.i64.wrap (t45 + 1))) else none) else (cond_Refs.l0 a0 t41 (IntKind.i64.wrap (t45 + 1)))) else none) else some (t41))
 partial_fixpoint
def cond_Refs.f (a0 : List api_Node) : Option ((List api_Ref) × Int) :=
  (cond_Check.f a0 >>= (fun t1 => (if (t1 != 0) = true then some (([], t1)) else (cond_Refs.l0 a0 [] 0 >>= (fun t16 => (if t16.length < 4611686018427387904 then (sortR cond_below.f t16 >>= fun t27 => (slices_Compact___api_Ref_api_Ref.f t27 >>= (fun t32 => some ((t32, 0))))) else none))))))
set_option maxHeartbeats 16000000 in
theorem cond_Refs.ok (a0 : List api_Node) (Aa0 : Option Addr) (ca0 : Nat) {w0 : World} {Z : Zm} {fs : List XObj} {w : World} (hS0 : St w0 Z (fs) w) (ha0 : SlZ (flat enc_api_Node) 6 Z Aa0 ca0 a0) {q0 : List api_Ref} {q1 : Int} (hp0 : cond_Refs.f a0 = some (q0, q1)) :
    Calls Try.prog 12 #[.slice Aa0 a0.length ca0] w (fun e w' => ∃ (QA0 : Option Addr) (Qc0 : Nat), e = .returned (.tuple #[.slice QA0 q0.length Qc0, .int .i64 q1]) ∧ St w0 Z (xrow QA0 Qc0 46 2 (q0.flatMap enc_api_Ref) :: fs) w') := by
  refine calls_abs ?_; intro R hR
  unfold cond_Refs.f at hp0
  refine calls_of_runs (fn := Try.f12) (c := cd12 []) Try.func12 (by kernel_rfl) (al := [.slice Aa0 a0.length ca0]) rfl (n := 31) rfl ?_
  refine sx_run 9 (todo' := [.inRegion (opsOf (cd12 [1, 0, 0])) [1, 2], .code (cd12 [1, 0, 1]), .code (cd12 [1, 1])]) (us := [(2, .slice none 0 0), (3, .int .i64 0), (8, .slice Aa0 a0.length ca0)]) (by kernel_rfl) ?_
  obtain ⟨t1, hr2, hp3⟩ := bind_some' hp0
  refine r_call1 (c := (cd12 [1, 0, 0])) (i := 1) (d := (some 9)) (g := 19) (args := #[.slice Aa0 a0.length ca0]) (by kernel_rfl) (by kernel_rfl) (by kernel_rfl) (by kernel_rfl) (cond_Check.ok a0 Aa0 ca0 hS0 ha0 hr2) ?_
  rintro _ w4 ⟨rfl, hS5⟩
  refine ⟨.int .i64 t1, rfl, ?_⟩
  refine sx_split 6 (todo' := [.inRegion (opsOf (cd12 [1, 0, 1, 0])) [], .code (cd12 [1, 0, 1, 1]), .code (cd12 [1, 1])]) (us := [(4, .int .i64 t1), (10, .int .i64 t1)]) (d := 11) (t := (t1 != 0)) (by kernel_rfl) (fun h6 => ?_) (fun h7 => ?_)
  ·skip
   have hp8 := ite_t hp3 h6
   refine sx_run 8 (todo' := [.code (cd12 [1, 0, 1, 1, 0, 1]), .code (cd12 [1, 1])]) (us := [(12, .int .i64 t1), (2, .slice none 0 0), (3, .int .i64 t1)]) (by kernel_rfl) ?_
   have hS10 := hS5.nilrow none 46 2
   refine runs_ret (fn := Try.f12) (v := .tuple #[.slice none 0 0, .int .i64 t1]) Try.func12 (by kernel_rfl) ?_
   have hr11 := (Option.some.inj hp8)
   cases hr11
   exact hR _ _ ⟨none, 0, rfl, hS10⟩
  ·skip
   have hp12 := ite_f hp3 h7
   refine sx_run 16 (todo' := [.code (cd12 [1, 1, 1, 0, 1, 0, 0]), .inLoop (cd12 [1, 1, 1, 0, 1, 0, 0]), .inBlock 0, .code (cd12 [1, 1, 1, 1])]) (us := [(5, .slice none 0 0), (13, .slice Aa0 a0.length ca0), (14, .int .i64 (a0.length : Int)), (15, .int .i64 0)]) (by kernel_rfl) ?_
   obtain ⟨v13, hv14, hp15⟩ := bind_some' hp12
   have J22 : ∀ (t16 : List api_Ref) (he24 : t16 = v13) (l23 : List Value) (A17 : Option Addr) (c18 : Nat) (w20 : World) (hS21 : St w0 Z (xrow A17 c18 46 2 (t16.flatMap enc_api_Ref) :: fs) w20), Runs Try.prog 12 [.code (cd12 [1, 1, 1, 1])] (fill [none, none, none, none, none, some (.slice A17 t16.length c18), none, none, none, none, none, none, none, none, none, none, none, none, none, none, none, none, none, none, none, none, none, none, none, none, none, none] l23) w20 R := by
    intro t16 he24 l23 A17 c18 w20 hS21
    subst he24
    try dsimp only at hp15
    refine sx_run 3 (todo' := [.inRegion (opsOf (cd12 [1, 1, 1, 1, 0])) [1], .code (cd12 [1, 1, 1, 1, 1])]) (us := [(28, .slice A17 t16.length c18)]) (by kernel_rfl) ?_
    obtain ⟨g25, hp26⟩ := ite_some hp15
    obtain ⟨t27, hr28, hp29⟩ := bind_some' hp26
    refine r_call1 (c := (cd12 [1, 1, 1, 1, 0])) (i := 1) (d := (some 29)) (g := 23) (args := #[.slice A17 t16.length c18, .func (.func 24) #[] #[]]) (by kernel_rfl) (by kernel_rfl) (by kernel_rfl) (by kernel_rfl) (sort_callsR (enc := enc_api_Ref) (e := 46) (k := 2) (g := 24) (xs := t16) (ys := t27) (A := A17) (cp := c18) (cmp := cond_below.f) sort23 (by kernel_rfl) (by kernel_rfl) len_api_Ref one_api_Ref (by omega) (enters_of Try.func24 (by kernel_rfl) rfl) hS21 (fun x y r W h => (cond_below.ok x y (St.start0 W) h).mono fun e w' h => ⟨h.1, h.2.fr.with (h.2.dr trivial)⟩) g25 hr28) ?_
    rintro _ w30 ⟨rfl, hS31⟩
    refine ⟨.tuple #[], rfl, ?_⟩
    refine Runs.fill (m := [none, none, none, none, none, some (.slice A17 t16.length c18), none, none, none, none, none, none, none, none, none, none, none, none, none, none, none, none, none, none, none, none, none, none, some (.slice A17 t16.length c18), none, none, none]) (by kernel_rfl) ?_
    refine Runs.refill (m' := [none, none, none, none, none, some (.slice A17 t27.length c18), none, none, none, none, none, none, none, none, none, none, none, none, none, none, none, none, none, none, none, none, none, none, some (.slice A17 t27.length c18), none, none, none]) (by simp only [sortR_len hr28]) ?_
    refine sx_run 4 (todo' := [.inRegion (opsOf (cd12 [1, 1, 1, 1, 1, 0])) [1, 2, 3], .code (cd12 [1, 1, 1, 1, 1, 1])]) (us := [(30, .slice A17 t27.length c18)]) (by kernel_rfl) ?_
    obtain ⟨t32, hr35, hp36⟩ := bind_some' hp29
    refine r_call1 (c := (cd12 [1, 1, 1, 1, 1, 0])) (i := 1) (d := (some 31)) (g := 25) (args := #[.slice A17 t27.length c18]) (by kernel_rfl) (by kernel_rfl) (by kernel_rfl) (by kernel_rfl) (slices_Compact___api_Ref_api_Ref.ok t27 A17 c18 hS31 hr35) ?_
    rintro _ w38 ⟨Q33, Q34, rfl, hS39⟩
    refine ⟨.slice Q33 t32.length Q34, rfl, ?_⟩
    refine sx_run 3 (todo' := [.code (cd12 [1, 1, 1, 1, 1, 1])]) (us := [(2, .slice Q33 t32.length Q34), (3, .int .i64 0)]) (by kernel_rfl) ?_
    refine runs_ret (fn := Try.f12) (v := .tuple #[.slice Q33 t32.length Q34, .int .i64 0]) Try.func12 (by kernel_rfl) ?_
    have hr40 := (Option.some.inj hp36)
    cases hr40
    exact hR _ _ ⟨Q33, Q34, rfl, hS39⟩
   have L54 : ∀ (t41 : List api_Ref) (t45 : Int) (e49 : (List api_Ref)), cond_Refs.l0 a0 t41 t45 = some e49 → e49 = v13 → ∀ (l48 : List Value) (A42 : Option Addr) (c43 : Nat) (w46 : World) (hS47 : St w0 Z (xrow A42 c43 46 2 (t41.flatMap enc_api_Ref) :: fs) w46), Runs Try.prog 12 [.code (cd12 [1, 1, 1, 0, 1, 0, 0]), .inLoop (cd12 [1, 1, 1, 0, 1, 0, 0]), .inBlock 0, .code (cd12 [1, 1, 1, 1])] (fill [none, none, none, none, none, some (.slice A42 t41.length c43), none, none, none, none, none, none, none, some (.slice Aa0 a0.length ca0), some (.int .i64 (a0.length : Int)), some (.int .i64 t45), none, none, none, none, none, none, none, none, none, none, none, none, none, none, none, none] l48) w46 R := by
    refine cond_Refs.l0.partial_correctness a0 (fun t41 t45 e49 => e49 = v13 → ∀ (l48 : List Value) (A42 : Option Addr) (c43 : Nat) (w46 : World) (hS47 : St w0 Z (xrow A42 c43 46 2 (t41.flatMap enc_api_Ref) :: fs) w46), Runs Try.prog 12 [.code (cd12 [1, 1, 1, 0, 1, 0, 0]), .inLoop (cd12 [1, 1, 1, 0, 1, 0, 0]), .inBlock 0, .code (cd12 [1, 1, 1, 1])] (fill [none, none, none, none, none, some (.slice A42 t41.length c43), none, none, none, none, none, none, none, some (.slice Aa0 a0.length ca0), some (.int .i64 (a0.length : Int)), some (.int .i64 t45), none, none, none, none, none, none, none, none, none, none, none, none, none, none, none, none] l48) w46 R) ?_
    intro rec53 ih52 t41 t45 e49 hb51 he50 l48 A42 c43 w46 hS47
    refine sx_split 3 (todo' := [.inRegion (opsOf (cd12 [1, 1, 1, 0, 1, 0, 0, 0])) [], .code (cd12 [1, 1, 1, 0, 1, 0, 0, 1]), .inLoop (cd12 [1, 1, 1, 0, 1, 0, 0]), .inBlock 0, .code (cd12 [1, 1, 1, 1])]) (us := []) (d := 16) (t := (decide (t45 < (a0.length : Int)))) (by kernel_rfl) (fun h55 => ?_) (fun h56 => ?_)
    ·skip
     have hp57 := ite_t hb51 h55
     refine sx_run 8 (todo' := [.inRegion (opsOf (cd12 [1, 1, 1, 0, 1, 0, 0, 1, 1, 0, 0, 0])) [0, 1, 2, 3], .code (cd12 [1, 1, 1, 0, 1, 0, 0, 1, 1, 0, 0, 1]), .inBlock 1, .code (cd12 [1, 1, 1, 0, 1, 0, 0, 1, 1, 1]), .inLoop (cd12 [1, 1, 1, 0, 1, 0, 0]), .inBlock 0, .code (cd12 [1, 1, 1, 1])]) (us := []) (by kernel_rfl) ?_
     obtain ⟨g58, hp59⟩ := ite_some hp57
     obtain ⟨b60, p61, hA62, hc63⟩ := ha0.atF g58.1 g58.2
     refine r_indexAddr (c := (cd12 [1, 1, 1, 0, 1, 0, 0, 1, 1, 0, 0, 0])) (i := 0) (d := (some 17)) (ty := 0) (t := 23) (e := 52) (n := a0.length) (cp := ca0) (sz := 6) (kk := .i64) (x := (.tmp 13)) (y := (.tmp 15)) (b := b60) (o' := p61) (j := t45) (by kernel_rfl) (by kernel_rfl) (slv (by kernel_rfl) hA62) (by kernel_rfl) (by kernel_rfl) (by kernel_rfl) g58.1 g58.2 ?_
     refine r_load (c := (cd12 [1, 1, 1, 0, 1, 0, 0, 1, 1, 0, 0, 0])) (i := 1) (d := (some 18)) (ty := 52) (t := 52) (x := (.tmp 17)) (p := ⟨b60, p61 + t45.toNat * 6, none⟩) (v := .agg (enc_api_Node (gt a0 t45)).toArray) (by kernel_rfl) (by kernel_rfl) (by kernel_rfl) (loads_agg (hc63.cells hS47) (by kernel_rfl) (by kernel_rfl)) ?_
     refine r_alloc (c := (cd12 [1, 1, 1, 0, 1, 0, 0, 1, 1, 0, 0, 0])) (i := 2) (d := (some 7)) (ty := 0) (z := .agg (enc_api_Node (⟨0, 0, 0, ⟨0, (⟨#[]⟩ : ByteArray)⟩, 0⟩ : api_Node)).toArray) (t := 52) (cs := enc_api_Node (⟨0, 0, 0, ⟨0, (⟨#[]⟩ : ByteArray)⟩, 0⟩ : api_Node)) hS47 (by kernel_rfl) (by kernel_rfl) (by kernel_rfl) (by kernel_rfl) ?_
     intro b64 w65 hS66
     refine r_store (c := (cd12 [1, 1, 1, 0, 1, 0, 0, 1, 1, 0, 0, 0])) (i := 3) (d := none) (ty := 0) (t := 52) (x := (.tmp 7)) (y := (.tmp 18)) (b := b64) (o := 0) (e := 52) (cs := enc_api_Node (⟨0, 0, 0, ⟨0, (⟨#[]⟩ : ByteArray)⟩, 0⟩ : api_Node)) (v := .agg (enc_api_Node (gt a0 t45)).toArray) (vs := enc_api_Node (gt a0 t45)) (cs' := enc_api_Node (gt a0 t45)) hS66 (by kernel_rfl) (by kernel_rfl) (by kernel_rfl) (by kernel_rfl) (by kernel_rfl) (by kernel_rfl) (one_api_Node _) (Nat.le_of_ble_eq_true (by kernel_rfl)) (by kernel_rfl) ?_
     intro w68 hS69
     refine sx_run 4 (todo' := [.inRegion (opsOf (cd12 [1, 1, 1, 0, 1, 0, 0, 1, 1, 0, 0, 1, 0])) [1, 2], .code (cd12 [1, 1, 1, 0, 1, 0, 0, 1, 1, 0, 0, 1, 1]), .inBlock 1, .code (cd12 [1, 1, 1, 0, 1, 0, 0, 1, 1, 1]), .inLoop (cd12 [1, 1, 1, 0, 1, 0, 0]), .inBlock 0, .code (cd12 [1, 1, 1, 1])]) (us := [(19, .pointer (some ⟨b64, 0, none⟩))]) (by kernel_rfl) ?_
     refine r_load (c := (cd12 [1, 1, 1, 0, 1, 0, 0, 1, 1, 0, 0, 1, 0])) (i := 1) (d := (some 20)) (ty := 3) (t := 3) (x := (.tmp 19)) (p := ⟨b64, 0, none⟩) (v := .int .i64 ((gt a0 t45).Op)) (by kernel_rfl) (by kernel_rfl) (by kernel_rfl) (loads_at 0 (hS69.blk 0 rfl) (by kernel_rfl) (by kernel_rfl)) ?_
     refine sx_split 1 (todo' := [.inRegion (opsOf (cd12 [1, 1, 1, 0, 1, 0, 0, 1, 1, 0, 0, 1, 0])) [], .code (cd12 [1, 1, 1, 0, 1, 0, 0, 1, 1, 0, 0, 1, 1]), .inBlock 1, .code (cd12 [1, 1, 1, 0, 1, 0, 0, 1, 1, 1]), .inLoop (cd12 [1, 1, 1, 0, 1, 0, 0]), .inBlock 0, .code (cd12 [1, 1, 1, 1])]) (us := []) (d := 21) (t := (((gt a0 t45).Op) == 2)) (by kernel_rfl) (fun h70 => ?_) (fun h71 => ?_)
     ·skip
      have hp72 := ite_t hp59 h70
      refine sx_run 5 (todo' := [.inRegion (opsOf (cd12 [1, 1, 1, 0, 1, 0, 0, 1, 1, 0, 0, 1, 1, 0])) [2, 3, 4, 5], .inBlock 1, .code (cd12 [1, 1, 1, 0, 1, 0, 0, 1, 1, 1]), .inLoop (cd12 [1, 1, 1, 0, 1, 0, 0]), .inBlock 0, .code (cd12 [1, 1, 1, 1])]) (us := [(22, .slice A42 t41.length c43), (23, .pointer (some ⟨b64, 3, none⟩))]) (by kernel_rfl) ?_
      refine r_load (c := (cd12 [1, 1, 1, 0, 1, 0, 0, 1, 1, 0, 0, 1, 1, 0])) (i := 2) (d := (some 24)) (ty := 46) (t := 46) (x := (.tmp 23)) (p := ⟨b64, 3, none⟩) (v := .agg (enc_api_Ref ((gt a0 t45).Ref)).toArray) (by kernel_rfl) (by kernel_rfl) (by kernel_rfl) (loads_agg (sub_api_Node_Ref (hS69.blk 0 rfl)) (by kernel_rfl) (by kernel_rfl)) ?_
      refine r_lit (c := (cd12 [1, 1, 1, 0, 1, 0, 0, 1, 1, 0, 0, 1, 1, 0])) (i := 3) (d := (some 25)) (ty := 34) (t := 34) (e := 46) (sz := 2) (n := 1) (parts := #[(0, (.tmp 24))]) (vs := [(0, .agg (enc_api_Ref ((gt a0 t45).Ref)).toArray)]) (z := zeroOf Try.prog 46) (cs' := ([(gt a0 t45).Ref] : List api_Ref).flatMap enc_api_Ref) hS69 (by kernel_rfl) (by kernel_rfl) (by kernel_rfl) (by kernel_rfl) (by kernel_rfl) (by decide) (by decide) (by kernel_rfl) rfl (Parts.cons (c := enc_api_Ref ((gt a0 t45).Ref)) (by kernel_rfl) (len_api_Ref _) Parts.nil) rfl ?_
      intro b74 w75 hS76
      have hS77 := hS76.pick2
      obtain ⟨g78, hp79⟩ := ite_some hp72
      refine r_append (c := (cd12 [1, 1, 1, 0, 1, 0, 0, 1, 1, 0, 0, 1, 1, 0])) (i := 4) (d := (some 26)) (ty := 34) (enc := enc_api_Ref) (e := 46) (u := 46) (t := 34) (t2 := 34) (sz := 2) (cp := c43) (A := A42) (bytes := 24) (xs := t41) (ys := ([(gt a0 t45).Ref] : List api_Ref)) (s := (.tmp 22)) (x := (.tmp 25)) (xv := .slice (some ⟨b74, 0, none⟩) ([(gt a0 t45).Ref] : List api_Ref).length 1) (info := infoOf Try.prog 46) (z := zeroOf Try.prog 46) (ycs := ([(gt a0 t45).Ref] : List api_Ref).flatMap enc_api_Ref) hS77 (by kernel_rfl) (by kernel_rfl) (by kernel_rfl) (by kernel_rfl) (by kernel_rfl) (.inl (by kernel_rfl)) (by kernel_rfl) (by kernel_rfl) (by kernel_rfl) (by kernel_rfl) (by kernel_rfl) (by omega) len_api_Ref one_api_Ref (src_row (hS77.row 1 rfl) (by omega) len_api_Ref) rfl g78 (by omega) ?_
      intro A80 c81 w82 hS83
      refine sx_run 7 (todo' := [.inLoop (cd12 [1, 1, 1, 0, 1, 0, 0]), .inBlock 0, .code (cd12 [1, 1, 1, 1])]) (us := [(5, .slice A80 (t41 ++ ([(gt a0 t45).Ref] : List api_Ref)).length c81), (27, .int .i64 (IntKind.i64.wrap (t45 + 1))), (15, .int .i64 (IntKind.i64.wrap (t45 + 1)))]) (by kernel_rfl) ?_
      have hS85 := hS83.pick1
      have hS86 := hS85.drop
      have hS87 := hS86.pick1
      have hS88 := hS87.drop
      refine sx_run 1 (todo' := [.code (cd12 [1, 1, 1, 0, 1, 0, 0]), .inLoop (cd12 [1, 1, 1, 0, 1, 0, 0]), .inBlock 0, .code (cd12 [1, 1, 1, 1])]) (us := []) (by kernel_rfl) ?_
      refine Runs.fill (m := [none, none, none, none, none, some (.slice A80 (t41 ++ ([(gt a0 t45).Ref] : List api_Ref)).length c81), none, none, none, none, none, none, none, some (.slice Aa0 a0.length ca0), some (.int .i64 (a0.length : Int)), some (.int .i64 (IntKind.i64.wrap (t45 + 1))), none, none, none, none, none, none, none, none, none, none, none, none, none, none, none, none]) (by kernel_rfl) ?_
      exact ih52 (t41 ++ ([(gt a0 t45).Ref] : List api_Ref)) (IntKind.i64.wrap (t45 + 1)) _ hp79 he50 _ A80 c81 _ hS88
     ·skip
      have hp89 := ite_f hp59 h71
      refine sx_run 8 (todo' := [.inLoop (cd12 [1, 1, 1, 0, 1, 0, 0]), .inBlock 0, .code (cd12 [1, 1, 1, 1])]) (us := [(27, .int .i64 (IntKind.i64.wrap (t45 + 1))), (15, .int .i64 (IntKind.i64.wrap (t45 + 1)))]) (by kernel_rfl) ?_
      have hS90 := hS69.drop
      refine sx_run 1 (todo' := [.code (cd12 [1, 1, 1, 0, 1, 0, 0]), .inLoop (cd12 [1, 1, 1, 0, 1, 0, 0]), .inBlock 0, .code (cd12 [1, 1, 1, 1])]) (us := []) (by kernel_rfl) ?_
      refine Runs.fill (m := [none, none, none, none, none, some (.slice A42 t41.length c43), none, none, none, none, none, none, none, some (.slice Aa0 a0.length ca0), some (.int .i64 (a0.length : Int)), some (.int .i64 (IntKind.i64.wrap (t45 + 1))), none, none, none, none, none, none, none, none, none, none, none, none, none, none, none, none]) (by kernel_rfl) ?_
      exact ih52 t41 (IntKind.i64.wrap (t45 + 1)) _ hp89 he50 _ A42 c43 _ hS90
    ·skip
     have hp91 := ite_f hb51 h56
     refine sx_run 4 (todo' := [.code (cd12 [1, 1, 1, 1])]) (us := []) (by kernel_rfl) ?_
     refine Runs.fill (m := [none, none, none, none, none, some (.slice A42 t41.length c43), none, none, none, none, none, none, none, none, none, none, none, none, none, none, none, none, none, none, none, none, none, none, none, none, none, none]) (by kernel_rfl) ?_
     exact J22 t41 ((Option.some.inj hp91).trans he50) _ A42 c43 _ hS47
   have hS93 := hS5.nilrow none 46 2
   refine Runs.fill (m := [none, none, none, none, none, some (.slice none 0 0), none, none, none, none, none, none, none, some (.slice Aa0 a0.length ca0), some (.int .i64 (a0.length : Int)), some (.int .i64 0), none, none, none, none, none, none, none, none, none, none, none, none, none, none, none, none]) (by kernel_rfl) ?_
   exact L54 [] 0 _ hv14 rfl _ none 0 _ hS93

noncomputable def cd61 (p : List Nat) : Code := sub (bodyOf Try.f61) p
def weirref05_letter.f (a0 : Int) : Option Bool :=
  (if (decide (a0 ≥ 97)) = true then (if (decide (a0 ≤ 122)) = true then some (true) else (if (decide (a0 ≥ 65)) = true then (if (decide (a0 ≤ 90)) = true then some (true) else (if (a0 == 95) = true then some (true) else some (false))) else (if (a0 == 95) = true then some (true) else some (false)))) else (if (decide (a0 ≥ 65)) = true then (if (decide (a0 ≤ 90)) = true then some (true) else (if (a0 == 95) = true then some (true) else some (false))) else (if (a0 == 95) = true then some (true) else some (false))))
set_option maxHeartbeats 16000000 in
theorem weirref05_letter.ok (a0 : Int) {w0 : World} {Z : Zm} {fs : List XObj} {w : World} (hS0 : St w0 Z (fs) w) {q0 : Bool} (hp0 : weirref05_letter.f a0 = some q0) :
    Calls Try.prog 61 #[.int .u8 a0] w (fun e w' => e = .returned (.bool q0) ∧ St w0 Z (fs) w') := by
  refine calls_abs ?_; intro R hR
  unfold weirref05_letter.f at hp0
  refine calls_of_runs (fn := Try.f61) (c := cd61 []) Try.func61 (by kernel_rfl) (al := [.int .u8 a0]) rfl (n := 20) rfl ?_
  refine sx_split 8 (todo' := [.inRegion (opsOf (cd61 [1, 0])) [2, 3, 4, 5, 6, 7, 8, 9, 10, 11, 12, 13, 14, 15, 16, 17, 18], .code (cd61 [1, 1])]) (us := [(2, .bool false), (3, .int .u8 a0)]) (d := 4) (t := (decide (a0 ≥ 97))) (by kernel_rfl) (fun h1 => ?_) (fun h2 => ?_)
  ·skip
   have hp3 := ite_t hp0 h1
   refine sx_split 3 (todo' := [.inRegion (opsOf (cd61 [1, 0])) [5, 6, 7, 8, 9, 10, 11, 12, 13, 14, 15, 16, 17, 18], .code (cd61 [1, 1])]) (us := [(5, .bool true), (6, .int .u8 a0)]) (d := 7) (t := (decide (a0 ≤ 122))) (by kernel_rfl) (fun h4 => ?_) (fun h5 => ?_)
   ·skip
    have hp6 := ite_t hp3 h4
    refine sx_run 15 (todo' := [.code (cd61 [1, 1])]) (us := [(8, .bool true), (9, .bool true), (10, undef), (11, undef), (12, undef), (13, undef), (14, undef), (15, undef), (16, .bool true), (17, .bool true), (18, undef), (19, undef), (20, .bool true), (2, .bool true)]) (by kernel_rfl) ?_
    refine runs_ret (fn := Try.f61) (v := .bool true) Try.func61 (by kernel_rfl) ?_
    have hr7 := (Option.some.inj hp6)
    cases hr7
    exact hR _ _ ⟨rfl, hS0⟩
   ·skip
    have hp8 := ite_f hp3 h5
    refine sx_split 4 (todo' := [.inRegion (opsOf (cd61 [1, 0])) [9, 10, 11, 12, 13, 14, 15, 16, 17, 18], .code (cd61 [1, 1])]) (us := [(8, .bool false), (9, .bool false), (10, .int .u8 a0)]) (d := 11) (t := (decide (a0 ≥ 65))) (by kernel_rfl) (fun h9 => ?_) (fun h10 => ?_)
    ·skip
     have hp11 := ite_t hp8 h9
     refine sx_split 3 (todo' := [.inRegion (opsOf (cd61 [1, 0])) [12, 13, 14, 15, 16, 17, 18], .code (cd61 [1, 1])]) (us := [(12, .bool true), (13, .int .u8 a0)]) (d := 14) (t := (decide (a0 ≤ 90))) (by kernel_rfl) (fun h12 => ?_) (fun h13 => ?_)
     ·skip
      have hp14 := ite_t hp11 h12
      refine sx_run 8 (todo' := [.code (cd61 [1, 1])]) (us := [(15, .bool true), (16, .bool true), (17, .bool true), (18, undef), (19, undef), (20, .bool true), (2, .bool true)]) (by kernel_rfl) ?_
      refine runs_ret (fn := Try.f61) (v := .bool true) Try.func61 (by kernel_rfl) ?_
      have hr15 := (Option.some.inj hp14)
      cases hr15
      exact hR _ _ ⟨rfl, hS0⟩
     ·skip
      have hp16 := ite_f hp11 h13
      refine sx_split 5 (todo' := [.inRegion (opsOf (cd61 [1, 0])) [17, 18], .code (cd61 [1, 1])]) (us := [(15, .bool false), (16, .bool false), (17, .bool false), (18, .int .u8 a0)]) (d := 19) (t := (a0 == 95)) (by kernel_rfl) (fun h17 => ?_) (fun h18 => ?_)
      ·skip
       have hp19 := ite_t hp16 h17
       refine sx_run 3 (todo' := [.code (cd61 [1, 1])]) (us := [(20, .bool true), (2, .bool true)]) (by kernel_rfl) ?_
       refine runs_ret (fn := Try.f61) (v := .bool true) Try.func61 (by kernel_rfl) ?_
       have hr20 := (Option.some.inj hp19)
       cases hr20
       exact hR _ _ ⟨rfl, hS0⟩
      ·skip
       have hp21 := ite_f hp16 h18
       refine sx_run 3 (todo' := [.code (cd61 [1, 1])]) (us := [(20, .bool false), (2, .bool false)]) (by kernel_rfl) ?_
       refine runs_ret (fn := Try.f61) (v := .bool false) Try.func61 (by kernel_rfl) ?_
       have hr22 := (Option.some.inj hp21)
       cases hr22
       exact hR _ _ ⟨rfl, hS0⟩
    ·skip
     have hp23 := ite_f hp8 h10
     refine sx_split 8 (todo' := [.inRegion (opsOf (cd61 [1, 0])) [17, 18], .code (cd61 [1, 1])]) (us := [(12, .bool false), (13, undef), (14, undef), (15, .bool false), (16, .bool false), (17, .bool false), (18, .int .u8 a0)]) (d := 19) (t := (a0 == 95)) (by kernel_rfl) (fun h24 => ?_) (fun h25 => ?_)
     ·skip
      have hp26 := ite_t hp23 h24
      refine sx_run 3 (todo' := [.code (cd61 [1, 1])]) (us := [(20, .bool true), (2, .bool true)]) (by kernel_rfl) ?_
      refine runs_ret (fn := Try.f61) (v := .bool true) Try.func61 (by kernel_rfl) ?_
      have hr27 := (Option.some.inj hp26)
      cases hr27
      exact hR _ _ ⟨rfl, hS0⟩
     ·skip
      have hp28 := ite_f hp23 h25
      refine sx_run 3 (todo' := [.code (cd61 [1, 1])]) (us := [(20, .bool false), (2, .bool false)]) (by kernel_rfl) ?_
      refine runs_ret (fn := Try.f61) (v := .bool false) Try.func61 (by kernel_rfl) ?_
      have hr29 := (Option.some.inj hp28)
      cases hr29
      exact hR _ _ ⟨rfl, hS0⟩
  ·skip
   have hp30 := ite_f hp0 h2
   refine sx_split 7 (todo' := [.inRegion (opsOf (cd61 [1, 0])) [9, 10, 11, 12, 13, 14, 15, 16, 17, 18], .code (cd61 [1, 1])]) (us := [(5, .bool false), (6, undef), (7, undef), (8, .bool false), (9, .bool false), (10, .int .u8 a0)]) (d := 11) (t := (decide (a0 ≥ 65))) (by kernel_rfl) (fun h31 => ?_) (fun h32 => ?_)
   ·skip
    have hp33 := ite_t hp30 h31
    refine sx_split 3 (todo' := [.inRegion (opsOf (cd61 [1, 0])) [12, 13, 14, 15, 16, 17, 18], .code (cd61 [1, 1])]) (us := [(12, .bool true), (13, .int .u8 a0)]) (d := 14) (t := (decide (a0 ≤ 90))) (by kernel_rfl) (fun h34 => ?_) (fun h35 => ?_)
    ·skip
     have hp36 := ite_t hp33 h34
     refine sx_run 8 (todo' := [.code (cd61 [1, 1])]) (us := [(15, .bool true), (16, .bool true), (17, .bool true), (18, undef), (19, undef), (20, .bool true), (2, .bool true)]) (by kernel_rfl) ?_
     refine runs_ret (fn := Try.f61) (v := .bool true) Try.func61 (by kernel_rfl) ?_
     have hr37 := (Option.some.inj hp36)
     cases hr37
     exact hR _ _ ⟨rfl, hS0⟩
    ·skip
     have hp38 := ite_f hp33 h35
     refine sx_split 5 (todo' := [.inRegion (opsOf (cd61 [1, 0])) [17, 18], .code (cd61 [1, 1])]) (us := [(15, .bool false), (16, .bool false), (17, .bool false), (18, .int .u8 a0)]) (d := 19) (t := (a0 == 95)) (by kernel_rfl) (fun h39 => ?_) (fun h40 => ?_)
     ·skip
      have hp41 := ite_t hp38 h39
      refine sx_run 3 (todo' := [.code (cd61 [1, 1])]) (us := [(20, .bool true), (2, .bool true)]) (by kernel_rfl) ?_
      refine runs_ret (fn := Try.f61) (v := .bool true) Try.func61 (by kernel_rfl) ?_
      have hr42 := (Option.some.inj hp41)
      cases hr42
      exact hR _ _ ⟨rfl, hS0⟩
     ·skip
      have hp43 := ite_f hp38 h40
      refine sx_run 3 (todo' := [.code (cd61 [1, 1])]) (us := [(20, .bool false), (2, .bool false)]) (by kernel_rfl) ?_
      refine runs_ret (fn := Try.f61) (v := .bool false) Try.func61 (by kernel_rfl) ?_
      have hr44 := (Option.some.inj hp43)
      cases hr44
      exact hR _ _ ⟨rfl, hS0⟩
   ·skip
    have hp45 := ite_f hp30 h32
    refine sx_split 8 (todo' := [.inRegion (opsOf (cd61 [1, 0])) [17, 18], .code (cd61 [1, 1])]) (us := [(12, .bool false), (13, undef), (14, undef), (15, .bool false), (16, .bool false), (17, .bool false), (18, .int .u8 a0)]) (d := 19) (t := (a0 == 95)) (by kernel_rfl) (fun h46 => ?_) (fun h47 => ?_)
    ·skip
     have hp48 := ite_t hp45 h46
     refine sx_run 3 (todo' := [.code (cd61 [1, 1])]) (us := [(20, .bool true), (2, .bool true)]) (by kernel_rfl) ?_
     refine runs_ret (fn := Try.f61) (v := .bool true) Try.func61 (by kernel_rfl) ?_
     have hr49 := (Option.some.inj hp48)
     cases hr49
     exact hR _ _ ⟨rfl, hS0⟩
    ·skip
     have hp50 := ite_f hp45 h47
     refine sx_run 3 (todo' := [.code (cd61 [1, 1])]) (us := [(20, .bool false), (2, .bool false)]) (by kernel_rfl) ?_
     refine runs_ret (fn := Try.f61) (v := .bool false) Try.func61 (by kernel_rfl) ?_
     have hr51 := (Option.some.inj hp50)
     cases hr51
     exact hR _ _ ⟨rfl, hS0⟩

noncomputable def cd62 (p : List Nat) : Code := sub (bodyOf Try.f62) p
def weirref05_digit.f (a0 : Int) : Option Bool :=
  (if (decide (a0 ≥ 48)) = true then (if (decide (a0 ≤ 57)) = true then some (true) else some (false)) else some (false))
set_option maxHeartbeats 16000000 in
theorem weirref05_digit.ok (a0 : Int) {w0 : World} {Z : Zm} {fs : List XObj} {w : World} (hS0 : St w0 Z (fs) w) {q0 : Bool} (hp0 : weirref05_digit.f a0 = some q0) :
    Calls Try.prog 62 #[.int .u8 a0] w (fun e w' => e = .returned (.bool q0) ∧ St w0 Z (fs) w') := by
  refine calls_abs ?_; intro R hR
  unfold weirref05_digit.f at hp0
  refine calls_of_runs (fn := Try.f62) (c := cd62 []) Try.func62 (by kernel_rfl) (al := [.int .u8 a0]) rfl (n := 8) rfl ?_
  refine sx_split 8 (todo' := [.inRegion (opsOf (cd62 [1, 0])) [2, 3, 4, 5, 6], .code (cd62 [1, 1])]) (us := [(2, .bool false), (3, .int .u8 a0)]) (d := 4) (t := (decide (a0 ≥ 48))) (by kernel_rfl) (fun h1 => ?_) (fun h2 => ?_)
  ·skip
   have hp3 := ite_t hp0 h1
   refine sx_split 3 (todo' := [.inRegion (opsOf (cd62 [1, 0])) [5, 6], .code (cd62 [1, 1])]) (us := [(5, .bool true), (6, .int .u8 a0)]) (d := 7) (t := (decide (a0 ≤ 57))) (by kernel_rfl) (fun h4 => ?_) (fun h5 => ?_)
   ·skip
    have hp6 := ite_t hp3 h4
    refine sx_run 3 (todo' := [.code (cd62 [1, 1])]) (us := [(8, .bool true), (2, .bool true)]) (by kernel_rfl) ?_
    refine runs_ret (fn := Try.f62) (v := .bool true) Try.func62 (by kernel_rfl) ?_
    have hr7 := (Option.some.inj hp6)
    cases hr7
    exact hR _ _ ⟨rfl, hS0⟩
   ·skip
    have hp8 := ite_f hp3 h5
    refine sx_run 3 (todo' := [.code (cd62 [1, 1])]) (us := [(8, .bool false), (2, .bool false)]) (by kernel_rfl) ?_
    refine runs_ret (fn := Try.f62) (v := .bool false) Try.func62 (by kernel_rfl) ?_
    have hr9 := (Option.some.inj hp8)
    cases hr9
    exact hR _ _ ⟨rfl, hS0⟩
  ·skip
   have hp10 := ite_f hp0 h2
   refine sx_run 6 (todo' := [.code (cd62 [1, 1])]) (us := [(5, .bool false), (6, undef), (7, undef), (8, .bool false), (2, .bool false)]) (by kernel_rfl) ?_
   refine runs_ret (fn := Try.f62) (v := .bool false) Try.func62 (by kernel_rfl) ?_
   have hr11 := (Option.some.inj hp10)
   cases hr11
   exact hR _ _ ⟨rfl, hS0⟩

noncomputable def cd53 (p : List Nat) : Code := sub (bodyOf Try.f53) p
def weirref05_name.l0 (a0 : ByteArray) (a1 : Int) (t28 : Int) : Option Int :=
  (if (decide ((IntKind.i64.wrap (a1 + t28)) < (a0.size : Int))) = true then (if 0 ≤ (IntKind.i64.wrap (a1 + t28)) ∧ (IntKind.i64.wrap (a1 + t28)) < (a0.size : Int) then (weirref05_letter.f (byt a0 (IntKind.i64.wrap (a1 + t28))) >>= (fun t43 => (((if t43 = true then some (true) else (weirref05_digit.f (byt a0 (IntKind.i64.wrap (a1 + t28))) >>= (fun t119 => (if t119 = true then some (true) else (if ((byt a0 (IntKind.i64.wrap (a1 + t28))) == 46) = true then some (true) else some (false)))))) : Option Bool) >>= (fun t51 => (((if ((byt a0 (IntKind.i64.wrap (a1 + t28))) == 43) = true then (if (decide ((IntKind.i64.wrap ((IntKind.i64.wrap (a1 + t28)) + 1)) < (a0.size : Int))) = true then (if 0 ≤ (IntKind.i64.wrap ((IntKind.i64.wrap (a1 + t28)) + 1)) ∧ (IntKind.i64.wrap ((IntKind.i64.wrap (a1 + t28)) + 1)) < (a0.size : Int) then (weirref05_letter.f (byt a0 (IntKind.i64.wrap ((IntKind.i64.wrap (a1 + t28)) + 1))) >>= (fun t78 => (if t78 = true then some (true) else (if 0 ≤ (IntKind.i64.wrap ((IntKind.i64.wrap (a1 + t28)) + 1)) ∧ (IntKind.i64.wrap ((IntKind.i64.wrap (a1 + t28)) + 1)) < (a0.size : Int) then (weirref05_digit.f (byt a0 (IntKind.i64.wrap ((IntKind.i64.wrap (a1 + t28)) + 1))) >>= (fun t86 => some (t86))) else none)))) else none) else some (t51)) else (if ((byt a0 (IntKind.i64.wrap (a1 + t28))) == 45) = true then (if (decide ((IntKind.i64.wrap ((IntKind.i64.wrap (a1 + t28)) + 1)) < (a0.size : Int))) = true then (if 0 ≤ (IntKind.i64.wrap ((IntKind.i64.wrap (a1 + t28)) + 1)) ∧ (IntKind.i64.wrap ((IntKind.i64.wrap (a1 + t28)) + 1)) < (a0.size : Int) then (weirref05_letter.f (byt a0 (IntKind.i64.wrap ((IntKind.i64.wrap (a1 + t28)) + 1))) >>= (fun t102 => (if t102 = true then some (true) else (if 0 ≤ (IntKind.i64.wrap ((IntKind.i64.wrap (a1 + t28)) + 1)) ∧ (IntKind.i64.wrap ((IntKind.i64.wrap (a1 + t28)) + 1)) < (a0.size : Int) then (weirref05_digit.f (byt a0 (IntKind.i64.wrap ((IntKind.i64.wrap (a1 + t28)) + 1))) >>= (fun t110 => some (t110))) else none)))) else none) else some (t51)) else some (t51))) : Option Bool) >>= (fun t60 => (if (!t60) = true then some (t28) else (weirref05_name.l0 a0 a1 (IntKind.i64.wrap (t28 + 1)))))))))) else none) else some (t28))
 partial_fixpoint
def weirref05_name.f (a0 : ByteArray) (a1 : Int) : Option Int :=
  (if (decide (a1 ≥ (a0.size : Int))) = true then some (0) else (if 0 ≤ a1 ∧ a1 < (a0.size : Int) then (weirref05_letter.f (byt a0 a1) >>= (fun t8 => (if (!t8) = true then some (0) else (weirref05_name.l0 a0 a1 1 >>= (fun t21 => some (t21)))))) else none))
set_option maxHeartbeats 16000000 in
theorem weirref05_name.ok (a0 : ByteArray) (a1 : Int) {w0 : World} {Z : Zm} {fs : List XObj} {w : World} (hS0 : St w0 Z (fs) w) {q0 : Int} (hp0 : weirref05_name.f a0 a1 = some q0) :
    Calls Try.prog 53 #[.string a0, .int .i64 a1] w (fun e w' => e = .returned (.int .i64 q0) ∧ St w0 Z (fs) w') := by
  refine calls_abs ?_; intro R hR
  unfold weirref05_name.f at hp0
  refine calls_of_runs (fn := Try.f53) (c := cd53 []) Try.func53 (by kernel_rfl) (al := [.string a0, .int .i64 a1]) rfl (n := 74) rfl ?_
  refine sx_split 11 (todo' := [.inRegion (opsOf (cd53 [1, 0, 0])) [4, 5, 6, 7, 8, 9, 10], .code (cd53 [1, 0, 1]), .code (cd53 [1, 1])]) (us := [(4, .int .i64 0), (8, .int .i64 a1), (9, .string a0), (10, .int .i64 (a0.size : Int))]) (d := 11) (t := (decide (a1 ≥ (a0.size : Int)))) (by kernel_rfl) (fun h1 => ?_) (fun h2 => ?_)
  ·skip
   have hp3 := ite_t hp0 h1
   refine sx_run 13 (todo' := [.code (cd53 [1, 0, 1, 0, 1]), .code (cd53 [1, 1])]) (us := [(12, .bool true), (13, undef), (14, undef), (15, undef), (16, undef), (17, undef), (18, .bool true), (4, .int .i64 0)]) (by kernel_rfl) ?_
   refine runs_ret (fn := Try.f53) (v := .int .i64 0) Try.func53 (by kernel_rfl) ?_
   have hr4 := (Option.some.inj hp3)
   cases hr4
   exact hR _ _ ⟨rfl, hS0⟩
  ·skip
   have hp5 := ite_f hp0 h2
   refine sx_run 3 (todo' := [.inRegion (opsOf (cd53 [1, 0, 0])) [7, 8, 9, 10], .code (cd53 [1, 0, 1]), .code (cd53 [1, 1])]) (us := [(12, .bool false), (13, .string a0), (14, .int .i64 a1)]) (by kernel_rfl) ?_
   obtain ⟨g6, hp7⟩ := ite_some hp5
   refine r_val (c := (cd53 [1, 0, 0])) (i := 7) (d := (some 15)) (ty := 5) (op := .index 9 (.tmp 13) (.tmp 14)) (v := .int .u8 (byt a0 a1)) (by kernel_rfl) (by kernel_rfl) (fun o ho _ => x_indexStr (kk := .i64) (by kernel_rfl) (by kernel_rfl) (by kernel_rfl) g6.1 g6.2 ho) ?_
   obtain ⟨t8, hr9, hp10⟩ := bind_some' hp7
   refine r_call1 (c := (cd53 [1, 0, 0])) (i := 8) (d := (some 16)) (g := 61) (args := #[.int .u8 (byt a0 a1)]) (by kernel_rfl) (by kernel_rfl) (by kernel_rfl) (by kernel_rfl) (weirref05_letter.ok (byt a0 a1) hS0 hr9) ?_
   rintro _ w11 ⟨rfl, hS12⟩
   refine ⟨.bool t8, rfl, ?_⟩
   refine sx_split 1 (todo' := [.inRegion (opsOf (cd53 [1, 0, 0])) [10], .code (cd53 [1, 0, 1]), .code (cd53 [1, 1])]) (us := []) (d := 17) (t := (!t8)) (by kernel_rfl) (fun h13 => ?_) (fun h14 => ?_)
   ·skip
    have hp15 := ite_t hp10 h13
    refine sx_run 7 (todo' := [.code (cd53 [1, 0, 1, 0, 1]), .code (cd53 [1, 1])]) (us := [(18, .bool true), (4, .int .i64 0)]) (by kernel_rfl) ?_
    refine runs_ret (fn := Try.f53) (v := .int .i64 0) Try.func53 (by kernel_rfl) ?_
    have hr16 := (Option.some.inj hp15)
    cases hr16
    exact hR _ _ ⟨rfl, hS12⟩
   ·skip
    have hp17 := ite_f hp10 h14
    refine sx_run 11 (todo' := [.code (cd53 [1, 1, 1, 0, 0, 0]), .inLoop (cd53 [1, 1, 1, 0, 0, 0]), .inBlock 0, .code (cd53 [1, 1, 1, 1])]) (us := [(18, .bool false), (5, .int .i64 1)]) (by kernel_rfl) ?_
    obtain ⟨v18, hv19, hp20⟩ := bind_some' hp17
    have J24 : ∀ (t21 : Int) (he26 : t21 = v18) (l25 : List Value) (w22 : World) (hS23 : St w0 Z (fs) w22), Runs Try.prog 53 [.code (cd53 [1, 1, 1, 1])] (fill [none, none, none, none, none, some (.int .i64 t21), none, none, none, none, none, none, none, none, none, none, none, none, none, none, none, none, none, none, none, none, none, none, none, none, none, none, none, none, none, none, none, none, none, none, none, none, none, none, none, none, none, none, none, none, none, none, none, none, none, none, none, none, none, none, none, none, none, none, none, none, none, none, none, none, none, none, none, none, none, none] l25) w22 R := by
     intro t21 he26 l25 w22 hS23
     subst he26
     try dsimp only at hp20
     refine sx_run 5 (todo' := [.code (cd53 [1, 1, 1, 1, 1])]) (us := [(75, .int .i64 t21), (4, .int .i64 t21)]) (by kernel_rfl) ?_
     refine runs_ret (fn := Try.f53) (v := .int .i64 t21) Try.func53 (by kernel_rfl) ?_
     have hr27 := (Option.some.inj hp20)
     cases hr27
     exact hR _ _ ⟨rfl, hS23⟩
    have L37 : ∀ (t28 : Int) (e32 : Int), weirref05_name.l0 a0 a1 t28 = some e32 → e32 = v18 → ∀ (l31 : List Value) (w29 : World) (hS30 : St w0 Z (fs) w29), Runs Try.prog 53 [.code (cd53 [1, 1, 1, 0, 0, 0]), .inLoop (cd53 [1, 1, 1, 0, 0, 0]), .inBlock 0, .code (cd53 [1, 1, 1, 1])] (fill [some (.string a0), some (.int .i64 a1), none, none, none, some (.int .i64 t28), none, none, none, none, none, none, none, none, none, none, none, none, none, none, none, none, none, none, none, none, none, none, none, none, none, none, none, none, none, none, none, none, none, none, none, none, none, none, none, none, none, none, none, none, none, none, none, none, none, none, none, none, none, none, none, none, none, none, none, none, none, none, none, none, none, none, none, none, none, none] l31) w29 R := by
     refine weirref05_name.l0.partial_correctness a0 a1 (fun t28 e32 => e32 = v18 → ∀ (l31 : List Value) (w29 : World) (hS30 : St w0 Z (fs) w29), Runs Try.prog 53 [.code (cd53 [1, 1, 1, 0, 0, 0]), .inLoop (cd53 [1, 1, 1, 0, 0, 0]), .inBlock 0, .code (cd53 [1, 1, 1, 1])] (fill [some (.string a0), some (.int .i64 a1), none, none, none, some (.int .i64 t28), none, none, none, none, none, none, none, none, none, none, none, none, none, none, none, none, none, none, none, none, none, none, none, none, none, none, none, none, none, none, none, none, none, none, none, none, none, none, none, none, none, none, none, none, none, none, none, none, none, none, none, none, none, none, none, none, none, none, none, none, none, none, none, none, none, none, none, none, none, none] l31) w29 R) ?_
     intro rec36 ih35 t28 e32 hb34 he33 l31 w29 hS30
     refine sx_split 9 (todo' := [.inRegion (opsOf (cd53 [1, 1, 1, 0, 0, 0, 0, 0])) [], .code (cd53 [1, 1, 1, 0, 0, 0, 0, 1]), .code (cd53 [1, 1, 1, 0, 0, 0, 1]), .inLoop (cd53 [1, 1, 1, 0, 0, 0]), .inBlock 0, .code (cd53 [1, 1, 1, 1])]) (us := [(19, .int .i64 a1), (20, .int .i64 t28), (21, .int .i64 (IntKind.i64.wrap (a1 + t28))), (22, .string a0), (23, .int .i64 (a0.size : Int))]) (d := 24) (t := (decide ((IntKind.i64.wrap (a1 + t28)) < (a0.size : Int)))) (by kernel_rfl) (fun h38 => ?_) (fun h39 => ?_)
     ·skip
      have hp40 := ite_t hb34 h38
      refine sx_run 10 (todo' := [.inRegion (opsOf (cd53 [1, 1, 1, 0, 0, 0, 1, 0, 0])) [4, 5], .code (cd53 [1, 1, 1, 0, 0, 0, 1, 0, 1]), .inBlock 1, .inLoop (cd53 [1, 1, 1, 0, 0, 0]), .inBlock 0, .code (cd53 [1, 1, 1, 1])]) (us := [(25, .string a0), (26, .int .i64 a1), (27, .int .i64 t28), (28, .int .i64 (IntKind.i64.wrap (a1 + t28)))]) (by kernel_rfl) ?_
      obtain ⟨g41, hp42⟩ := ite_some hp40
      refine r_val (c := (cd53 [1, 1, 1, 0, 0, 0, 1, 0, 0])) (i := 4) (d := (some 29)) (ty := 5) (op := .index 9 (.tmp 25) (.tmp 28)) (v := .int .u8 (byt a0 (IntKind.i64.wrap (a1 + t28)))) (by kernel_rfl) (by kernel_rfl) (fun o ho _ => x_indexStr (kk := .i64) (by kernel_rfl) (by kernel_rfl) (by kernel_rfl) g41.1 g41.2 ho) ?_
      refine sx_run 5 (todo' := [.inRegion (opsOf (cd53 [1, 1, 1, 0, 0, 0, 1, 0, 1, 0])) [1, 2, 3, 4, 5, 6, 7, 8, 9, 10], .code (cd53 [1, 1, 1, 0, 0, 0, 1, 0, 1, 1]), .inBlock 1, .inLoop (cd53 [1, 1, 1, 0, 0, 0]), .inBlock 0, .code (cd53 [1, 1, 1, 1])]) (us := [(6, .int .u8 (byt a0 (IntKind.i64.wrap (a1 + t28)))), (30, .int .u8 (byt a0 (IntKind.i64.wrap (a1 + t28))))]) (by kernel_rfl) ?_
      obtain ⟨t43, hr44, hp45⟩ := bind_some' hp42
      refine r_call1 (c := (cd53 [1, 1, 1, 0, 0, 0, 1, 0, 1, 0])) (i := 1) (d := (some 31)) (g := 61) (args := #[.int .u8 (byt a0 (IntKind.i64.wrap (a1 + t28)))]) (by kernel_rfl) (by kernel_rfl) (by kernel_rfl) (by kernel_rfl) (weirref05_letter.ok (byt a0 (IntKind.i64.wrap (a1 + t28))) hS30 hr44) ?_
      rintro _ w46 ⟨rfl, hS47⟩
      refine ⟨.bool t43, rfl, ?_⟩
      refine sx_run 1 (todo' := [.inRegion (opsOf (cd53 [1, 1, 1, 0, 0, 0, 1, 0, 1, 0])) [3, 4, 5, 6, 7, 8, 9, 10], .code (cd53 [1, 1, 1, 0, 0, 0, 1, 0, 1, 1]), .inBlock 1, .inLoop (cd53 [1, 1, 1, 0, 0, 0]), .inBlock 0, .code (cd53 [1, 1, 1, 1])]) (us := [(32, .bool t43)]) (by kernel_rfl) ?_
      obtain ⟨v48, hv49, hp50⟩ := bind_some' hp45
      have J54 : ∀ (t51 : Bool) (he56 : t51 = v48) (l55 : List Value) (w52 : World) (hS53 : St w0 Z (fs) w52), Runs Try.prog 53 [.code (cd53 [1, 1, 1, 0, 0, 0, 1, 0, 1, 1, 0, 0]), .code (cd53 [1, 1, 1, 0, 0, 0, 1, 0, 1, 1, 0, 1]), .code (cd53 [1, 1, 1, 0, 0, 0, 1, 0, 1, 1, 1]), .inBlock 1, .inLoop (cd53 [1, 1, 1, 0, 0, 0]), .inBlock 0, .code (cd53 [1, 1, 1, 1])] (fill [some (.string a0), some (.int .i64 a1), none, none, none, some (.int .i64 t28), some (.int .u8 (byt a0 (IntKind.i64.wrap (a1 + t28)))), some (.bool t51), none, none, none, none, none, none, none, none, none, none, none, none, none, none, none, none, none, none, none, none, none, none, none, none, none, none, none, none, none, none, none, none, none, none, none, none, none, none, none, none, none, none, none, none, none, none, none, none, none, none, none, none, none, none, none, none, none, none, none, none, none, none, none, none, none, none, none, none] l55) w52 R := by
       intro t51 he56 l55 w52 hS53
       subst he56
       try dsimp only at hp50
       obtain ⟨v57, hv58, hp59⟩ := bind_some' hp50
       have J63 : ∀ (t60 : Bool) (he65 : t60 = v57) (l64 : List Value) (w61 : World) (hS62 : St w0 Z (fs) w61), Runs Try.prog 53 [.code (cd53 [1, 1, 1, 0, 0, 0, 1, 0, 1, 1, 1]), .inBlock 1, .inLoop (cd53 [1, 1, 1, 0, 0, 0]), .inBlock 0, .code (cd53 [1, 1, 1, 1])] (fill [some (.string a0), some (.int .i64 a1), none, none, none, some (.int .i64 t28), none, some (.bool t60), none, none, none, none, none, none, none, none, none, none, none, none, none, none, none, none, none, none, none, none, none, none, none, none, none, none, none, none, none, none, none, none, none, none, none, none, none, none, none, none, none, none, none, none, none, none, none, none, none, none, none, none, none, none, none, none, none, none, none, none, none, none, none, none, none, none, none, none] l64) w61 R := by
        intro t60 he65 l64 w61 hS62
        subst he65
        try dsimp only at hp59
        refine sx_split 5 (todo' := [.inRegion (opsOf (cd53 [1, 1, 1, 0, 0, 0, 1, 0, 1, 1, 1, 0, 0])) [], .code (cd53 [1, 1, 1, 0, 0, 0, 1, 0, 1, 1, 1, 0, 1]), .code (cd53 [1, 1, 1, 0, 0, 0, 1, 0, 1, 1, 1, 1]), .inBlock 1, .inLoop (cd53 [1, 1, 1, 0, 0, 0]), .inBlock 0, .code (cd53 [1, 1, 1, 1])]) (us := [(71, .bool t60)]) (d := 72) (t := (!t60)) (by kernel_rfl) (fun h66 => ?_) (fun h67 => ?_)
        ·skip
         have hp68 := ite_t hp59 h66
         refine sx_run 3 (todo' := [.code (cd53 [1, 1, 1, 1])]) (us := []) (by kernel_rfl) ?_
         refine Runs.fill (m := [none, none, none, none, none, some (.int .i64 t28), none, none, none, none, none, none, none, none, none, none, none, none, none, none, none, none, none, none, none, none, none, none, none, none, none, none, none, none, none, none, none, none, none, none, none, none, none, none, none, none, none, none, none, none, none, none, none, none, none, none, none, none, none, none, none, none, none, none, none, none, none, none, none, none, none, none, none, none, none, none]) (by kernel_rfl) ?_
         exact J24 t28 ((Option.some.inj hp68).trans he33) _ _ hS62
        ·skip
         have hp69 := ite_f hp59 h67
         refine sx_run 9 (todo' := [.inLoop (cd53 [1, 1, 1, 0, 0, 0]), .inBlock 0, .code (cd53 [1, 1, 1, 1])]) (us := [(73, .int .i64 t28), (74, .int .i64 (IntKind.i64.wrap (t28 + 1))), (5, .int .i64 (IntKind.i64.wrap (t28 + 1)))]) (by kernel_rfl) ?_
         refine sx_run 1 (todo' := [.code (cd53 [1, 1, 1, 0, 0, 0]), .inLoop (cd53 [1, 1, 1, 0, 0, 0]), .inBlock 0, .code (cd53 [1, 1, 1, 1])]) (us := []) (by kernel_rfl) ?_
         refine Runs.fill (m := [some (.string a0), some (.int .i64 a1), none, none, none, some (.int .i64 (IntKind.i64.wrap (t28 + 1))), none, none, none, none, none, none, none, none, none, none, none, none, none, none, none, none, none, none, none, none, none, none, none, none, none, none, none, none, none, none, none, none, none, none, none, none, none, none, none, none, none, none, none, none, none, none, none, none, none, none, none, none, none, none, none, none, none, none, none, none, none, none, none, none, none, none, none, none, none, none]) (by kernel_rfl) ?_
         exact ih35 (IntKind.i64.wrap (t28 + 1)) _ hp69 he33 _ _ hS62
       refine sx_split 3 (todo' := [.inRegion (opsOf (cd53 [1, 1, 1, 0, 0, 0, 1, 0, 1, 1, 0, 0])) [2, 3, 4, 5, 6, 7, 8, 9, 10, 11, 12, 13, 14], .code (cd53 [1, 1, 1, 0, 0, 0, 1, 0, 1, 1, 0, 1]), .code (cd53 [1, 1, 1, 0, 0, 0, 1, 0, 1, 1, 1]), .inBlock 1, .inLoop (cd53 [1, 1, 1, 0, 0, 0]), .inBlock 0, .code (cd53 [1, 1, 1, 1])]) (us := [(40, .int .u8 (byt a0 (IntKind.i64.wrap (a1 + t28))))]) (d := 41) (t := ((byt a0 (IntKind.i64.wrap (a1 + t28))) == 43)) (by kernel_rfl) (fun h70 => ?_) (fun h71 => ?_)
       ·skip
        have hp72 := ite_t hv58 h70
        refine sx_split 12 (todo' := [.inRegion (opsOf (cd53 [1, 1, 1, 0, 0, 0, 1, 0, 1, 1, 0, 0])) [14], .code (cd53 [1, 1, 1, 0, 0, 0, 1, 0, 1, 1, 0, 1]), .code (cd53 [1, 1, 1, 0, 0, 0, 1, 0, 1, 1, 1]), .inBlock 1, .inLoop (cd53 [1, 1, 1, 0, 0, 0]), .inBlock 0, .code (cd53 [1, 1, 1, 1])]) (us := [(42, .bool true), (43, undef), (44, undef), (45, .bool true), (46, .bool true), (47, .int .i64 a1), (48, .int .i64 t28), (49, .int .i64 (IntKind.i64.wrap (a1 + t28))), (50, .int .i64 (IntKind.i64.wrap ((IntKind.i64.wrap (a1 + t28)) + 1))), (51, .string a0), (52, .int .i64 (a0.size : Int))]) (d := 53) (t := (decide ((IntKind.i64.wrap ((IntKind.i64.wrap (a1 + t28)) + 1)) < (a0.size : Int)))) (by kernel_rfl) (fun h73 => ?_) (fun h74 => ?_)
        ·skip
         have hp75 := ite_t hp72 h73
         refine sx_run 9 (todo' := [.inRegion (opsOf (cd53 [1, 1, 1, 0, 0, 0, 1, 0, 1, 1, 0, 1, 0])) [5, 6, 7, 8, 9, 10, 11, 12, 13, 14, 15, 16], .code (cd53 [1, 1, 1, 0, 0, 0, 1, 0, 1, 1, 1]), .inBlock 1, .inLoop (cd53 [1, 1, 1, 0, 0, 0]), .inBlock 0, .code (cd53 [1, 1, 1, 1])]) (us := [(54, .bool true), (55, .string a0), (56, .int .i64 a1), (57, .int .i64 t28), (58, .int .i64 (IntKind.i64.wrap (a1 + t28))), (59, .int .i64 (IntKind.i64.wrap ((IntKind.i64.wrap (a1 + t28)) + 1)))]) (by kernel_rfl) ?_
         obtain ⟨g76, hp77⟩ := ite_some hp75
         refine r_val (c := (cd53 [1, 1, 1, 0, 0, 0, 1, 0, 1, 1, 0, 1, 0])) (i := 5) (d := (some 60)) (ty := 5) (op := .index 9 (.tmp 55) (.tmp 59)) (v := .int .u8 (byt a0 (IntKind.i64.wrap ((IntKind.i64.wrap (a1 + t28)) + 1)))) (by kernel_rfl) (by kernel_rfl) (fun o ho _ => x_indexStr (kk := .i64) (by kernel_rfl) (by kernel_rfl) (by kernel_rfl) g76.1 g76.2 ho) ?_
         obtain ⟨t78, hr79, hp80⟩ := bind_some' hp77
         refine r_call1 (c := (cd53 [1, 1, 1, 0, 0, 0, 1, 0, 1, 1, 0, 1, 0])) (i := 6) (d := (some 61)) (g := 61) (args := #[.int .u8 (byt a0 (IntKind.i64.wrap ((IntKind.i64.wrap (a1 + t28)) + 1)))]) (by kernel_rfl) (by kernel_rfl) (by kernel_rfl) (by kernel_rfl) (weirref05_letter.ok (byt a0 (IntKind.i64.wrap ((IntKind.i64.wrap (a1 + t28)) + 1))) hS53 hr79) ?_
         rintro _ w81 ⟨rfl, hS82⟩
         refine ⟨.bool t78, rfl, ?_⟩
         refine sx_run 1 (todo' := [.inRegion (opsOf (cd53 [1, 1, 1, 0, 0, 0, 1, 0, 1, 1, 0, 1, 0])) [8, 9, 10, 11, 12, 13, 14, 15, 16], .code (cd53 [1, 1, 1, 0, 0, 0, 1, 0, 1, 1, 1]), .inBlock 1, .inLoop (cd53 [1, 1, 1, 0, 0, 0]), .inBlock 0, .code (cd53 [1, 1, 1, 1])]) (us := [(62, .bool t78)]) (by kernel_rfl) ?_
         cases t78
         ·skip
          have hp83 := ite_f hp80 rfl
          refine sx_run 5 (todo' := [.inRegion (opsOf (cd53 [1, 1, 1, 0, 0, 0, 1, 0, 1, 1, 0, 1, 0])) [13, 14, 15, 16], .code (cd53 [1, 1, 1, 0, 0, 0, 1, 0, 1, 1, 1]), .inBlock 1, .inLoop (cd53 [1, 1, 1, 0, 0, 0]), .inBlock 0, .code (cd53 [1, 1, 1, 1])]) (us := [(63, .string a0), (64, .int .i64 a1), (65, .int .i64 t28), (66, .int .i64 (IntKind.i64.wrap (a1 + t28))), (67, .int .i64 (IntKind.i64.wrap ((IntKind.i64.wrap (a1 + t28)) + 1)))]) (by kernel_rfl) ?_
          obtain ⟨g84, hp85⟩ := ite_some hp83
          refine r_val (c := (cd53 [1, 1, 1, 0, 0, 0, 1, 0, 1, 1, 0, 1, 0])) (i := 13) (d := (some 68)) (ty := 5) (op := .index 9 (.tmp 63) (.tmp 67)) (v := .int .u8 (byt a0 (IntKind.i64.wrap ((IntKind.i64.wrap (a1 + t28)) + 1)))) (by kernel_rfl) (by kernel_rfl) (fun o ho _ => x_indexStr (kk := .i64) (by kernel_rfl) (by kernel_rfl) (by kernel_rfl) g84.1 g84.2 ho) ?_
          obtain ⟨t86, hr87, hp88⟩ := bind_some' hp85
          refine r_call1 (c := (cd53 [1, 1, 1, 0, 0, 0, 1, 0, 1, 1, 0, 1, 0])) (i := 14) (d := (some 69)) (g := 62) (args := #[.int .u8 (byt a0 (IntKind.i64.wrap ((IntKind.i64.wrap (a1 + t28)) + 1)))]) (by kernel_rfl) (by kernel_rfl) (by kernel_rfl) (by kernel_rfl) (weirref05_digit.ok (byt a0 (IntKind.i64.wrap ((IntKind.i64.wrap (a1 + t28)) + 1))) hS82 hr87) ?_
          rintro _ w89 ⟨rfl, hS90⟩
          refine ⟨.bool t86, rfl, ?_⟩
          refine sx_run 3 (todo' := [.code (cd53 [1, 1, 1, 0, 0, 0, 1, 0, 1, 1, 1]), .inBlock 1, .inLoop (cd53 [1, 1, 1, 0, 0, 0]), .inBlock 0, .code (cd53 [1, 1, 1, 1])]) (us := [(70, .bool t86), (7, .bool t86)]) (by kernel_rfl) ?_
          refine Runs.fill (m := [some (.string a0), some (.int .i64 a1), none, none, none, some (.int .i64 t28), none, some (.bool t86), none, none, none, none, none, none, none, none, none, none, none, none, none, none, none, none, none, none, none, none, none, none, none, none, none, none, none, none, none, none, none, none, none, none, none, none, none, none, none, none, none, none, none, none, none, none, none, none, none, none, none, none, none, none, none, none, none, none, none, none, none, none, none, none, none, none, none, none]) (by kernel_rfl) ?_
          exact J63 t86 (Option.some.inj hp88) _ _ hS90
         ·skip
          have hp91 := ite_t hp80 rfl
          refine sx_run 10 (todo' := [.code (cd53 [1, 1, 1, 0, 0, 0, 1, 0, 1, 1, 1]), .inBlock 1, .inLoop (cd53 [1, 1, 1, 0, 0, 0]), .inBlock 0, .code (cd53 [1, 1, 1, 1])]) (us := [(63, undef), (64, undef), (65, undef), (66, undef), (67, undef), (68, undef), (69, undef), (70, .bool true), (7, .bool true)]) (by kernel_rfl) ?_
          refine Runs.fill (m := [some (.string a0), some (.int .i64 a1), none, none, none, some (.int .i64 t28), none, some (.bool true), none, none, none, none, none, none, none, none, none, none, none, none, none, none, none, none, none, none, none, none, none, none, none, none, none, none, none, none, none, none, none, none, none, none, none, none, none, none, none, none, none, none, none, none, none, none, none, none, none, none, none, none, none, none, none, none, none, none, none, none, none, none, none, none, none, none, none, none]) (by kernel_rfl) ?_
          exact J63 true (Option.some.inj hp91) _ _ hS82
        ·skip
         have hp92 := ite_f hp72 h74
         refine sx_run 4 (todo' := [.code (cd53 [1, 1, 1, 0, 0, 0, 1, 0, 1, 1, 1]), .inBlock 1, .inLoop (cd53 [1, 1, 1, 0, 0, 0]), .inBlock 0, .code (cd53 [1, 1, 1, 1])]) (us := [(54, .bool false)]) (by kernel_rfl) ?_
         refine Runs.fill (m := [some (.string a0), some (.int .i64 a1), none, none, none, some (.int .i64 t28), none, some (.bool t51), none, none, none, none, none, none, none, none, none, none, none, none, none, none, none, none, none, none, none, none, none, none, none, none, none, none, none, none, none, none, none, none, none, none, none, none, none, none, none, none, none, none, none, none, none, none, none, none, none, none, none, none, none, none, none, none, none, none, none, none, none, none, none, none, none, none, none, none]) (by kernel_rfl) ?_
         exact J63 t51 (Option.some.inj hp92) _ _ hS53
       ·skip
        have hp93 := ite_f hv58 h71
        refine sx_split 3 (todo' := [.inRegion (opsOf (cd53 [1, 1, 1, 0, 0, 0, 1, 0, 1, 1, 0, 0])) [5, 6, 7, 8, 9, 10, 11, 12, 13, 14], .code (cd53 [1, 1, 1, 0, 0, 0, 1, 0, 1, 1, 0, 1]), .code (cd53 [1, 1, 1, 0, 0, 0, 1, 0, 1, 1, 1]), .inBlock 1, .inLoop (cd53 [1, 1, 1, 0, 0, 0]), .inBlock 0, .code (cd53 [1, 1, 1, 1])]) (us := [(42, .bool false), (43, .int .u8 (byt a0 (IntKind.i64.wrap (a1 + t28))))]) (d := 44) (t := ((byt a0 (IntKind.i64.wrap (a1 + t28))) == 45)) (by kernel_rfl) (fun h94 => ?_) (fun h95 => ?_)
        ·skip
         have hp96 := ite_t hp93 h94
         refine sx_split 9 (todo' := [.inRegion (opsOf (cd53 [1, 1, 1, 0, 0, 0, 1, 0, 1, 1, 0, 0])) [14], .code (cd53 [1, 1, 1, 0, 0, 0, 1, 0, 1, 1, 0, 1]), .code (cd53 [1, 1, 1, 0, 0, 0, 1, 0, 1, 1, 1]), .inBlock 1, .inLoop (cd53 [1, 1, 1, 0, 0, 0]), .inBlock 0, .code (cd53 [1, 1, 1, 1])]) (us := [(45, .bool true), (46, .bool true), (47, .int .i64 a1), (48, .int .i64 t28), (49, .int .i64 (IntKind.i64.wrap (a1 + t28))), (50, .int .i64 (IntKind.i64.wrap ((IntKind.i64.wrap (a1 + t28)) + 1))), (51, .string a0), (52, .int .i64 (a0.size : Int))]) (d := 53) (t := (decide ((IntKind.i64.wrap ((IntKind.i64.wrap (a1 + t28)) + 1)) < (a0.size : Int)))) (by kernel_rfl) (fun h97 => ?_) (fun h98 => ?_)
         ·skip
          have hp99 := ite_t hp96 h97
          refine sx_run 9 (todo' := [.inRegion (opsOf (cd53 [1, 1, 1, 0, 0, 0, 1, 0, 1, 1, 0, 1, 0])) [5, 6, 7, 8, 9, 10, 11, 12, 13, 14, 15, 16], .code (cd53 [1, 1, 1, 0, 0, 0, 1, 0, 1, 1, 1]), .inBlock 1, .inLoop (cd53 [1, 1, 1, 0, 0, 0]), .inBlock 0, .code (cd53 [1, 1, 1, 1])]) (us := [(54, .bool true), (55, .string a0), (56, .int .i64 a1), (57, .int .i64 t28), (58, .int .i64 (IntKind.i64.wrap (a1 + t28))), (59, .int .i64 (IntKind.i64.wrap ((IntKind.i64.wrap (a1 + t28)) + 1)))]) (by kernel_rfl) ?_
          obtain ⟨g100, hp101⟩ := ite_some hp99
          refine r_val (c := (cd53 [1, 1, 1, 0, 0, 0, 1, 0, 1, 1, 0, 1, 0])) (i := 5) (d := (some 60)) (ty := 5) (op := .index 9 (.tmp 55) (.tmp 59)) (v := .int .u8 (byt a0 (IntKind.i64.wrap ((IntKind.i64.wrap (a1 + t28)) + 1)))) (by kernel_rfl) (by kernel_rfl) (fun o ho _ => x_indexStr (kk := .i64) (by kernel_rfl) (by kernel_rfl) (by kernel_rfl) g100.1 g100.2 ho) ?_
          obtain ⟨t102, hr103, hp104⟩ := bind_some' hp101
          refine r_call1 (c := (cd53 [1, 1, 1, 0, 0, 0, 1, 0, 1, 1, 0, 1, 0])) (i := 6) (d := (some 61)) (g := 61) (args := #[.int .u8 (byt a0 (IntKind.i64.wrap ((IntKind.i64.wrap (a1 + t28)) + 1)))]) (by kernel_rfl) (by kernel_rfl) (by kernel_rfl) (by kernel_rfl) (weirref05_letter.ok (byt a0 (IntKind.i64.wrap ((IntKind.i64.wrap (a1 + t28)) + 1))) hS53 hr103) ?_
          rintro _ w105 ⟨rfl, hS106⟩
          refine ⟨.bool t102, rfl, ?_⟩
          refine sx_run 1 (todo' := [.inRegion (opsOf (cd53 [1, 1, 1, 0, 0, 0, 1, 0, 1, 1, 0, 1, 0])) [8, 9, 10, 11, 12, 13, 14, 15, 16], .code (cd53 [1, 1, 1, 0, 0, 0, 1, 0, 1, 1, 1]), .inBlock 1, .inLoop (cd53 [1, 1, 1, 0, 0, 0]), .inBlock 0, .code (cd53 [1, 1, 1, 1])]) (us := [(62, .bool t102)]) (by kernel_rfl) ?_
          cases t102
          ·skip
           have hp107 := ite_f hp104 rfl
           refine sx_run 5 (todo' := [.inRegion (opsOf (cd53 [1, 1, 1, 0, 0, 0, 1, 0, 1, 1, 0, 1, 0])) [13, 14, 15, 16], .code (cd53 [1, 1, 1, 0, 0, 0, 1, 0, 1, 1, 1]), .inBlock 1, .inLoop (cd53 [1, 1, 1, 0, 0, 0]), .inBlock 0, .code (cd53 [1, 1, 1, 1])]) (us := [(63, .string a0), (64, .int .i64 a1), (65, .int .i64 t28), (66, .int .i64 (IntKind.i64.wrap (a1 + t28))), (67, .int .i64 (IntKind.i64.wrap ((IntKind.i64.wrap (a1 + t28)) + 1)))]) (by kernel_rfl) ?_
           obtain ⟨g108, hp109⟩ := ite_some hp107
           refine r_val (c := (cd53 [1, 1, 1, 0, 0, 0, 1, 0, 1, 1, 0, 1, 0])) (i := 13) (d := (some 68)) (ty := 5) (op := .index 9 (.tmp 63) (.tmp 67)) (v := .int .u8 (byt a0 (IntKind.i64.wrap ((IntKind.i64.wrap (a1 + t28)) + 1)))) (by kernel_rfl) (by kernel_rfl) (fun o ho _ => x_indexStr (kk := .i64) (by kernel_rfl) (by kernel_rfl) (by kernel_rfl) g108.1 g108.2 ho) ?_
           obtain ⟨t110, hr111, hp112⟩ := bind_some' hp109
           refine r_call1 (c := (cd53 [1, 1, 1, 0, 0, 0, 1, 0, 1, 1, 0, 1, 0])) (i := 14) (d := (some 69)) (g := 62) (args := #[.int .u8 (byt a0 (IntKind.i64.wrap ((IntKind.i64.wrap (a1 + t28)) + 1)))]) (by kernel_rfl) (by kernel_rfl) (by kernel_rfl) (by kernel_rfl) (weirref05_digit.ok (byt a0 (IntKind.i64.wrap ((IntKind.i64.wrap (a1 + t28)) + 1))) hS106 hr111) ?_
           rintro _ w113 ⟨rfl, hS114⟩
           refine ⟨.bool t110, rfl, ?_⟩
           refine sx_run 3 (todo' := [.code (cd53 [1, 1, 1, 0, 0, 0, 1, 0, 1, 1, 1]), .inBlock 1, .inLoop (cd53 [1, 1, 1, 0, 0, 0]), .inBlock 0, .code (cd53 [1, 1, 1, 1])]) (us := [(70, .bool t110), (7, .bool t110)]) (by kernel_rfl) ?_
           refine Runs.fill (m := [some (.string a0), some (.int .i64 a1), none, none, none, some (.int .i64 t28), none, some (.bool t110), none, none, none, none, none, none, none, none, none, none, none, none, none, none, none, none, none, none, none, none, none, none, none, none, none, none, none, none, none, none, none, none, none, none, none, none, none, none, none, none, none, none, none, none, none, none, none, none, none, none, none, none, none, none, none, none, none, none, none, none, none, none, none, none, none, none, none, none]) (by kernel_rfl) ?_
           exact J63 t110 (Option.some.inj hp112) _ _ hS114
          ·skip
           have hp115 := ite_t hp104 rfl
           refine sx_run 10 (todo' := [.code (cd53 [1, 1, 1, 0, 0, 0, 1, 0, 1, 1, 1]), .inBlock 1, .inLoop (cd53 [1, 1, 1, 0, 0, 0]), .inBlock 0, .code (cd53 [1, 1, 1, 1])]) (us := [(63, undef), (64, undef), (65, undef), (66, undef), (67, undef), (68, undef), (69, undef), (70, .bool true), (7, .bool true)]) (by kernel_rfl) ?_
           refine Runs.fill (m := [some (.string a0), some (.int .i64 a1), none, none, none, some (.int .i64 t28), none, some (.bool true), none, none, none, none, none, none, none, none, none, none, none, none, none, none, none, none, none, none, none, none, none, none, none, none, none, none, none, none, none, none, none, none, none, none, none, none, none, none, none, none, none, none, none, none, none, none, none, none, none, none, none, none, none, none, none, none, none, none, none, none, none, none, none, none, none, none, none, none]) (by kernel_rfl) ?_
           exact J63 true (Option.some.inj hp115) _ _ hS106
         ·skip
          have hp116 := ite_f hp96 h98
          refine sx_run 4 (todo' := [.code (cd53 [1, 1, 1, 0, 0, 0, 1, 0, 1, 1, 1]), .inBlock 1, .inLoop (cd53 [1, 1, 1, 0, 0, 0]), .inBlock 0, .code (cd53 [1, 1, 1, 1])]) (us := [(54, .bool false)]) (by kernel_rfl) ?_
          refine Runs.fill (m := [some (.string a0), some (.int .i64 a1), none, none, none, some (.int .i64 t28), none, some (.bool t51), none, none, none, none, none, none, none, none, none, none, none, none, none, none, none, none, none, none, none, none, none, none, none, none, none, none, none, none, none, none, none, none, none, none, none, none, none, none, none, none, none, none, none, none, none, none, none, none, none, none, none, none, none, none, none, none, none, none, none, none, none, none, none, none, none, none, none, none]) (by kernel_rfl) ?_
          exact J63 t51 (Option.some.inj hp116) _ _ hS53
        ·skip
         have hp117 := ite_f hp93 h95
         refine sx_run 13 (todo' := [.code (cd53 [1, 1, 1, 0, 0, 0, 1, 0, 1, 1, 1]), .inBlock 1, .inLoop (cd53 [1, 1, 1, 0, 0, 0]), .inBlock 0, .code (cd53 [1, 1, 1, 1])]) (us := [(45, .bool false), (46, .bool false), (47, undef), (48, undef), (49, undef), (50, undef), (51, undef), (52, undef), (53, undef), (54, .bool false)]) (by kernel_rfl) ?_
         refine Runs.fill (m := [some (.string a0), some (.int .i64 a1), none, none, none, some (.int .i64 t28), none, some (.bool t51), none, none, none, none, none, none, none, none, none, none, none, none, none, none, none, none, none, none, none, none, none, none, none, none, none, none, none, none, none, none, none, none, none, none, none, none, none, none, none, none, none, none, none, none, none, none, none, none, none, none, none, none, none, none, none, none, none, none, none, none, none, none, none, none, none, none, none, none]) (by kernel_rfl) ?_
         exact J63 t51 (Option.some.inj hp117) _ _ hS53
      cases t43
      ·skip
       have hp118 := ite_f hv49 rfl
       refine sx_run 1 (todo' := [.inRegion (opsOf (cd53 [1, 1, 1, 0, 0, 0, 1, 0, 1, 0])) [4, 5, 6, 7, 8, 9, 10], .code (cd53 [1, 1, 1, 0, 0, 0, 1, 0, 1, 1]), .inBlock 1, .inLoop (cd53 [1, 1, 1, 0, 0, 0]), .inBlock 0, .code (cd53 [1, 1, 1, 1])]) (us := [(33, .int .u8 (byt a0 (IntKind.i64.wrap (a1 + t28))))]) (by kernel_rfl) ?_
       obtain ⟨t119, hr120, hp121⟩ := bind_some' hp118
       refine r_call1 (c := (cd53 [1, 1, 1, 0, 0, 0, 1, 0, 1, 0])) (i := 4) (d := (some 34)) (g := 62) (args := #[.int .u8 (byt a0 (IntKind.i64.wrap (a1 + t28)))]) (by kernel_rfl) (by kernel_rfl) (by kernel_rfl) (by kernel_rfl) (weirref05_digit.ok (byt a0 (IntKind.i64.wrap (a1 + t28))) hS47 hr120) ?_
       rintro _ w122 ⟨rfl, hS123⟩
       refine ⟨.bool t119, rfl, ?_⟩
       refine sx_run 2 (todo' := [.inRegion (opsOf (cd53 [1, 1, 1, 0, 0, 0, 1, 0, 1, 0])) [7, 8, 9, 10], .code (cd53 [1, 1, 1, 0, 0, 0, 1, 0, 1, 1]), .inBlock 1, .inLoop (cd53 [1, 1, 1, 0, 0, 0]), .inBlock 0, .code (cd53 [1, 1, 1, 1])]) (us := [(35, .bool t119), (36, .bool t119)]) (by kernel_rfl) ?_
       cases t119
       ·skip
        have hp124 := ite_f hp121 rfl
        refine sx_split 2 (todo' := [.inRegion (opsOf (cd53 [1, 1, 1, 0, 0, 0, 1, 0, 1, 0])) [9, 10], .code (cd53 [1, 1, 1, 0, 0, 0, 1, 0, 1, 1]), .inBlock 1, .inLoop (cd53 [1, 1, 1, 0, 0, 0]), .inBlock 0, .code (cd53 [1, 1, 1, 1])]) (us := [(37, .int .u8 (byt a0 (IntKind.i64.wrap (a1 + t28))))]) (d := 38) (t := ((byt a0 (IntKind.i64.wrap (a1 + t28))) == 46)) (by kernel_rfl) (fun h125 => ?_) (fun h126 => ?_)
        ·skip
         have hp127 := ite_t hp124 h125
         refine sx_run 5 (todo' := [.code (cd53 [1, 1, 1, 0, 0, 0, 1, 0, 1, 1, 0, 0]), .code (cd53 [1, 1, 1, 0, 0, 0, 1, 0, 1, 1, 0, 1]), .code (cd53 [1, 1, 1, 0, 0, 0, 1, 0, 1, 1, 1]), .inBlock 1, .inLoop (cd53 [1, 1, 1, 0, 0, 0]), .inBlock 0, .code (cd53 [1, 1, 1, 1])]) (us := [(39, .bool true), (7, .bool true)]) (by kernel_rfl) ?_
         refine Runs.fill (m := [some (.string a0), some (.int .i64 a1), none, none, none, some (.int .i64 t28), some (.int .u8 (byt a0 (IntKind.i64.wrap (a1 + t28)))), some (.bool true), none, none, none, none, none, none, none, none, none, none, none, none, none, none, none, none, none, none, none, none, none, none, none, none, none, none, none, none, none, none, none, none, none, none, none, none, none, none, none, none, none, none, none, none, none, none, none, none, none, none, none, none, none, none, none, none, none, none, none, none, none, none, none, none, none, none, none, none]) (by kernel_rfl) ?_
         exact J54 true (Option.some.inj hp127) _ _ hS123
        ·skip
         have hp128 := ite_f hp124 h126
         refine sx_run 5 (todo' := [.code (cd53 [1, 1, 1, 0, 0, 0, 1, 0, 1, 1, 0, 0]), .code (cd53 [1, 1, 1, 0, 0, 0, 1, 0, 1, 1, 0, 1]), .code (cd53 [1, 1, 1, 0, 0, 0, 1, 0, 1, 1, 1]), .inBlock 1, .inLoop (cd53 [1, 1, 1, 0, 0, 0]), .inBlock 0, .code (cd53 [1, 1, 1, 1])]) (us := [(39, .bool false), (7, .bool false)]) (by kernel_rfl) ?_
         refine Runs.fill (m := [some (.string a0), some (.int .i64 a1), none, none, none, some (.int .i64 t28), some (.int .u8 (byt a0 (IntKind.i64.wrap (a1 + t28)))), some (.bool false), none, none, none, none, none, none, none, none, none, none, none, none, none, none, none, none, none, none, none, none, none, none, none, none, none, none, none, none, none, none, none, none, none, none, none, none, none, none, none, none, none, none, none, none, none, none, none, none, none, none, none, none, none, none, none, none, none, none, none, none, none, none, none, none, none, none, none, none]) (by kernel_rfl) ?_
         exact J54 false (Option.some.inj hp128) _ _ hS123
       ·skip
        have hp129 := ite_t hp121 rfl
        refine sx_run 7 (todo' := [.code (cd53 [1, 1, 1, 0, 0, 0, 1, 0, 1, 1, 0, 0]), .code (cd53 [1, 1, 1, 0, 0, 0, 1, 0, 1, 1, 0, 1]), .code (cd53 [1, 1, 1, 0, 0, 0, 1, 0, 1, 1, 1]), .inBlock 1, .inLoop (cd53 [1, 1, 1, 0, 0, 0]), .inBlock 0, .code (cd53 [1, 1, 1, 1])]) (us := [(37, undef), (38, undef), (39, .bool true), (7, .bool true)]) (by kernel_rfl) ?_
        refine Runs.fill (m := [some (.string a0), some (.int .i64 a1), none, none, none, some (.int .i64 t28), some (.int .u8 (byt a0 (IntKind.i64.wrap (a1 + t28)))), some (.bool true), none, none, none, none, none, none, none, none, none, none, none, none, none, none, none, none, none, none, none, none, none, none, none, none, none, none, none, none, none, none, none, none, none, none, none, none, none, none, none, none, none, none, none, none, none, none, none, none, none, none, none, none, none, none, none, none, none, none, none, none, none, none, none, none, none, none, none, none]) (by kernel_rfl) ?_
        exact J54 true (Option.some.inj hp129) _ _ hS123
      ·skip
       have hp130 := ite_t hv49 rfl
       refine sx_run 11 (todo' := [.code (cd53 [1, 1, 1, 0, 0, 0, 1, 0, 1, 1, 0, 0]), .code (cd53 [1, 1, 1, 0, 0, 0, 1, 0, 1, 1, 0, 1]), .code (cd53 [1, 1, 1, 0, 0, 0, 1, 0, 1, 1, 1]), .inBlock 1, .inLoop (cd53 [1, 1, 1, 0, 0, 0]), .inBlock 0, .code (cd53 [1, 1, 1, 1])]) (us := [(33, undef), (34, undef), (35, .bool true), (36, .bool true), (37, undef), (38, undef), (39, .bool true), (7, .bool true)]) (by kernel_rfl) ?_
       refine Runs.fill (m := [some (.string a0), some (.int .i64 a1), none, none, none, some (.int .i64 t28), some (.int .u8 (byt a0 (IntKind.i64.wrap (a1 + t28)))), some (.bool true), none, none, none, none, none, none, none, none, none, none, none, none, none, none, none, none, none, none, none, none, none, none, none, none, none, none, none, none, none, none, none, none, none, none, none, none, none, none, none, none, none, none, none, none, none, none, none, none, none, none, none, none, none, none, none, none, none, none, none, none, none, none, none, none, none, none, none, none]) (by kernel_rfl) ?_
       exact J54 true (Option.some.inj hp130) _ _ hS47
     ·skip
      have hp131 := ite_f hb34 h39
      refine sx_run 3 (todo' := [.code (cd53 [1, 1, 1, 1])]) (us := []) (by kernel_rfl) ?_
      refine Runs.fill (m := [none, none, none, none, none, some (.int .i64 t28), none, none, none, none, none, none, none, none, none, none, none, none, none, none, none, none, none, none, none, none, none, none, none, none, none, none, none, none, none, none, none, none, none, none, none, none, none, none, none, none, none, none, none, none, none, none, none, none, none, none, none, none, none, none, none, none, none, none, none, none, none, none, none, none, none, none, none, none, none, none]) (by kernel_rfl) ?_
      exact J24 t28 ((Option.some.inj hp131).trans he33) _ _ hS30
    refine Runs.fill (m := [some (.string a0), some (.int .i64 a1), none, none, none, some (.int .i64 1), none, none, none, none, none, none, none, none, none, none, none, none, none, none, none, none, none, none, none, none, none, none, none, none, none, none, none, none, none, none, none, none, none, none, none, none, none, none, none, none, none, none, none, none, none, none, none, none, none, none, none, none, none, none, none, none, none, none, none, none, none, none, none, none, none, none, none, none, none, none]) (by kernel_rfl) ?_
    exact L37 1 _ hv19 rfl _ _ hS12

noncomputable def cd39 (p : List Nat) : Code := sub (bodyOf Try.f39) p
def weirref05_Name.f (a0 : ByteArray) : Option Bool :=
  (if (decide ((a0.size : Int) > 0)) = true then (if (decide ((a0.size : Int) ≤ 64)) = true then (weirref05_name.f a0 0 >>= (fun t7 => (if (t7 == (a0.size : Int)) = true then some (true) else some (false)))) else some (false)) else some (false))
set_option maxHeartbeats 16000000 in
theorem weirref05_Name.ok (a0 : ByteArray) {w0 : World} {Z : Zm} {fs : List XObj} {w : World} (hS0 : St w0 Z (fs) w) {q0 : Bool} (hp0 : weirref05_Name.f a0 = some q0) :
    Calls Try.prog 39 #[.string a0] w (fun e w' => e = .returned (.bool q0) ∧ St w0 Z (fs) w') := by
  refine calls_abs ?_; intro R hR
  unfold weirref05_Name.f at hp0
  refine calls_of_runs (fn := Try.f39) (c := cd39 []) Try.func39 (by kernel_rfl) (al := [.string a0]) rfl (n := 17) rfl ?_
  refine sx_split 9 (todo' := [.inRegion (opsOf (cd39 [1, 0])) [3, 4, 5, 6, 7, 8, 9, 10, 11, 12, 13, 14, 15], .code (cd39 [1, 1])]) (us := [(2, .bool false), (3, .string a0), (4, .int .i64 (a0.size : Int))]) (d := 5) (t := (decide ((a0.size : Int) > 0))) (by kernel_rfl) (fun h1 => ?_) (fun h2 => ?_)
  ·skip
   have hp3 := ite_t hp0 h1
   refine sx_split 4 (todo' := [.inRegion (opsOf (cd39 [1, 0])) [7, 8, 9, 10, 11, 12, 13, 14, 15], .code (cd39 [1, 1])]) (us := [(6, .bool true), (7, .string a0), (8, .int .i64 (a0.size : Int))]) (d := 9) (t := (decide ((a0.size : Int) ≤ 64))) (by kernel_rfl) (fun h4 => ?_) (fun h5 => ?_)
   ·skip
    have hp6 := ite_t hp3 h4
    refine sx_run 3 (todo' := [.inRegion (opsOf (cd39 [1, 0])) [10, 11, 12, 13, 14, 15], .code (cd39 [1, 1])]) (us := [(10, .bool true), (11, .bool true), (12, .string a0)]) (by kernel_rfl) ?_
    obtain ⟨t7, hr8, hp9⟩ := bind_some' hp6
    refine r_call1 (c := (cd39 [1, 0])) (i := 10) (d := (some 13)) (g := 53) (args := #[.string a0, .int .i64 0]) (by kernel_rfl) (by kernel_rfl) (by kernel_rfl) (by kernel_rfl) (weirref05_name.ok a0 0 hS0 hr8) ?_
    rintro _ w10 ⟨rfl, hS11⟩
    refine ⟨.int .i64 t7, rfl, ?_⟩
    refine sx_split 3 (todo' := [.inRegion (opsOf (cd39 [1, 0])) [14, 15], .code (cd39 [1, 1])]) (us := [(14, .string a0), (15, .int .i64 (a0.size : Int))]) (d := 16) (t := (t7 == (a0.size : Int))) (by kernel_rfl) (fun h12 => ?_) (fun h13 => ?_)
    ·skip
     have hp14 := ite_t hp9 h12
     refine sx_run 3 (todo' := [.code (cd39 [1, 1])]) (us := [(17, .bool true), (2, .bool true)]) (by kernel_rfl) ?_
     refine runs_ret (fn := Try.f39) (v := .bool true) Try.func39 (by kernel_rfl) ?_
     have hr15 := (Option.some.inj hp14)
     cases hr15
     exact hR _ _ ⟨rfl, hS11⟩
    ·skip
     have hp16 := ite_f hp9 h13
     refine sx_run 3 (todo' := [.code (cd39 [1, 1])]) (us := [(17, .bool false), (2, .bool false)]) (by kernel_rfl) ?_
     refine runs_ret (fn := Try.f39) (v := .bool false) Try.func39 (by kernel_rfl) ?_
     have hr17 := (Option.some.inj hp16)
     cases hr17
     exact hR _ _ ⟨rfl, hS11⟩
   ·skip
    have hp18 := ite_f hp3 h5
    refine sx_run 10 (todo' := [.code (cd39 [1, 1])]) (us := [(10, .bool false), (11, .bool false), (12, undef), (13, undef), (14, undef), (15, undef), (16, undef), (17, .bool false), (2, .bool false)]) (by kernel_rfl) ?_
    refine runs_ret (fn := Try.f39) (v := .bool false) Try.func39 (by kernel_rfl) ?_
    have hr19 := (Option.some.inj hp18)
    cases hr19
    exact hR _ _ ⟨rfl, hS0⟩
  ·skip
   have hp20 := ite_f hp0 h2
   refine sx_run 14 (todo' := [.code (cd39 [1, 1])]) (us := [(6, .bool false), (7, undef), (8, undef), (9, undef), (10, .bool false), (11, .bool false), (12, undef), (13, undef), (14, undef), (15, undef), (16, undef), (17, .bool false), (2, .bool false)]) (by kernel_rfl) ?_
   refine runs_ret (fn := Try.f39) (v := .bool false) Try.func39 (by kernel_rfl) ?_
   have hr21 := (Option.some.inj hp20)
   cases hr21
   exact hR _ _ ⟨rfl, hS0⟩

end
end Go.Proofs.Ythkpeoiphkndiaa.K
