/- The walk, part 5: each Go function as a plain Lean function, and that its call answers as that function says. No condition. -/
import Derived.Test.YthkpeoiphkndiaaE
import Derived.Test.YthkpeoiphkndiaaNS
import Derived.Test.YthkpeoiphkndiaaLS
import Derived.Test.YthkpeoiphkndiaaNM
import Derived.Test.YthkpeoiphkndiaaNV
import Derived.Test.YthkpeoiphkndiaaF4
set_option linter.unusedVariables false
set_option linter.unusedSimpArgs false
set_option maxRecDepth 100000
namespace Go.Proofs.Ythkpeoiphkndiaa.K
open Go Go.RowKit
noncomputable section
noncomputable def cd15 (p : List Nat) : Code := sub (bodyOf Try.f15) p
def cond_Holds.l0 (a0 : List api_Node) (a1c0v : List api_Ref) (a1c2v : weirlaw06_Set) (t41 : Int) (t42 : List Bool) (t43 : Bool) : Option ((List Bool) × Bool) :=
  (if (decide (t41 < (a0.length : Int))) = true then (if 0 ≤ t41 ∧ t41 < (a0.length : Int) then (if (((gt a0 t41).Op) == 1) = true then (if 0 ≤ t41 ∧ t41 < (t42.length : Int) then (cond_Holds.l0 a0 a1c0v a1c2v (IntKind.i64.wrap (t41 + 1)) (setl t42 t41 true) t43) else none) else (if (((gt a0 t41).Op) == 2) = true then (weirlaw06_CondAsks_1.f ((gt a0 t41).Ref) a1c0v t43 (⟨a1c2v.Refs, a1c2v.Values, a1c2v.Rest⟩ : weirlaw06_Set) >>= (fun (t89, t90) => (if 0 ≤ t41 ∧ t41 < (t42.length : Int) then (cond_Holds.l0 a0 a1c0v a1c2v (IntKind.i64.wrap (t41 + 1)) (setl t42 t41 (t89 == ((gt a0 t41).Value))) t90) else none))) else (if (((gt a0 t41).Op) == 3) = true then (if 0 ≤ ((gt a0 t41).A) ∧ ((gt a0 t41).A) < (t42.length : Int) then (if (gt t42 ((gt a0 t41).A)) = true then (if 0 ≤ t41 ∧ t41 < (t42.length : Int) then (cond_Holds.l0 a0 a1c0v a1c2v (IntKind.i64.wrap (t41 + 1)) (setl t42 t41 false) t43) else none) else (if 0 ≤ t41 ∧ t41 < (t42.length : Int) then (cond_Holds.l0 a0 a1c0v a1c2v (IntKind.i64.wrap (t41 + 1)) (setl t42 t41 true) t43) else none)) else none) else (if (((gt a0 t41).Op) == 4) = true then (if 0 ≤ ((gt a0 t41).A) ∧ ((gt a0 t41).A) < (t42.length : Int) then (if (gt t42 ((gt a0 t41).A)) = true then (if 0 ≤ ((gt a0 t41).B) ∧ ((gt a0 t41).B) < (t42.length : Int) then (if (gt t42 ((gt a0 t41).B)) = true then (if 0 ≤ t41 ∧ t41 < (t42.length : Int) then (cond_Holds.l0 a0 a1c0v a1c2v (IntKind.i64.wrap (t41 + 1)) (setl t42 t41 true) t43) else none) else (if 0 ≤ t41 ∧ t41 < (t42.length : Int) then (cond_Holds.l0 a0 a1c0v a1c2v (IntKind.i64.wrap (t41 + 1)) (setl t42 t41 false) t43) else none)) else none) else (if 0 ≤ t41 ∧ t41 < (t42.length : Int) then (cond_Holds.l0 a0 a1c0v a1c2v (IntKind.i64.wrap (t41 + 1)) (setl t42 t41 false) t43) else none)) else none) else (if (((gt a0 t41).Op) == 5) = true then (if 0 ≤ ((gt a0 t41).A) ∧ ((gt a0 t41).A) < (t42.length : Int) then (if (gt t42 ((gt a0 t41).A)) = true then (if 0 ≤ t41 ∧ t41 < (t42.length : Int) then (cond_Holds.l0 a0 a1c0v a1c2v (IntKind.i64.wrap (t41 + 1)) (setl t42 t41 true) t43) else none) else (if 0 ≤ ((gt a0 t41).B) ∧ ((gt a0 t41).B) < (t42.length : Int) then (if (gt t42 ((gt a0 t41).B)) = true then (if 0 ≤ t41 ∧ t41 < (t42.length : Int) then (cond_Holds.l0 a0 a1c0v a1c2v (IntKind.i64.wrap (t41 + 1)) (setl t42 t41 true) t43) else none) else (if 0 ≤ t41 ∧ t41 < (t42.length : Int) then (cond_Holds.l0 a0 a1c0v a1c2v (IntKind.i64.wrap (t41 + 1)) (setl t42 t41 false) t43) else none)) else none)) else none) else (cond_Holds.l0 a0 a1c0v a1c2v (IntKind.i64.wrap (t41 + 1)) t42 t43)))))) else none) else some ((t42, t43)))
 partial_fixpoint
def cond_Holds.f (a0 : List api_Node) (a1c0v : List api_Ref) (a1c1v : Bool) (a1c2v : weirlaw06_Set) : Option (Bool × Int × Bool) :=
  (cond_Check.f a0 >>= (fun t1 => (if (t1 != 0) = true then some ((false, t1, a1c1v)) else (if 0 ≤ (a0.length : Int) ∧ (a0.length : Int) * 1 ≤ 140737488355328 then (cond_Holds.l0 a0 a1c0v a1c2v 0 (List.replicate (a0.length : Int).toNat false) a1c1v >>= (fun (t20, t21) => (if 0 ≤ (IntKind.i64.wrap ((a0.length : Int) - 1)) ∧ (IntKind.i64.wrap ((a0.length : Int) - 1)) < (t20.length : Int) then (if (gt t20 (IntKind.i64.wrap ((a0.length : Int) - 1))) = true then some ((true, 0, t21)) else some ((false, 0, t21))) else none))) else none))))
set_option maxHeartbeats 16000000 in
theorem cond_Holds.ok (a0 : List api_Node) (a1c0v : List api_Ref) (a1c1v : Bool) (a1c2v : weirlaw06_Set) (Aa0 : Option Addr) (ca0 : Nat) (ba1c0 : Nat) (Aa1c0v : Option Addr) (ca1c0v : Nat) (ba1c1 : Nat) (ba1c2 : Nat) (Aa1c2v_0 : Option Addr) (ca1c2v_0 : Nat) (Aa1c2v_1 : Option Addr) (ca1c2v_1 : Nat) {w0 : World} {Z : Zm} {fs : List XObj} {w : World} (hS0 : St w0 Z (xblk ba1c0 34 ([.slice Aa1c0v a1c0v.length ca1c0v]) :: xblk ba1c1 4 ([.bool a1c1v]) :: xblk ba1c2 37 ([.slice Aa1c2v_0 a1c2v.Refs.length ca1c2v_0, .slice Aa1c2v_1 a1c2v.Values.length ca1c2v_1, .int .i64 a1c2v.Rest]) :: fs) w) (ha0 : SlZ (flat enc_api_Node) 6 Z Aa0 ca0 a0) (ha1c0v : SlZ (flat enc_api_Ref) 2 Z Aa1c0v ca1c0v a1c0v) (ha1c2v_0 : SlZ (flat enc_api_Ref) 2 Z Aa1c2v_0 ca1c2v_0 a1c2v.Refs) (ha1c2v_1 : SlZ (flat (encI .i64)) 1 Z Aa1c2v_1 ca1c2v_1 a1c2v.Values) {q0 : Bool} {q1 : Int} {q2 : Bool} (hp0 : cond_Holds.f a0 a1c0v a1c1v a1c2v = some (q0, q1, q2)) :
    Calls Try.prog 15 #[.slice Aa0 a0.length ca0, .func (.func 16) #[] #[.pointer (some ⟨ba1c0, 0, none⟩), .pointer (some ⟨ba1c1, 0, none⟩), .pointer (some ⟨ba1c2, 0, none⟩)]] w (fun e w' => e = .returned (.tuple #[.bool q0, .int .i64 q1]) ∧ St w0 Z (xblk ba1c0 34 ([.slice Aa1c0v a1c0v.length ca1c0v]) :: xblk ba1c1 4 ([.bool q2]) :: xblk ba1c2 37 ([.slice Aa1c2v_0 a1c2v.Refs.length ca1c2v_0, .slice Aa1c2v_1 a1c2v.Values.length ca1c2v_1, .int .i64 a1c2v.Rest]) :: fs) w') := by
  refine calls_abs ?_; intro R hR
  unfold cond_Holds.f at hp0
  refine calls_of_runs (fn := Try.f15) (c := cd15 []) Try.func15 (by kernel_rfl) (al := [.slice Aa0 a0.length ca0, .func (.func 16) #[] #[.pointer (some ⟨ba1c0, 0, none⟩), .pointer (some ⟨ba1c1, 0, none⟩), .pointer (some ⟨ba1c2, 0, none⟩)]]) rfl (n := 94) rfl ?_
  refine sx_run 9 (todo' := [.inRegion (opsOf (cd15 [1, 0, 0])) [1, 2], .code (cd15 [1, 0, 1]), .code (cd15 [1, 1])]) (us := [(4, .bool false), (5, .int .i64 0), (10, .slice Aa0 a0.length ca0)]) (by kernel_rfl) ?_
  obtain ⟨t1, hr2, hp3⟩ := bind_some' hp0
  refine r_call1 (c := (cd15 [1, 0, 0])) (i := 1) (d := (some 11)) (g := 19) (args := #[.slice Aa0 a0.length ca0]) (by kernel_rfl) (by kernel_rfl) (by kernel_rfl) (by kernel_rfl) (cond_Check.ok a0 Aa0 ca0 hS0 ha0 hr2) ?_
  rintro _ w4 ⟨rfl, hS5⟩
  refine ⟨.int .i64 t1, rfl, ?_⟩
  refine sx_split 6 (todo' := [.inRegion (opsOf (cd15 [1, 0, 1, 0])) [], .code (cd15 [1, 0, 1, 1]), .code (cd15 [1, 1])]) (us := [(6, .int .i64 t1), (12, .int .i64 t1)]) (d := 13) (t := (t1 != 0)) (by kernel_rfl) (fun h6 => ?_) (fun h7 => ?_)
  ·skip
   have hp8 := ite_t hp3 h6
   refine sx_run 8 (todo' := [.code (cd15 [1, 0, 1, 1, 0, 1]), .code (cd15 [1, 1])]) (us := [(14, .int .i64 t1), (4, .bool false), (5, .int .i64 t1)]) (by kernel_rfl) ?_
   refine runs_ret (fn := Try.f15) (v := .tuple #[.bool false, .int .i64 t1]) Try.func15 (by kernel_rfl) ?_
   have hr9 := (Option.some.inj hp8)
   cases hr9
   exact hR _ _ ⟨rfl, hS5⟩
  ·skip
   have hp10 := ite_f hp3 h7
   refine sx_run 7 (todo' := [.inRegion (opsOf (cd15 [1, 1, 0])) [2, 3], .code (cd15 [1, 1, 1])]) (us := [(15, .slice Aa0 a0.length ca0), (16, .int .i64 (a0.length : Int))]) (by kernel_rfl) ?_
   obtain ⟨g11, hp12⟩ := ite_some hp10
   refine r_make (c := (cd15 [1, 1, 0])) (i := 2) (d := (some 17)) (ty := 62) (enc := encB) (t := 62) (e := 4) (sz := 1) (bytes := 1) (info := infoOf Try.prog 4) (x := (.tmp 16)) (y := (.tmp 16)) (n := (a0.length : Int)) (kk := .i64) (kc := .i64) (z := .bool false) (x0 := false) hS5 (by kernel_rfl) (by kernel_rfl) (by kernel_rfl) (by kernel_rfl) (by kernel_rfl) (by kernel_rfl) (by kernel_rfl) (by kernel_rfl) (by kernel_rfl) (by kernel_rfl) len_encB (by omega) g11 (by omega) ?_
   intro A13 w14 hS15
   refine Runs.fill (m := [none, none, none, none, none, none, none, none, none, none, none, none, none, none, none, none, none, some (.slice A13 (a0.length : Int).toNat (a0.length : Int).toNat), none, none, none, none, none, none, none, none, none, none, none, none, none, none, none, none, none, none, none, none, none, none, none, none, none, none, none, none, none, none, none, none, none, none, none, none, none, none, none, none, none, none, none, none, none, none, none, none, none, none, none, none, none, none, none, none, none, none, none, none, none, none, none, none, none, none, none, none, none, none, none, none, none, none, none, none, none, none]) (by kernel_rfl) ?_
   refine Runs.refill (m' := [none, none, none, none, none, none, none, none, none, none, none, none, none, none, none, none, none, some (.slice A13 (List.replicate (a0.length : Int).toNat false).length ((a0.length : Int).toNat)), none, none, none, none, none, none, none, none, none, none, none, none, none, none, none, none, none, none, none, none, none, none, none, none, none, none, none, none, none, none, none, none, none, none, none, none, none, none, none, none, none, none, none, none, none, none, none, none, none, none, none, none, none, none, none, none, none, none, none, none, none, none, none, none, none, none, none, none, none, none, none, none, none, none, none, none, none, none]) (by simp only [List.length_replicate]) ?_
   refine sx_run 11 (todo' := [.code (cd15 [1, 1, 1, 0, 1, 0, 0]), .inLoop (cd15 [1, 1, 1, 0, 1, 0, 0]), .inBlock 0, .code (cd15 [1, 1, 1, 1])]) (us := [(7, .slice A13 (List.replicate (a0.length : Int).toNat false).length ((a0.length : Int).toNat)), (18, .slice Aa0 a0.length ca0), (19, .int .i64 (a0.length : Int)), (20, .int .i64 0)]) (by kernel_rfl) ?_
   obtain ⟨v17, hv18, hp19⟩ := bind_some' hp12
   have J24 : ∀ (t20 : List Bool) (t21 : Bool) (he26 : (t20, t21) = v17) (l25 : List Value) (w22 : World) (hS23 : St w0 Z (xrow A13 ((a0.length : Int).toNat) 4 1 (t20.flatMap encB) :: xblk ba1c0 34 ([.slice Aa1c0v a1c0v.length ca1c0v]) :: xblk ba1c1 4 ([.bool t21]) :: xblk ba1c2 37 ([.slice Aa1c2v_0 a1c2v.Refs.length ca1c2v_0, .slice Aa1c2v_1 a1c2v.Values.length ca1c2v_1, .int .i64 a1c2v.Rest]) :: fs) w22), Runs Try.prog 15 [.code (cd15 [1, 1, 1, 1])] (fill [some (.slice Aa0 a0.length ca0), none, none, none, none, none, none, some (.slice A13 t20.length ((a0.length : Int).toNat)), none, none, none, none, none, none, none, none, none, none, none, none, none, none, none, none, none, none, none, none, none, none, none, none, none, none, none, none, none, none, none, none, none, none, none, none, none, none, none, none, none, none, none, none, none, none, none, none, none, none, none, none, none, none, none, none, none, none, none, none, none, none, none, none, none, none, none, none, none, none, none, none, none, none, none, none, none, none, none, none, none, none, none, none, none, none, none, none] l25) w22 R := by
    intro t20 t21 he26 l25 w22 hS23
    subst he26
    try dsimp only at hp19
    refine sx_run 6 (todo' := [.inRegion (opsOf (cd15 [1, 1, 1, 1, 0])) [4, 5, 6, 7], .code (cd15 [1, 1, 1, 1, 1])]) (us := [(90, .slice A13 t20.length ((a0.length : Int).toNat)), (91, .slice Aa0 a0.length ca0), (92, .int .i64 (a0.length : Int)), (93, .int .i64 (IntKind.i64.wrap ((a0.length : Int) - 1)))]) (by kernel_rfl) ?_
    obtain ⟨g27, hp28⟩ := ite_some hp19
    obtain ⟨b29, p30, hA31, -⟩ := (hS23.row 0 rfl).at_ len_encB (by omega) g27.1 g27.2
    refine r_indexAddr (c := (cd15 [1, 1, 1, 1, 0])) (i := 4) (d := (some 94)) (ty := 0) (t := 62) (e := 4) (n := t20.length) (cp := (a0.length : Int).toNat) (sz := 1) (kk := .i64) (x := (.tmp 90)) (y := (.tmp 93)) (b := b29) (o' := p30) (j := (IntKind.i64.wrap ((a0.length : Int) - 1))) (by kernel_rfl) (by kernel_rfl) (slv (by kernel_rfl) hA31) (by kernel_rfl) (by kernel_rfl) (by kernel_rfl) g27.1 g27.2 ?_
    refine r_load (c := (cd15 [1, 1, 1, 1, 0])) (i := 5) (d := (some 95)) (ty := 4) (t := 4) (x := (.tmp 94)) (p := ⟨b29, p30 + (IntKind.i64.wrap ((a0.length : Int) - 1)).toNat * 1, none⟩) (v := .bool (gt t20 (IntKind.i64.wrap ((a0.length : Int) - 1)))) (by kernel_rfl) (by kernel_rfl) (by kernel_rfl) (loads_at 0 ((hS23.row 0 rfl).at2 hA31 len_encB (by omega) g27.1 g27.2) (by kernel_rfl) (by kernel_rfl)) ?_
    refine r_split (gt t20 (IntKind.i64.wrap ((a0.length : Int) - 1))) (fun h33 => ?_) (fun h34 => ?_)
    ·skip
     have hp35 := ite_t hp28 h33
     refine sx_run 3 (todo' := [.code (cd15 [1, 1, 1, 1, 1])]) (us := [(4, .bool true), (5, .int .i64 0)]) (by kernel_rfl) ?_
     have hS36 := hS23.drop
     refine runs_ret (fn := Try.f15) (v := .tuple #[.bool true, .int .i64 0]) Try.func15 (by kernel_rfl) ?_
     have hr37 := (Option.some.inj hp35)
     cases hr37
     exact hR _ _ ⟨rfl, hS36⟩
    ·skip
     have hp38 := ite_f hp28 h34
     refine sx_run 3 (todo' := [.code (cd15 [1, 1, 1, 1, 1])]) (us := [(4, .bool false), (5, .int .i64 0)]) (by kernel_rfl) ?_
     have hS39 := hS23.drop
     refine runs_ret (fn := Try.f15) (v := .tuple #[.bool false, .int .i64 0]) Try.func15 (by kernel_rfl) ?_
     have hr40 := (Option.some.inj hp38)
     cases hr40
     exact hR _ _ ⟨rfl, hS39⟩
   have L52 : ∀ (t41 : Int) (t42 : List Bool) (t43 : Bool) (e47 : ((List Bool) × Bool)), cond_Holds.l0 a0 a1c0v a1c2v t41 t42 t43 = some e47 → e47 = v17 → ∀ (l46 : List Value) (w44 : World) (hS45 : St w0 Z (xblk ba1c0 34 ([.slice Aa1c0v a1c0v.length ca1c0v]) :: xblk ba1c1 4 ([.bool t43]) :: xblk ba1c2 37 ([.slice Aa1c2v_0 a1c2v.Refs.length ca1c2v_0, .slice Aa1c2v_1 a1c2v.Values.length ca1c2v_1, .int .i64 a1c2v.Rest]) :: xrow A13 ((a0.length : Int).toNat) 4 1 (t42.flatMap encB) :: fs) w44), Runs Try.prog 15 [.code (cd15 [1, 1, 1, 0, 1, 0, 0]), .inLoop (cd15 [1, 1, 1, 0, 1, 0, 0]), .inBlock 0, .code (cd15 [1, 1, 1, 1])] (fill [some (.slice Aa0 a0.length ca0), some (.func (.func 16) #[] #[.pointer (some ⟨ba1c0, 0, none⟩), .pointer (some ⟨ba1c1, 0, none⟩), .pointer (some ⟨ba1c2, 0, none⟩)]), none, none, none, none, none, some (.slice A13 t42.length ((a0.length : Int).toNat)), none, none, none, none, none, none, none, none, none, none, some (.slice Aa0 a0.length ca0), some (.int .i64 (a0.length : Int)), some (.int .i64 t41), none, none, none, none, none, none, none, none, none, none, none, none, none, none, none, none, none, none, none, none, none, none, none, none, none, none, none, none, none, none, none, none, none, none, none, none, none, none, none, none, none, none, none, none, none, none, none, none, none, none, none, none, none, none, none, none, none, none, none, none, none, none, none, none, none, none, none, none, none, none, none, none, none, none, none] l46) w44 R := by
    refine cond_Holds.l0.partial_correctness a0 a1c0v a1c2v (fun t41 t42 t43 e47 => e47 = v17 → ∀ (l46 : List Value) (w44 : World) (hS45 : St w0 Z (xblk ba1c0 34 ([.slice Aa1c0v a1c0v.length ca1c0v]) :: xblk ba1c1 4 ([.bool t43]) :: xblk ba1c2 37 ([.slice Aa1c2v_0 a1c2v.Refs.length ca1c2v_0, .slice Aa1c2v_1 a1c2v.Values.length ca1c2v_1, .int .i64 a1c2v.Rest]) :: xrow A13 ((a0.length : Int).toNat) 4 1 (t42.flatMap encB) :: fs) w44), Runs Try.prog 15 [.code (cd15 [1, 1, 1, 0, 1, 0, 0]), .inLoop (cd15 [1, 1, 1, 0, 1, 0, 0]), .inBlock 0, .code (cd15 [1, 1, 1, 1])] (fill [some (.slice Aa0 a0.length ca0), some (.func (.func 16) #[] #[.pointer (some ⟨ba1c0, 0, none⟩), .pointer (some ⟨ba1c1, 0, none⟩), .pointer (some ⟨ba1c2, 0, none⟩)]), none, none, none, none, none, some (.slice A13 t42.length ((a0.length : Int).toNat)), none, none, none, none, none, none, none, none, none, none, some (.slice Aa0 a0.length ca0), some (.int .i64 (a0.length : Int)), some (.int .i64 t41), none, none, none, none, none, none, none, none, none, none, none, none, none, none, none, none, none, none, none, none, none, none, none, none, none, none, none, none, none, none, none, none, none, none, none, none, none, none, none, none, none, none, none, none, none, none, none, none, none, none, none, none, none, none, none, none, none, none, none, none, none, none, none, none, none, none, none, none, none, none, none, none, none, none, none] l46) w44 R) ?_
    intro rec51 ih50 t41 t42 t43 e47 hb49 he48 l46 w44 hS45
    refine sx_split 3 (todo' := [.inRegion (opsOf (cd15 [1, 1, 1, 0, 1, 0, 0, 0])) [], .code (cd15 [1, 1, 1, 0, 1, 0, 0, 1]), .inLoop (cd15 [1, 1, 1, 0, 1, 0, 0]), .inBlock 0, .code (cd15 [1, 1, 1, 1])]) (us := []) (d := 21) (t := (decide (t41 < (a0.length : Int)))) (by kernel_rfl) (fun h53 => ?_) (fun h54 => ?_)
    ·skip
     have hp55 := ite_t hb49 h53
     refine sx_run 9 (todo' := [.inRegion (opsOf (cd15 [1, 1, 1, 0, 1, 0, 0, 1, 1, 0, 0, 0])) [1, 2, 3, 4, 5], .code (cd15 [1, 1, 1, 0, 1, 0, 0, 1, 1, 0, 0, 1]), .inBlock 1, .code (cd15 [1, 1, 1, 0, 1, 0, 0, 1, 1, 1]), .inLoop (cd15 [1, 1, 1, 0, 1, 0, 0]), .inBlock 0, .code (cd15 [1, 1, 1, 1])]) (us := [(22, .int .i64 t41)]) (by kernel_rfl) ?_
     obtain ⟨g56, hp57⟩ := ite_some hp55
     obtain ⟨b58, p59, hA60, hc61⟩ := ha0.atF g56.1 g56.2
     refine r_indexAddr (c := (cd15 [1, 1, 1, 0, 1, 0, 0, 1, 1, 0, 0, 0])) (i := 1) (d := (some 23)) (ty := 0) (t := 23) (e := 52) (n := a0.length) (cp := ca0) (sz := 6) (kk := .i64) (x := (.tmp 18)) (y := (.tmp 20)) (b := b58) (o' := p59) (j := t41) (by kernel_rfl) (by kernel_rfl) (slv (by kernel_rfl) hA60) (by kernel_rfl) (by kernel_rfl) (by kernel_rfl) g56.1 g56.2 ?_
     refine r_load (c := (cd15 [1, 1, 1, 0, 1, 0, 0, 1, 1, 0, 0, 0])) (i := 2) (d := (some 24)) (ty := 52) (t := 52) (x := (.tmp 23)) (p := ⟨b58, p59 + t41.toNat * 6, none⟩) (v := .agg (enc_api_Node (gt a0 t41)).toArray) (by kernel_rfl) (by kernel_rfl) (by kernel_rfl) (loads_agg (hc61.cells hS45) (by kernel_rfl) (by kernel_rfl)) ?_
     refine r_alloc (c := (cd15 [1, 1, 1, 0, 1, 0, 0, 1, 1, 0, 0, 0])) (i := 3) (d := (some 9)) (ty := 0) (z := .agg (enc_api_Node (⟨0, 0, 0, ⟨0, (⟨#[]⟩ : ByteArray)⟩, 0⟩ : api_Node)).toArray) (t := 52) (cs := enc_api_Node (⟨0, 0, 0, ⟨0, (⟨#[]⟩ : ByteArray)⟩, 0⟩ : api_Node)) hS45 (by kernel_rfl) (by kernel_rfl) (by kernel_rfl) (by kernel_rfl) ?_
     intro b62 w63 hS64
     refine sx_run 1 (todo' := [.inRegion (opsOf (cd15 [1, 1, 1, 0, 1, 0, 0, 1, 1, 0, 0, 0])) [5], .code (cd15 [1, 1, 1, 0, 1, 0, 0, 1, 1, 0, 0, 1]), .inBlock 1, .code (cd15 [1, 1, 1, 0, 1, 0, 0, 1, 1, 1]), .inLoop (cd15 [1, 1, 1, 0, 1, 0, 0]), .inBlock 0, .code (cd15 [1, 1, 1, 1])]) (us := [(8, .int .i64 t41)]) (by kernel_rfl) ?_
     refine r_store (c := (cd15 [1, 1, 1, 0, 1, 0, 0, 1, 1, 0, 0, 0])) (i := 5) (d := none) (ty := 0) (t := 52) (x := (.tmp 9)) (y := (.tmp 24)) (b := b62) (o := 0) (e := 52) (cs := enc_api_Node (⟨0, 0, 0, ⟨0, (⟨#[]⟩ : ByteArray)⟩, 0⟩ : api_Node)) (v := .agg (enc_api_Node (gt a0 t41)).toArray) (vs := enc_api_Node (gt a0 t41)) (cs' := enc_api_Node (gt a0 t41)) hS64 (by kernel_rfl) (by kernel_rfl) (by kernel_rfl) (by kernel_rfl) (by kernel_rfl) (by kernel_rfl) (one_api_Node _) (Nat.le_of_ble_eq_true (by kernel_rfl)) (by kernel_rfl) ?_
     intro w66 hS67
     refine sx_run 4 (todo' := [.inRegion (opsOf (cd15 [1, 1, 1, 0, 1, 0, 0, 1, 1, 0, 0, 1, 0])) [1], .code (cd15 [1, 1, 1, 0, 1, 0, 0, 1, 1, 0, 0, 1, 1]), .inBlock 1, .code (cd15 [1, 1, 1, 0, 1, 0, 0, 1, 1, 1]), .inLoop (cd15 [1, 1, 1, 0, 1, 0, 0]), .inBlock 0, .code (cd15 [1, 1, 1, 1])]) (us := [(25, .pointer (some ⟨b62, 0, none⟩))]) (by kernel_rfl) ?_
     refine r_load (c := (cd15 [1, 1, 1, 0, 1, 0, 0, 1, 1, 0, 0, 1, 0])) (i := 1) (d := (some 26)) (ty := 3) (t := 3) (x := (.tmp 25)) (p := ⟨b62, 0, none⟩) (v := .int .i64 ((gt a0 t41).Op)) (by kernel_rfl) (by kernel_rfl) (by kernel_rfl) (loads_at 0 (hS67.blk 0 rfl) (by kernel_rfl) (by kernel_rfl)) ?_
     refine sx_split 5 (todo' := [.inRegion (opsOf (cd15 [1, 1, 1, 0, 1, 0, 0, 1, 1, 0, 0, 1, 1, 0, 0])) [1], .code (cd15 [1, 1, 1, 0, 1, 0, 0, 1, 1, 0, 0, 1, 1, 0, 1]), .inBlock 2, .inBlock 1, .code (cd15 [1, 1, 1, 0, 1, 0, 0, 1, 1, 1]), .inLoop (cd15 [1, 1, 1, 0, 1, 0, 0]), .inBlock 0, .code (cd15 [1, 1, 1, 1])]) (us := []) (d := 28) (t := (((gt a0 t41).Op) == 1)) (by kernel_rfl) (fun h68 => ?_) (fun h69 => ?_)
     ·skip
      have hp70 := ite_t hp57 h68
      refine sx_run 6 (todo' := [.inRegion (opsOf (cd15 [1, 1, 1, 0, 1, 0, 0, 1, 1, 0, 0, 1, 1, 0, 1, 0])) [2, 3], .inBlock 2, .inBlock 1, .code (cd15 [1, 1, 1, 0, 1, 0, 0, 1, 1, 1]), .inLoop (cd15 [1, 1, 1, 0, 1, 0, 0]), .inBlock 0, .code (cd15 [1, 1, 1, 1])]) (us := [(27, .bool true), (29, .slice A13 t42.length ((a0.length : Int).toNat)), (30, .int .i64 t41)]) (by kernel_rfl) ?_
      obtain ⟨g71, hp72⟩ := ite_some hp70
      obtain ⟨b73, p74, hA75, -⟩ := (hS67.row 4 rfl).at_ len_encB (by omega) g71.1 g71.2
      refine r_indexAddr (c := (cd15 [1, 1, 1, 0, 1, 0, 0, 1, 1, 0, 0, 1, 1, 0, 1, 0])) (i := 2) (d := (some 31)) (ty := 0) (t := 62) (e := 4) (n := t42.length) (cp := (a0.length : Int).toNat) (sz := 1) (kk := .i64) (x := (.tmp 29)) (y := (.tmp 30)) (b := b73) (o' := p74) (j := t41) (by kernel_rfl) (by kernel_rfl) (slv (by kernel_rfl) hA75) (by kernel_rfl) (by kernel_rfl) (by kernel_rfl) g71.1 g71.2 ?_
      have hS77 := hS67.pick4
      refine r_storeEl (c := (cd15 [1, 1, 1, 0, 1, 0, 0, 1, 1, 0, 0, 1, 1, 0, 1, 0])) (i := 3) (d := none) (ty := 0) (enc := encB) (e := 4) (t := 4) (sz := 1) (cp := (a0.length : Int).toNat) (A := A13) (xs := t42) (x := (.tmp 31)) (y := (.const (.bool true))) (el := gt t42 t41) (el' := true) (j := t41) (off := 0) (b := b73) (p := p74) (v := .bool true) (vs := [.bool true]) (ad := ⟨b73, p74 + t41.toNat * 1, none⟩) hS77 (by kernel_rfl) (by kernel_rfl) (by kernel_rfl) (by simp) (by kernel_rfl) hA75 g71 rfl len_encB (by kernel_rfl) (by kernel_rfl) (by kernel_rfl) (Nat.le_of_ble_eq_true (by kernel_rfl)) (Nat.le_of_ble_eq_true (by kernel_rfl)) (by kernel_rfl) ?_
      intro w78 hS79
      refine Runs.fill (m := [none, none, none, none, none, none, none, some (.slice A13 t42.length ((a0.length : Int).toNat)), none, none, none, none, none, none, none, none, none, none, none, none, none, none, none, none, none, none, none, none, none, some (.slice A13 t42.length ((a0.length : Int).toNat)), none, none, none, none, none, none, none, none, none, none, none, none, none, none, none, none, none, none, none, none, none, none, none, none, none, none, none, none, none, none, none, none, none, none, none, none, none, none, none, none, none, none, none, none, none, none, none, none, none, none, none, none, none, none, none, none, none, none, none, none, none, none, none, none, none, none]) (by kernel_rfl) ?_
      refine Runs.refill (m' := [none, none, none, none, none, none, none, some (.slice A13 (setl t42 t41 true).length ((a0.length : Int).toNat)), none, none, none, none, none, none, none, none, none, none, none, none, none, none, none, none, none, none, none, none, none, some (.slice A13 (setl t42 t41 true).length ((a0.length : Int).toNat)), none, none, none, none, none, none, none, none, none, none, none, none, none, none, none, none, none, none, none, none, none, none, none, none, none, none, none, none, none, none, none, none, none, none, none, none, none, none, none, none, none, none, none, none, none, none, none, none, none, none, none, none, none, none, none, none, none, none, none, none, none, none, none, none, none, none]) (by simp only [setl_len]) ?_
      refine sx_run 7 (todo' := [.inLoop (cd15 [1, 1, 1, 0, 1, 0, 0]), .inBlock 0, .code (cd15 [1, 1, 1, 1])]) (us := [(89, .int .i64 (IntKind.i64.wrap (t41 + 1))), (20, .int .i64 (IntKind.i64.wrap (t41 + 1)))]) (by kernel_rfl) ?_
      have hS80 := hS79.pick1
      have hS81 := hS80.drop
      have hS82 := hS81.pick3
      have hS83 := hS82.pick3
      have hS84 := hS83.pick3
      refine sx_run 1 (todo' := [.code (cd15 [1, 1, 1, 0, 1, 0, 0]), .inLoop (cd15 [1, 1, 1, 0, 1, 0, 0]), .inBlock 0, .code (cd15 [1, 1, 1, 1])]) (us := []) (by kernel_rfl) ?_
      refine Runs.fill (m := [some (.slice Aa0 a0.length ca0), some (.func (.func 16) #[] #[.pointer (some ⟨ba1c0, 0, none⟩), .pointer (some ⟨ba1c1, 0, none⟩), .pointer (some ⟨ba1c2, 0, none⟩)]), none, none, none, none, none, some (.slice A13 (setl t42 t41 true).length ((a0.length : Int).toNat)), none, none, none, none, none, none, none, none, none, none, some (.slice Aa0 a0.length ca0), some (.int .i64 (a0.length : Int)), some (.int .i64 (IntKind.i64.wrap (t41 + 1))), none, none, none, none, none, none, none, none, none, none, none, none, none, none, none, none, none, none, none, none, none, none, none, none, none, none, none, none, none, none, none, none, none, none, none, none, none, none, none, none, none, none, none, none, none, none, none, none, none, none, none, none, none, none, none, none, none, none, none, none, none, none, none, none, none, none, none, none, none, none, none, none, none, none, none]) (by kernel_rfl) ?_
      exact ih50 (IntKind.i64.wrap (t41 + 1)) (setl t42 t41 true) t43 _ hp72 he48 _ _ hS84
     ·skip
      have hp85 := ite_f hp57 h69
      refine sx_split 6 (todo' := [.inRegion (opsOf (cd15 [1, 1, 1, 0, 1, 0, 0, 1, 1, 0, 0, 1, 1, 0, 1, 1, 0])) [1], .code (cd15 [1, 1, 1, 0, 1, 0, 0, 1, 1, 0, 0, 1, 1, 0, 1, 1, 1]), .inBlock 2, .inBlock 1, .code (cd15 [1, 1, 1, 0, 1, 0, 0, 1, 1, 1]), .inLoop (cd15 [1, 1, 1, 0, 1, 0, 0]), .inBlock 0, .code (cd15 [1, 1, 1, 1])]) (us := [(27, .bool false)]) (d := 33) (t := (((gt a0 t41).Op) == 2)) (by kernel_rfl) (fun h86 => ?_) (fun h87 => ?_)
      ·skip
       have hp88 := ite_t hp85 h86
       refine sx_run 3 (todo' := [.code (cd15 [1, 1, 1, 0, 1, 0, 0, 1, 1, 0, 0, 1, 1, 0, 1, 1, 1, 0]), .inBlock 2, .inBlock 1, .code (cd15 [1, 1, 1, 0, 1, 0, 0, 1, 1, 1]), .inLoop (cd15 [1, 1, 1, 0, 1, 0, 0]), .inBlock 0, .code (cd15 [1, 1, 1, 1])]) (us := [(32, .bool true)]) (by kernel_rfl) ?_
       obtain ⟨⟨t89, t90⟩, hr91, hp92⟩ := bind_some' hp88
       try dsimp only at hp92
       obtain ⟨g110, hp111⟩ := ite_some hp92
       obtain ⟨b112, p113, hA114, -⟩ := (hS67.row 4 rfl).at_ len_encB (by omega) g110.1 g110.2
       refine r_drawnP (S := Option Unit × Option Unit) (dn := (fun (st : Option Unit × Option Unit) k => [st.1.isSome, st.2.isSome].getD k true)) (C := (fun st w' => match st with | (none, none) => St w0 Z (xblk b62 52 (enc_api_Node (gt a0 t41)) :: xblk ba1c0 34 ([.slice Aa1c0v a1c0v.length ca1c0v]) :: xblk ba1c1 4 ([.bool t43]) :: xblk ba1c2 37 ([.slice Aa1c2v_0 a1c2v.Refs.length ca1c2v_0, .slice Aa1c2v_1 a1c2v.Values.length ca1c2v_1, .int .i64 a1c2v.Rest]) :: xrow A13 ((a0.length : Int).toNat) 4 1 (t42.flatMap encB) :: fs) w' | (none, some _) => False | (some x93, none) => St w0 Z (xblk b62 52 (enc_api_Node (gt a0 t41)) :: xblk ba1c0 34 ([.slice Aa1c0v a1c0v.length ca1c0v]) :: xblk ba1c1 4 ([.bool t90]) :: xblk ba1c2 37 ([.slice Aa1c2v_0 a1c2v.Refs.length ca1c2v_0, .slice Aa1c2v_1 a1c2v.Values.length ca1c2v_1, .int .i64 a1c2v.Rest]) :: xrow A13 ((a0.length : Int).toNat) 4 1 (t42.flatMap encB) :: fs) w' | (some x93, some _) => St w0 Z (xrow A13 ((a0.length : Int).toNat) 4 1 ((setl t42 t41 (t89 == ((gt a0 t41).Value))).flatMap encB) :: xblk b62 52 (enc_api_Node (gt a0 t41)) :: xblk ba1c0 34 ([.slice Aa1c0v a1c0v.length ca1c0v]) :: xblk ba1c1 4 ([.bool t90]) :: xblk ba1c2 37 ([.slice Aa1c2v_0 a1c2v.Refs.length ca1c2v_0, .slice Aa1c2v_1 a1c2v.Values.length ca1c2v_1, .int .i64 a1c2v.Rest]) :: fs) w')) (v := (fun st => match st with | (none, none) => [.slice A13 t42.length ((a0.length : Int).toNat), .int .i64 t41, .func (.func 16) #[] #[.pointer (some ⟨ba1c0, 0, none⟩), .pointer (some ⟨ba1c1, 0, none⟩), .pointer (some ⟨ba1c2, 0, none⟩)], .pointer (some ⟨b62, 3, none⟩), .agg (enc_api_Ref ((gt a0 t41).Ref)).toArray, undef, .pointer (some ⟨b62, 5, none⟩), .int .i64 ((gt a0 t41).Value), undef, undef, undef] | (none, some _) => [.slice A13 t42.length ((a0.length : Int).toNat), .int .i64 t41, .func (.func 16) #[] #[.pointer (some ⟨ba1c0, 0, none⟩), .pointer (some ⟨ba1c1, 0, none⟩), .pointer (some ⟨ba1c2, 0, none⟩)], .pointer (some ⟨b62, 3, none⟩), .agg (enc_api_Ref ((gt a0 t41).Ref)).toArray, undef, .pointer (some ⟨b62, 5, none⟩), .int .i64 ((gt a0 t41).Value), undef, undef, undef] | (some x93, none) => [.slice A13 t42.length ((a0.length : Int).toNat), .int .i64 t41, .func (.func 16) #[] #[.pointer (some ⟨ba1c0, 0, none⟩), .pointer (some ⟨ba1c1, 0, none⟩), .pointer (some ⟨ba1c2, 0, none⟩)], .pointer (some ⟨b62, 3, none⟩), .agg (enc_api_Ref ((gt a0 t41).Ref)).toArray, .int .i64 t89, .pointer (some ⟨b62, 5, none⟩), .int .i64 ((gt a0 t41).Value), .bool (t89 == ((gt a0 t41).Value)), .pointer (some ⟨b112, p113 + t41.toNat * 1, none⟩), undef] | (some x93, some _) => [.slice A13 t42.length ((a0.length : Int).toNat), .int .i64 t41, .func (.func 16) #[] #[.pointer (some ⟨ba1c0, 0, none⟩), .pointer (some ⟨ba1c1, 0, none⟩), .pointer (some ⟨ba1c2, 0, none⟩)], .pointer (some ⟨b62, 3, none⟩), .agg (enc_api_Ref ((gt a0 t41).Ref)).toArray, .int .i64 t89, .pointer (some ⟨b62, 5, none⟩), .int .i64 ((gt a0 t41).Value), .bool (t89 == ((gt a0 t41).Value)), .pointer (some ⟨b112, p113 + t41.toNat * 1, none⟩), undef])) (c := (cd15 [1, 1, 1, 0, 1, 0, 0, 1, 1, 0, 0, 1, 1, 0, 1, 1, 1, 0])) (id := 12) (none, none) 10 11 [5, 10] [[], [], [], [], [], [], [], [], [0], [0], [0]] [[1], [1], [0, 1], [1], [0, 1], [1], [1], [1], [1], [1], []] [] [true, true, true, true, true, true, true, true, true, true, true] (by kernel_rfl) (by kernel_rfl) (by kernel_rfl) (by kernel_rfl) (by kernel_rfl) (by kernel_rfl) (by kernel_rfl) (by kernel_rfl) (by kernel_rfl) (fun k hk => match k, hk with | 0, _ => rfl | 1, _ => rfl | k + 2, hk => absurd hk (by simp)) hS67.drew ?_ (fun k hk => match k, hk with | 0, _ => rfl | 1, _ => rfl | k + 2, hk => absurd hk (by simp)) ?_ ?_ ?_
       ·intro i hi st w hC hd
        match i, hi with
        | 0, _ => (show _ = _; kernel_rfl)
        | 1, _ => (show _ = _; kernel_rfl)
        | 2, _ => (show _ = _; kernel_rfl)
        | 3, _ => (show _ = _; kernel_rfl)
        | 4, _ => (show _ = _; kernel_rfl)
        | 5, _ => (show _ = _; kernel_rfl)
        | 6, _ => (show _ = _; kernel_rfl)
        | 7, _ => (show _ = _; kernel_rfl)
        | 8, _ => (show _ = _; kernel_rfl)
        | 9, _ => (show _ = _; kernel_rfl)
        | 10, _ => (show _ = _; kernel_rfl)
        | i + 11, hi => exact absurd hi (by omega)
       ·intro i hi he st w hC hd hu
        match i, hi, he with
        | 0, _, _ =>
         rcases st with ⟨_ | x93, _ | _⟩
         ·replace hC : St w0 Z (xblk b62 52 (enc_api_Node (gt a0 t41)) :: xblk ba1c0 34 ([.slice Aa1c0v a1c0v.length ca1c0v]) :: xblk ba1c1 4 ([.bool t43]) :: xblk ba1c2 37 ([.slice Aa1c2v_0 a1c2v.Refs.length ca1c2v_0, .slice Aa1c2v_1 a1c2v.Values.length ca1c2v_1, .int .i64 a1c2v.Rest]) :: xrow A13 ((a0.length : Int).toNat) 4 1 (t42.flatMap encB) :: fs) w := hC
          exact ⟨fun _ => does_pure (v := .slice A13 t42.length ((a0.length : Int).toNat)) (by kernel_rfl) rfl hC, fun h => absurd h (by decide)⟩
         ·exact False.elim hC
         ·replace hC : St w0 Z (xblk b62 52 (enc_api_Node (gt a0 t41)) :: xblk ba1c0 34 ([.slice Aa1c0v a1c0v.length ca1c0v]) :: xblk ba1c1 4 ([.bool t90]) :: xblk ba1c2 37 ([.slice Aa1c2v_0 a1c2v.Refs.length ca1c2v_0, .slice Aa1c2v_1 a1c2v.Values.length ca1c2v_1, .int .i64 a1c2v.Rest]) :: xrow A13 ((a0.length : Int).toNat) 4 1 (t42.flatMap encB) :: fs) w := hC
          exact ⟨fun _ => does_pure (v := .slice A13 t42.length ((a0.length : Int).toNat)) (by kernel_rfl) rfl hC, fun h => absurd h (by decide)⟩
         ·exact Bool.noConfusion (hu 1 (by decide))
        | 1, _, _ =>
         rcases st with ⟨_ | x93, _ | _⟩
         ·replace hC : St w0 Z (xblk b62 52 (enc_api_Node (gt a0 t41)) :: xblk ba1c0 34 ([.slice Aa1c0v a1c0v.length ca1c0v]) :: xblk ba1c1 4 ([.bool t43]) :: xblk ba1c2 37 ([.slice Aa1c2v_0 a1c2v.Refs.length ca1c2v_0, .slice Aa1c2v_1 a1c2v.Values.length ca1c2v_1, .int .i64 a1c2v.Rest]) :: xrow A13 ((a0.length : Int).toNat) 4 1 (t42.flatMap encB) :: fs) w := hC
          exact ⟨fun _ => does_pure (v := .int .i64 t41) (by kernel_rfl) rfl hC, fun h => absurd h (by decide)⟩
         ·exact False.elim hC
         ·replace hC : St w0 Z (xblk b62 52 (enc_api_Node (gt a0 t41)) :: xblk ba1c0 34 ([.slice Aa1c0v a1c0v.length ca1c0v]) :: xblk ba1c1 4 ([.bool t90]) :: xblk ba1c2 37 ([.slice Aa1c2v_0 a1c2v.Refs.length ca1c2v_0, .slice Aa1c2v_1 a1c2v.Values.length ca1c2v_1, .int .i64 a1c2v.Rest]) :: xrow A13 ((a0.length : Int).toNat) 4 1 (t42.flatMap encB) :: fs) w := hC
          exact ⟨fun _ => does_pure (v := .int .i64 t41) (by kernel_rfl) rfl hC, fun h => absurd h (by decide)⟩
         ·exact Bool.noConfusion (hu 1 (by decide))
        | 2, _, _ =>
         rcases st with ⟨_ | x93, _ | _⟩
         ·replace hC : St w0 Z (xblk b62 52 (enc_api_Node (gt a0 t41)) :: xblk ba1c0 34 ([.slice Aa1c0v a1c0v.length ca1c0v]) :: xblk ba1c1 4 ([.bool t43]) :: xblk ba1c2 37 ([.slice Aa1c2v_0 a1c2v.Refs.length ca1c2v_0, .slice Aa1c2v_1 a1c2v.Values.length ca1c2v_1, .int .i64 a1c2v.Rest]) :: xrow A13 ((a0.length : Int).toNat) 4 1 (t42.flatMap encB) :: fs) w := hC
          exact ⟨fun _ => does_pure (v := .func (.func 16) #[] #[.pointer (some ⟨ba1c0, 0, none⟩), .pointer (some ⟨ba1c1, 0, none⟩), .pointer (some ⟨ba1c2, 0, none⟩)]) (by kernel_rfl) rfl hC, fun h => absurd h (by decide)⟩
         ·exact False.elim hC
         ·exact Bool.noConfusion (hu 0 (by decide))
         ·exact Bool.noConfusion (hu 0 (by decide))
        | 3, _, _ =>
         rcases st with ⟨_ | x93, _ | _⟩
         ·replace hC : St w0 Z (xblk b62 52 (enc_api_Node (gt a0 t41)) :: xblk ba1c0 34 ([.slice Aa1c0v a1c0v.length ca1c0v]) :: xblk ba1c1 4 ([.bool t43]) :: xblk ba1c2 37 ([.slice Aa1c2v_0 a1c2v.Refs.length ca1c2v_0, .slice Aa1c2v_1 a1c2v.Values.length ca1c2v_1, .int .i64 a1c2v.Rest]) :: xrow A13 ((a0.length : Int).toNat) 4 1 (t42.flatMap encB) :: fs) w := hC
          exact ⟨fun _ => does_pure (v := .pointer (some ⟨b62, 3, none⟩)) (by kernel_rfl) rfl hC, fun h => absurd h (by decide)⟩
         ·exact False.elim hC
         ·replace hC : St w0 Z (xblk b62 52 (enc_api_Node (gt a0 t41)) :: xblk ba1c0 34 ([.slice Aa1c0v a1c0v.length ca1c0v]) :: xblk ba1c1 4 ([.bool t90]) :: xblk ba1c2 37 ([.slice Aa1c2v_0 a1c2v.Refs.length ca1c2v_0, .slice Aa1c2v_1 a1c2v.Values.length ca1c2v_1, .int .i64 a1c2v.Rest]) :: xrow A13 ((a0.length : Int).toNat) 4 1 (t42.flatMap encB) :: fs) w := hC
          exact ⟨fun _ => does_pure (v := .pointer (some ⟨b62, 3, none⟩)) (by kernel_rfl) rfl hC, fun h => absurd h (by decide)⟩
         ·exact Bool.noConfusion (hu 1 (by decide))
        | 4, _, _ =>
         rcases st with ⟨_ | x93, _ | _⟩
         ·replace hC : St w0 Z (xblk b62 52 (enc_api_Node (gt a0 t41)) :: xblk ba1c0 34 ([.slice Aa1c0v a1c0v.length ca1c0v]) :: xblk ba1c1 4 ([.bool t43]) :: xblk ba1c2 37 ([.slice Aa1c2v_0 a1c2v.Refs.length ca1c2v_0, .slice Aa1c2v_1 a1c2v.Values.length ca1c2v_1, .int .i64 a1c2v.Rest]) :: xrow A13 ((a0.length : Int).toNat) 4 1 (t42.flatMap encB) :: fs) w := hC
          exact ⟨fun _ => does_run (x_load (t := 46) (x := (.tmp 37)) (p := ⟨b62, 3, none⟩) (v := .agg (enc_api_Ref ((gt a0 t41).Ref)).toArray) (by kernel_rfl) (loads_agg (sub_api_Node_Ref (hC.blk 0 rfl)) (by kernel_rfl) (by kernel_rfl)) (by kernel_rfl)) rfl hC, fun h => absurd h (by decide)⟩
         ·exact False.elim hC
         ·exact Bool.noConfusion (hu 0 (by decide))
         ·exact Bool.noConfusion (hu 0 (by decide))
        | 5, _, he => exact absurd he (by decide)
        | 6, _, _ =>
         rcases st with ⟨_ | x93, _ | _⟩
         ·replace hC : St w0 Z (xblk b62 52 (enc_api_Node (gt a0 t41)) :: xblk ba1c0 34 ([.slice Aa1c0v a1c0v.length ca1c0v]) :: xblk ba1c1 4 ([.bool t43]) :: xblk ba1c2 37 ([.slice Aa1c2v_0 a1c2v.Refs.length ca1c2v_0, .slice Aa1c2v_1 a1c2v.Values.length ca1c2v_1, .int .i64 a1c2v.Rest]) :: xrow A13 ((a0.length : Int).toNat) 4 1 (t42.flatMap encB) :: fs) w := hC
          exact ⟨fun _ => does_pure (v := .pointer (some ⟨b62, 5, none⟩)) (by kernel_rfl) rfl hC, fun h => absurd h (by decide)⟩
         ·exact False.elim hC
         ·replace hC : St w0 Z (xblk b62 52 (enc_api_Node (gt a0 t41)) :: xblk ba1c0 34 ([.slice Aa1c0v a1c0v.length ca1c0v]) :: xblk ba1c1 4 ([.bool t90]) :: xblk ba1c2 37 ([.slice Aa1c2v_0 a1c2v.Refs.length ca1c2v_0, .slice Aa1c2v_1 a1c2v.Values.length ca1c2v_1, .int .i64 a1c2v.Rest]) :: xrow A13 ((a0.length : Int).toNat) 4 1 (t42.flatMap encB) :: fs) w := hC
          exact ⟨fun _ => does_pure (v := .pointer (some ⟨b62, 5, none⟩)) (by kernel_rfl) rfl hC, fun h => absurd h (by decide)⟩
         ·exact Bool.noConfusion (hu 1 (by decide))
        | 7, _, _ =>
         rcases st with ⟨_ | x93, _ | _⟩
         ·replace hC : St w0 Z (xblk b62 52 (enc_api_Node (gt a0 t41)) :: xblk ba1c0 34 ([.slice Aa1c0v a1c0v.length ca1c0v]) :: xblk ba1c1 4 ([.bool t43]) :: xblk ba1c2 37 ([.slice Aa1c2v_0 a1c2v.Refs.length ca1c2v_0, .slice Aa1c2v_1 a1c2v.Values.length ca1c2v_1, .int .i64 a1c2v.Rest]) :: xrow A13 ((a0.length : Int).toNat) 4 1 (t42.flatMap encB) :: fs) w := hC
          exact ⟨fun _ => does_run (x_load (t := 2) (x := (.tmp 40)) (p := ⟨b62, 5, none⟩) (v := .int .i64 ((gt a0 t41).Value)) (by kernel_rfl) (loads_at 5 (hC.blk 0 rfl) (by kernel_rfl) (by kernel_rfl)) (by kernel_rfl)) rfl hC, fun h => absurd h (by decide)⟩
         ·exact False.elim hC
         ·replace hC : St w0 Z (xblk b62 52 (enc_api_Node (gt a0 t41)) :: xblk ba1c0 34 ([.slice Aa1c0v a1c0v.length ca1c0v]) :: xblk ba1c1 4 ([.bool t90]) :: xblk ba1c2 37 ([.slice Aa1c2v_0 a1c2v.Refs.length ca1c2v_0, .slice Aa1c2v_1 a1c2v.Values.length ca1c2v_1, .int .i64 a1c2v.Rest]) :: xrow A13 ((a0.length : Int).toNat) 4 1 (t42.flatMap encB) :: fs) w := hC
          exact ⟨fun _ => does_run (x_load (t := 2) (x := (.tmp 40)) (p := ⟨b62, 5, none⟩) (v := .int .i64 ((gt a0 t41).Value)) (by kernel_rfl) (loads_at 5 (hC.blk 0 rfl) (by kernel_rfl) (by kernel_rfl)) (by kernel_rfl)) rfl hC, fun h => absurd h (by decide)⟩
         ·exact Bool.noConfusion (hu 1 (by decide))
        | 8, _, _ =>
         rcases st with ⟨_ | x93, _ | _⟩
         ·exact Bool.noConfusion (hd 0 (by decide))
         ·exact False.elim hC
         ·replace hC : St w0 Z (xblk b62 52 (enc_api_Node (gt a0 t41)) :: xblk ba1c0 34 ([.slice Aa1c0v a1c0v.length ca1c0v]) :: xblk ba1c1 4 ([.bool t90]) :: xblk ba1c2 37 ([.slice Aa1c2v_0 a1c2v.Refs.length ca1c2v_0, .slice Aa1c2v_1 a1c2v.Values.length ca1c2v_1, .int .i64 a1c2v.Rest]) :: xrow A13 ((a0.length : Int).toNat) 4 1 (t42.flatMap encB) :: fs) w := hC
          exact ⟨fun _ => does_pure (v := .bool (t89 == ((gt a0 t41).Value))) (by kernel_rfl) rfl hC, fun h => absurd h (by decide)⟩
         ·exact Bool.noConfusion (hu 1 (by decide))
        | 9, _, _ =>
         rcases st with ⟨_ | x93, _ | _⟩
         ·exact Bool.noConfusion (hd 0 (by decide))
         ·exact False.elim hC
         ·replace hC : St w0 Z (xblk b62 52 (enc_api_Node (gt a0 t41)) :: xblk ba1c0 34 ([.slice Aa1c0v a1c0v.length ca1c0v]) :: xblk ba1c1 4 ([.bool t90]) :: xblk ba1c2 37 ([.slice Aa1c2v_0 a1c2v.Refs.length ca1c2v_0, .slice Aa1c2v_1 a1c2v.Values.length ca1c2v_1, .int .i64 a1c2v.Rest]) :: xrow A13 ((a0.length : Int).toNat) 4 1 (t42.flatMap encB) :: fs) w := hC
          exact ⟨fun _ => does_run (x_indexAddr (t := 62) (e := 4) (x := (.tmp 34)) (y := (.tmp 35)) (b := b112) (o' := p113) (n := t42.length) (cp := (a0.length : Int).toNat) (sz := 1) (kk := .i64) (j := t41) (slv (by kernel_rfl) hA114) (by kernel_rfl) (by kernel_rfl) (by kernel_rfl) g110.1 g110.2 (by kernel_rfl)) rfl hC, fun h => absurd h (by decide)⟩
         ·exact Bool.noConfusion (hu 1 (by decide))
        | 10, _, he => exact absurd he (by decide)
        | i + 11, hi, _ => exact absurd hi (by omega)
       ·intro k hk st w hC hr hm
        match k, hk with
        | 0, _ =>
         rcases st with ⟨_ | x93, _ | _⟩
         ·replace hC : St w0 Z (xblk b62 52 (enc_api_Node (gt a0 t41)) :: xblk ba1c0 34 ([.slice Aa1c0v a1c0v.length ca1c0v]) :: xblk ba1c1 4 ([.bool t43]) :: xblk ba1c2 37 ([.slice Aa1c2v_0 a1c2v.Refs.length ca1c2v_0, .slice Aa1c2v_1 a1c2v.Values.length ca1c2v_1, .int .i64 a1c2v.Rest]) :: xrow A13 ((a0.length : Int).toNat) 4 1 (t42.flatMap encB) :: fs) w := hC
          have hS116 := hC.pick3
          have hS117 := hS116.pick3
          have hS118 := hS117.pick3
          refine does_call (g := 16) (args := #[.agg (enc_api_Ref ((gt a0 t41).Ref)).toArray, .pointer (some ⟨ba1c0, 0, none⟩), .pointer (some ⟨ba1c1, 0, none⟩), .pointer (some ⟨ba1c2, 0, none⟩)]) (by kernel_rfl) (weirlaw06_CondAsks_1.ok ((gt a0 t41).Ref) a1c0v t43 (⟨a1c2v.Refs, a1c2v.Values, a1c2v.Rest⟩ : weirlaw06_Set) ba1c0 Aa1c0v ca1c0v ba1c1 ba1c2 Aa1c2v_0 ca1c2v_0 Aa1c2v_1 ca1c2v_1 hS118 ha1c0v ha1c2v_0 ha1c2v_1 hr91) ?_
          rintro e w2 ⟨rfl, h2⟩
          refine ⟨_, rfl, ?_⟩
          have hS119 := h2.pick4
          have hS120 := hS119.pick3
          have hS121 := hS120.pick3
          have hS122 := hS121.pick3
          have hS123 := hS122.pick4
          have h2 := hS123
          have h2 := h2.pick4
          have h2 := h2.pick4
          have h2 := h2.pick4
          have h2 := h2.pick4
          have h2 := h2.pick4
          refine ⟨(some (), none), rfl, ?_, ?_, .inr rfl, h2⟩
          ·intro m hne; match m, hne with
           | 0, hne => exact absurd rfl hne
           | 1, hne => exact rfl
           | m + 2, _ => exact rfl
          ·intro j hj; match j, hj with
           | 0, hj => exact rfl
           | 1, hj => exact rfl
           | 2, hj => exact rfl
           | 3, hj => exact rfl
           | 4, hj => exact rfl
           | 5, hj => exact absurd (by decide) hj
           | 6, hj => exact rfl
           | 7, hj => exact rfl
           | 8, hj => exact absurd (by decide) hj
           | 9, hj => exact absurd (by decide) hj
           | 10, hj => exact absurd (by decide) hj
           | j + 11, _ => exact rfl
         ·exact False.elim hC
         ·exact Bool.noConfusion hr
         ·exact Bool.noConfusion hr
        | 1, _ =>
         rcases st with ⟨_ | x93, _ | _⟩
         ·exact Bool.noConfusion (hm 0 (by decide))
         ·exact False.elim hC
         ·replace hC : St w0 Z (xblk b62 52 (enc_api_Node (gt a0 t41)) :: xblk ba1c0 34 ([.slice Aa1c0v a1c0v.length ca1c0v]) :: xblk ba1c1 4 ([.bool t90]) :: xblk ba1c2 37 ([.slice Aa1c2v_0 a1c2v.Refs.length ca1c2v_0, .slice Aa1c2v_1 a1c2v.Values.length ca1c2v_1, .int .i64 a1c2v.Rest]) :: xrow A13 ((a0.length : Int).toNat) 4 1 (t42.flatMap encB) :: fs) w := hC
          have hC := hC.pick4
          refine does_storeEl (enc := encB) (e := 4) (t := 4) (sz := 1) (cp := (a0.length : Int).toNat) (A := A13) (xs := t42) (x := (.tmp 43)) (y := (.tmp 42)) (el := gt t42 t41) (el' := (t89 == ((gt a0 t41).Value))) (j := t41) (off := 0) (b := b112) (q := p113) (v := .bool (t89 == ((gt a0 t41).Value))) (vs := [.bool (t89 == ((gt a0 t41).Value))]) (ad := ⟨b112, p113 + t41.toNat * 1, none⟩) hC (by kernel_rfl) (by kernel_rfl) (by kernel_rfl) (by simp) (by kernel_rfl) hA114 g110 rfl len_encB (by kernel_rfl) (by kernel_rfl) (by kernel_rfl) (Nat.le_of_ble_eq_true (by kernel_rfl)) (Nat.le_of_ble_eq_true (by kernel_rfl)) (by kernel_rfl) ?_
          intro w2 h2
          have h2 := h2.pick4
          have h2 := h2.pick4
          have h2 := h2.pick4
          have h2 := h2.pick4
          have h2 := h2.pick4
          refine ⟨(some (), some ()), rfl, ?_, ?_, .inl rfl, h2⟩
          ·intro m hne; match m, hne with
           | 0, hne => exact rfl
           | 1, hne => exact absurd rfl hne
           | m + 2, _ => exact rfl
          ·intro j hj; match j, hj with
           | 0, hj => exact rfl
           | 1, hj => exact rfl
           | 2, hj => exact rfl
           | 3, hj => exact rfl
           | 4, hj => exact rfl
           | 5, hj => exact rfl
           | 6, hj => exact rfl
           | 7, hj => exact rfl
           | 8, hj => exact rfl
           | 9, hj => exact rfl
           | 10, hj => exact absurd (by decide) hj
           | j + 11, _ => exact rfl
         ·exact Bool.noConfusion hr
        | k + 2, hk => exact absurd hk (by simp)
       intro st127 w124 hS125 hr126
       rcases st127 with ⟨_ | x93, _ | _⟩
       ·exact Bool.noConfusion (hr126 0 (Nat.lt_of_sub_eq_succ rfl))
       ·exact Bool.noConfusion (hr126 0 (Nat.lt_of_sub_eq_succ rfl))
       ·exact Bool.noConfusion (hr126 1 (Nat.lt_of_sub_eq_succ rfl))
       replace hS125 : St w0 Z (xrow A13 ((a0.length : Int).toNat) 4 1 ((setl t42 t41 (t89 == ((gt a0 t41).Value))).flatMap encB) :: xblk b62 52 (enc_api_Node (gt a0 t41)) :: xblk ba1c0 34 ([.slice Aa1c0v a1c0v.length ca1c0v]) :: xblk ba1c1 4 ([.bool t90]) :: xblk ba1c2 37 ([.slice Aa1c2v_0 a1c2v.Refs.length ca1c2v_0, .slice Aa1c2v_1 a1c2v.Values.length ca1c2v_1, .int .i64 a1c2v.Rest]) :: fs) w124 := hS125
       refine Runs.fill (m := [none, none, none, none, none, none, none, some (.slice A13 t42.length ((a0.length : Int).toNat)), none, none, none, none, none, none, none, none, none, none, none, none, none, none, none, none, none, none, none, none, none, none, none, none, none, none, some (.slice A13 t42.length ((a0.length : Int).toNat)), none, none, none, none, none, none, none, none, none, none, none, none, none, none, none, none, none, none, none, none, none, none, none, none, none, none, none, none, none, none, none, none, none, none, none, none, none, none, none, none, none, none, none, none, none, none, none, none, none, none, none, none, none, none, none, none, none, none, none, none, none]) (by kernel_rfl) ?_
       refine Runs.refill (m' := [none, none, none, none, none, none, none, some (.slice A13 (setl t42 t41 (t89 == ((gt a0 t41).Value))).length ((a0.length : Int).toNat)), none, none, none, none, none, none, none, none, none, none, none, none, none, none, none, none, none, none, none, none, none, none, none, none, none, none, some (.slice A13 (setl t42 t41 (t89 == ((gt a0 t41).Value))).length ((a0.length : Int).toNat)), none, none, none, none, none, none, none, none, none, none, none, none, none, none, none, none, none, none, none, none, none, none, none, none, none, none, none, none, none, none, none, none, none, none, none, none, none, none, none, none, none, none, none, none, none, none, none, none, none, none, none, none, none, none, none, none, none, none, none, none, none]) (by simp only [setl_len]) ?_
       refine sx_run 6 (todo' := [.inLoop (cd15 [1, 1, 1, 0, 1, 0, 0]), .inBlock 0, .code (cd15 [1, 1, 1, 1])]) (us := [(89, .int .i64 (IntKind.i64.wrap (t41 + 1))), (20, .int .i64 (IntKind.i64.wrap (t41 + 1)))]) (by kernel_rfl) ?_
       have hS128 := hS125.pick1
       have hS129 := hS128.drop
       have hS130 := hS129.pick3
       have hS131 := hS130.pick3
       have hS132 := hS131.pick3
       refine sx_run 1 (todo' := [.code (cd15 [1, 1, 1, 0, 1, 0, 0]), .inLoop (cd15 [1, 1, 1, 0, 1, 0, 0]), .inBlock 0, .code (cd15 [1, 1, 1, 1])]) (us := []) (by kernel_rfl) ?_
       refine Runs.fill (m := [some (.slice Aa0 a0.length ca0), some (.func (.func 16) #[] #[.pointer (some ⟨ba1c0, 0, none⟩), .pointer (some ⟨ba1c1, 0, none⟩), .pointer (some ⟨ba1c2, 0, none⟩)]), none, none, none, none, none, some (.slice A13 (setl t42 t41 (t89 == ((gt a0 t41).Value))).length ((a0.length : Int).toNat)), none, none, none, none, none, none, none, none, none, none, some (.slice Aa0 a0.length ca0), some (.int .i64 (a0.length : Int)), some (.int .i64 (IntKind.i64.wrap (t41 + 1))), none, none, none, none, none, none, none, none, none, none, none, none, none, none, none, none, none, none, none, none, none, none, none, none, none, none, none, none, none, none, none, none, none, none, none, none, none, none, none, none, none, none, none, none, none, none, none, none, none, none, none, none, none, none, none, none, none, none, none, none, none, none, none, none, none, none, none, none, none, none, none, none, none, none, none]) (by kernel_rfl) ?_
       exact ih50 (IntKind.i64.wrap (t41 + 1)) (setl t42 t41 (t89 == ((gt a0 t41).Value))) t90 _ hp111 he48 _ _ hS132
      ·skip
       have hp133 := ite_f hp85 h87
       refine sx_split 6 (todo' := [.inRegion (opsOf (cd15 [1, 1, 1, 0, 1, 0, 0, 1, 1, 0, 0, 1, 1, 0, 1, 1, 1, 1, 0])) [1], .code (cd15 [1, 1, 1, 0, 1, 0, 0, 1, 1, 0, 0, 1, 1, 0, 1, 1, 1, 1, 1]), .inBlock 2, .inBlock 1, .code (cd15 [1, 1, 1, 0, 1, 0, 0, 1, 1, 1]), .inLoop (cd15 [1, 1, 1, 0, 1, 0, 0]), .inBlock 0, .code (cd15 [1, 1, 1, 1])]) (us := [(32, .bool false)]) (d := 45) (t := (((gt a0 t41).Op) == 3)) (by kernel_rfl) (fun h134 => ?_) (fun h135 => ?_)
       ·skip
        have hp136 := ite_t hp133 h134
        refine sx_run 8 (todo' := [.inRegion (opsOf (cd15 [1, 1, 1, 0, 1, 0, 0, 1, 1, 0, 0, 1, 1, 0, 1, 1, 1, 1, 1, 0])) [4, 5, 6, 7, 8, 9], .inBlock 2, .inBlock 1, .code (cd15 [1, 1, 1, 0, 1, 0, 0, 1, 1, 1]), .inLoop (cd15 [1, 1, 1, 0, 1, 0, 0]), .inBlock 0, .code (cd15 [1, 1, 1, 1])]) (us := [(44, .bool true), (46, .slice A13 t42.length ((a0.length : Int).toNat)), (47, .int .i64 t41), (48, .slice A13 t42.length ((a0.length : Int).toNat)), (49, .pointer (some ⟨b62, 1, none⟩))]) (by kernel_rfl) ?_
        refine r_load (c := (cd15 [1, 1, 1, 0, 1, 0, 0, 1, 1, 0, 0, 1, 1, 0, 1, 1, 1, 1, 1, 0])) (i := 4) (d := (some 50)) (ty := 3) (t := 3) (x := (.tmp 49)) (p := ⟨b62, 1, none⟩) (v := .int .i64 ((gt a0 t41).A)) (by kernel_rfl) (by kernel_rfl) (by kernel_rfl) (loads_at 1 (hS67.blk 0 rfl) (by kernel_rfl) (by kernel_rfl)) ?_
        obtain ⟨g137, hp138⟩ := ite_some hp136
        obtain ⟨b139, p140, hA141, -⟩ := (hS67.row 4 rfl).at_ len_encB (by omega) g137.1 g137.2
        refine r_indexAddr (c := (cd15 [1, 1, 1, 0, 1, 0, 0, 1, 1, 0, 0, 1, 1, 0, 1, 1, 1, 1, 1, 0])) (i := 5) (d := (some 51)) (ty := 0) (t := 62) (e := 4) (n := t42.length) (cp := (a0.length : Int).toNat) (sz := 1) (kk := .i64) (x := (.tmp 48)) (y := (.tmp 50)) (b := b139) (o' := p140) (j := (gt a0 t41).A) (by kernel_rfl) (by kernel_rfl) (slv (by kernel_rfl) hA141) (by kernel_rfl) (by kernel_rfl) (by kernel_rfl) g137.1 g137.2 ?_
        refine r_load (c := (cd15 [1, 1, 1, 0, 1, 0, 0, 1, 1, 0, 0, 1, 1, 0, 1, 1, 1, 1, 1, 0])) (i := 6) (d := (some 52)) (ty := 4) (t := 4) (x := (.tmp 51)) (p := ⟨b139, p140 + ((gt a0 t41).A).toNat * 1, none⟩) (v := .bool (gt t42 ((gt a0 t41).A))) (by kernel_rfl) (by kernel_rfl) (by kernel_rfl) (loads_at 0 ((hS67.row 4 rfl).at2 hA141 len_encB (by omega) g137.1 g137.2) (by kernel_rfl) (by kernel_rfl)) ?_
        refine r_split (gt t42 ((gt a0 t41).A)) (fun h143 => ?_) (fun h144 => ?_)
        ·skip
         have hp145 := ite_t hp138 h143
         refine sx_run 1 (todo' := [.inRegion (opsOf (cd15 [1, 1, 1, 0, 1, 0, 0, 1, 1, 0, 0, 1, 1, 0, 1, 1, 1, 1, 1, 0])) [8, 9], .inBlock 2, .inBlock 1, .code (cd15 [1, 1, 1, 0, 1, 0, 0, 1, 1, 1]), .inLoop (cd15 [1, 1, 1, 0, 1, 0, 0]), .inBlock 0, .code (cd15 [1, 1, 1, 1])]) (us := [(53, .bool false)]) (by kernel_rfl) ?_
         obtain ⟨g146, hp147⟩ := ite_some hp145
         obtain ⟨b148, p149, hA150, -⟩ := (hS67.row 4 rfl).at_ len_encB (by omega) g146.1 g146.2
         refine r_indexAddr (c := (cd15 [1, 1, 1, 0, 1, 0, 0, 1, 1, 0, 0, 1, 1, 0, 1, 1, 1, 1, 1, 0])) (i := 8) (d := (some 54)) (ty := 0) (t := 62) (e := 4) (n := t42.length) (cp := (a0.length : Int).toNat) (sz := 1) (kk := .i64) (x := (.tmp 46)) (y := (.tmp 47)) (b := b148) (o' := p149) (j := t41) (by kernel_rfl) (by kernel_rfl) (slv (by kernel_rfl) hA150) (by kernel_rfl) (by kernel_rfl) (by kernel_rfl) g146.1 g146.2 ?_
         have hS152 := hS67.pick4
         refine r_storeEl (c := (cd15 [1, 1, 1, 0, 1, 0, 0, 1, 1, 0, 0, 1, 1, 0, 1, 1, 1, 1, 1, 0])) (i := 9) (d := none) (ty := 0) (enc := encB) (e := 4) (t := 4) (sz := 1) (cp := (a0.length : Int).toNat) (A := A13) (xs := t42) (x := (.tmp 54)) (y := (.tmp 53)) (el := gt t42 t41) (el' := false) (j := t41) (off := 0) (b := b148) (p := p149) (v := .bool false) (vs := [.bool false]) (ad := ⟨b148, p149 + t41.toNat * 1, none⟩) hS152 (by kernel_rfl) (by kernel_rfl) (by kernel_rfl) (by simp) (by kernel_rfl) hA150 g146 rfl len_encB (by kernel_rfl) (by kernel_rfl) (by kernel_rfl) (Nat.le_of_ble_eq_true (by kernel_rfl)) (Nat.le_of_ble_eq_true (by kernel_rfl)) (by kernel_rfl) ?_
         intro w153 hS154
         refine Runs.fill (m := [none, none, none, none, none, none, none, some (.slice A13 t42.length ((a0.length : Int).toNat)), none, none, none, none, none, none, none, none, none, none, none, none, none, none, none, none, none, none, none, none, none, none, none, none, none, none, none, none, none, none, none, none, none, none, none, none, none, none, some (.slice A13 t42.length ((a0.length : Int).toNat)), none, some (.slice A13 t42.length ((a0.length : Int).toNat)), none, none, none, none, none, none, none, none, none, none, none, none, none, none, none, none, none, none, none, none, none, none, none, none, none, none, none, none, none, none, none, none, none, none, none, none, none, none, none, none, none, none, none, none, none, none, none]) (by kernel_rfl) ?_
         refine Runs.refill (m' := [none, none, none, none, none, none, none, some (.slice A13 (setl t42 t41 false).length ((a0.length : Int).toNat)), none, none, none, none, none, none, none, none, none, none, none, none, none, none, none, none, none, none, none, none, none, none, none, none, none, none, none, none, none, none, none, none, none, none, none, none, none, none, some (.slice A13 (setl t42 t41 false).length ((a0.length : Int).toNat)), none, some (.slice A13 (setl t42 t41 false).length ((a0.length : Int).toNat)), none, none, none, none, none, none, none, none, none, none, none, none, none, none, none, none, none, none, none, none, none, none, none, none, none, none, none, none, none, none, none, none, none, none, none, none, none, none, none, none, none, none, none, none, none, none, none]) (by simp only [setl_len]) ?_
         refine sx_run 7 (todo' := [.inLoop (cd15 [1, 1, 1, 0, 1, 0, 0]), .inBlock 0, .code (cd15 [1, 1, 1, 1])]) (us := [(89, .int .i64 (IntKind.i64.wrap (t41 + 1))), (20, .int .i64 (IntKind.i64.wrap (t41 + 1)))]) (by kernel_rfl) ?_
         have hS155 := hS154.pick1
         have hS156 := hS155.drop
         have hS157 := hS156.pick3
         have hS158 := hS157.pick3
         have hS159 := hS158.pick3
         refine sx_run 1 (todo' := [.code (cd15 [1, 1, 1, 0, 1, 0, 0]), .inLoop (cd15 [1, 1, 1, 0, 1, 0, 0]), .inBlock 0, .code (cd15 [1, 1, 1, 1])]) (us := []) (by kernel_rfl) ?_
         refine Runs.fill (m := [some (.slice Aa0 a0.length ca0), some (.func (.func 16) #[] #[.pointer (some ⟨ba1c0, 0, none⟩), .pointer (some ⟨ba1c1, 0, none⟩), .pointer (some ⟨ba1c2, 0, none⟩)]), none, none, none, none, none, some (.slice A13 (setl t42 t41 false).length ((a0.length : Int).toNat)), none, none, none, none, none, none, none, none, none, none, some (.slice Aa0 a0.length ca0), some (.int .i64 (a0.length : Int)), some (.int .i64 (IntKind.i64.wrap (t41 + 1))), none, none, none, none, none, none, none, none, none, none, none, none, none, none, none, none, none, none, none, none, none, none, none, none, none, none, none, none, none, none, none, none, none, none, none, none, none, none, none, none, none, none, none, none, none, none, none, none, none, none, none, none, none, none, none, none, none, none, none, none, none, none, none, none, none, none, none, none, none, none, none, none, none, none, none]) (by kernel_rfl) ?_
         exact ih50 (IntKind.i64.wrap (t41 + 1)) (setl t42 t41 false) t43 _ hp147 he48 _ _ hS159
        ·skip
         have hp160 := ite_f hp138 h144
         refine sx_run 1 (todo' := [.inRegion (opsOf (cd15 [1, 1, 1, 0, 1, 0, 0, 1, 1, 0, 0, 1, 1, 0, 1, 1, 1, 1, 1, 0])) [8, 9], .inBlock 2, .inBlock 1, .code (cd15 [1, 1, 1, 0, 1, 0, 0, 1, 1, 1]), .inLoop (cd15 [1, 1, 1, 0, 1, 0, 0]), .inBlock 0, .code (cd15 [1, 1, 1, 1])]) (us := [(53, .bool true)]) (by kernel_rfl) ?_
         obtain ⟨g161, hp162⟩ := ite_some hp160
         obtain ⟨b163, p164, hA165, -⟩ := (hS67.row 4 rfl).at_ len_encB (by omega) g161.1 g161.2
         refine r_indexAddr (c := (cd15 [1, 1, 1, 0, 1, 0, 0, 1, 1, 0, 0, 1, 1, 0, 1, 1, 1, 1, 1, 0])) (i := 8) (d := (some 54)) (ty := 0) (t := 62) (e := 4) (n := t42.length) (cp := (a0.length : Int).toNat) (sz := 1) (kk := .i64) (x := (.tmp 46)) (y := (.tmp 47)) (b := b163) (o' := p164) (j := t41) (by kernel_rfl) (by kernel_rfl) (slv (by kernel_rfl) hA165) (by kernel_rfl) (by kernel_rfl) (by kernel_rfl) g161.1 g161.2 ?_
         have hS167 := hS67.pick4
         refine r_storeEl (c := (cd15 [1, 1, 1, 0, 1, 0, 0, 1, 1, 0, 0, 1, 1, 0, 1, 1, 1, 1, 1, 0])) (i := 9) (d := none) (ty := 0) (enc := encB) (e := 4) (t := 4) (sz := 1) (cp := (a0.length : Int).toNat) (A := A13) (xs := t42) (x := (.tmp 54)) (y := (.tmp 53)) (el := gt t42 t41) (el' := true) (j := t41) (off := 0) (b := b163) (p := p164) (v := .bool true) (vs := [.bool true]) (ad := ⟨b163, p164 + t41.toNat * 1, none⟩) hS167 (by kernel_rfl) (by kernel_rfl) (by kernel_rfl) (by simp) (by kernel_rfl) hA165 g161 rfl len_encB (by kernel_rfl) (by kernel_rfl) (by kernel_rfl) (Nat.le_of_ble_eq_true (by kernel_rfl)) (Nat.le_of_ble_eq_true (by kernel_rfl)) (by kernel_rfl) ?_
         intro w168 hS169
         refine Runs.fill (m := [none, none, none, none, none, none, none, some (.slice A13 t42.length ((a0.length : Int).toNat)), none, none, none, none, none, none, none, none, none, none, none, none, none, none, none, none, none, none, none, none, none, none, none, none, none, none, none, none, none, none, none, none, none, none, none, none, none, none, some (.slice A13 t42.length ((a0.length : Int).toNat)), none, some (.slice A13 t42.length ((a0.length : Int).toNat)), none, none, none, none, none, none, none, none, none, none, none, none, none, none, none, none, none, none, none, none, none, none, none, none, none, none, none, none, none, none, none, none, none, none, none, none, none, none, none, none, none, none, none, none, none, none, none]) (by kernel_rfl) ?_
         refine Runs.refill (m' := [none, none, none, none, none, none, none, some (.slice A13 (setl t42 t41 true).length ((a0.length : Int).toNat)), none, none, none, none, none, none, none, none, none, none, none, none, none, none, none, none, none, none, none, none, none, none, none, none, none, none, none, none, none, none, none, none, none, none, none, none, none, none, some (.slice A13 (setl t42 t41 true).length ((a0.length : Int).toNat)), none, some (.slice A13 (setl t42 t41 true).length ((a0.length : Int).toNat)), none, none, none, none, none, none, none, none, none, none, none, none, none, none, none, none, none, none, none, none, none, none, none, none, none, none, none, none, none, none, none, none, none, none, none, none, none, none, none, none, none, none, none, none, none, none, none]) (by simp only [setl_len]) ?_
         refine sx_run 7 (todo' := [.inLoop (cd15 [1, 1, 1, 0, 1, 0, 0]), .inBlock 0, .code (cd15 [1, 1, 1, 1])]) (us := [(89, .int .i64 (IntKind.i64.wrap (t41 + 1))), (20, .int .i64 (IntKind.i64.wrap (t41 + 1)))]) (by kernel_rfl) ?_
         have hS170 := hS169.pick1
         have hS171 := hS170.drop
         have hS172 := hS171.pick3
         have hS173 := hS172.pick3
         have hS174 := hS173.pick3
         refine sx_run 1 (todo' := [.code (cd15 [1, 1, 1, 0, 1, 0, 0]), .inLoop (cd15 [1, 1, 1, 0, 1, 0, 0]), .inBlock 0, .code (cd15 [1, 1, 1, 1])]) (us := []) (by kernel_rfl) ?_
         refine Runs.fill (m := [some (.slice Aa0 a0.length ca0), some (.func (.func 16) #[] #[.pointer (some ⟨ba1c0, 0, none⟩), .pointer (some ⟨ba1c1, 0, none⟩), .pointer (some ⟨ba1c2, 0, none⟩)]), none, none, none, none, none, some (.slice A13 (setl t42 t41 true).length ((a0.length : Int).toNat)), none, none, none, none, none, none, none, none, none, none, some (.slice Aa0 a0.length ca0), some (.int .i64 (a0.length : Int)), some (.int .i64 (IntKind.i64.wrap (t41 + 1))), none, none, none, none, none, none, none, none, none, none, none, none, none, none, none, none, none, none, none, none, none, none, none, none, none, none, none, none, none, none, none, none, none, none, none, none, none, none, none, none, none, none, none, none, none, none, none, none, none, none, none, none, none, none, none, none, none, none, none, none, none, none, none, none, none, none, none, none, none, none, none, none, none, none, none]) (by kernel_rfl) ?_
         exact ih50 (IntKind.i64.wrap (t41 + 1)) (setl t42 t41 true) t43 _ hp162 he48 _ _ hS174
       ·skip
        have hp175 := ite_f hp133 h135
        refine sx_split 6 (todo' := [.inRegion (opsOf (cd15 [1, 1, 1, 0, 1, 0, 0, 1, 1, 0, 0, 1, 1, 0, 1, 1, 1, 1, 1, 1, 0])) [1], .code (cd15 [1, 1, 1, 0, 1, 0, 0, 1, 1, 0, 0, 1, 1, 0, 1, 1, 1, 1, 1, 1, 1]), .inBlock 2, .inBlock 1, .code (cd15 [1, 1, 1, 0, 1, 0, 0, 1, 1, 1]), .inLoop (cd15 [1, 1, 1, 0, 1, 0, 0]), .inBlock 0, .code (cd15 [1, 1, 1, 1])]) (us := [(44, .bool false)]) (d := 56) (t := (((gt a0 t41).Op) == 4)) (by kernel_rfl) (fun h176 => ?_) (fun h177 => ?_)
        ·skip
         have hp178 := ite_t hp175 h176
         refine sx_run 8 (todo' := [.inRegion (opsOf (cd15 [1, 1, 1, 0, 1, 0, 0, 1, 1, 0, 0, 1, 1, 0, 1, 1, 1, 1, 1, 1, 1, 0])) [4, 5, 6, 7, 8, 9, 10, 11, 12, 13, 14, 15], .inBlock 2, .inBlock 1, .code (cd15 [1, 1, 1, 0, 1, 0, 0, 1, 1, 1]), .inLoop (cd15 [1, 1, 1, 0, 1, 0, 0]), .inBlock 0, .code (cd15 [1, 1, 1, 1])]) (us := [(55, .bool true), (57, .slice A13 t42.length ((a0.length : Int).toNat)), (58, .int .i64 t41), (59, .slice A13 t42.length ((a0.length : Int).toNat)), (60, .pointer (some ⟨b62, 1, none⟩))]) (by kernel_rfl) ?_
         refine r_load (c := (cd15 [1, 1, 1, 0, 1, 0, 0, 1, 1, 0, 0, 1, 1, 0, 1, 1, 1, 1, 1, 1, 1, 0])) (i := 4) (d := (some 61)) (ty := 3) (t := 3) (x := (.tmp 60)) (p := ⟨b62, 1, none⟩) (v := .int .i64 ((gt a0 t41).A)) (by kernel_rfl) (by kernel_rfl) (by kernel_rfl) (loads_at 1 (hS67.blk 0 rfl) (by kernel_rfl) (by kernel_rfl)) ?_
         obtain ⟨g179, hp180⟩ := ite_some hp178
         obtain ⟨b181, p182, hA183, -⟩ := (hS67.row 4 rfl).at_ len_encB (by omega) g179.1 g179.2
         refine r_indexAddr (c := (cd15 [1, 1, 1, 0, 1, 0, 0, 1, 1, 0, 0, 1, 1, 0, 1, 1, 1, 1, 1, 1, 1, 0])) (i := 5) (d := (some 62)) (ty := 0) (t := 62) (e := 4) (n := t42.length) (cp := (a0.length : Int).toNat) (sz := 1) (kk := .i64) (x := (.tmp 59)) (y := (.tmp 61)) (b := b181) (o' := p182) (j := (gt a0 t41).A) (by kernel_rfl) (by kernel_rfl) (slv (by kernel_rfl) hA183) (by kernel_rfl) (by kernel_rfl) (by kernel_rfl) g179.1 g179.2 ?_
         refine r_load (c := (cd15 [1, 1, 1, 0, 1, 0, 0, 1, 1, 0, 0, 1, 1, 0, 1, 1, 1, 1, 1, 1, 1, 0])) (i := 6) (d := (some 63)) (ty := 4) (t := 4) (x := (.tmp 62)) (p := ⟨b181, p182 + ((gt a0 t41).A).toNat * 1, none⟩) (v := .bool (gt t42 ((gt a0 t41).A))) (by kernel_rfl) (by kernel_rfl) (by kernel_rfl) (loads_at 0 ((hS67.row 4 rfl).at2 hA183 len_encB (by omega) g179.1 g179.2) (by kernel_rfl) (by kernel_rfl)) ?_
         refine r_split (gt t42 ((gt a0 t41).A)) (fun h185 => ?_) (fun h186 => ?_)
         ·skip
          have hp187 := ite_t hp180 h185
          refine sx_run 3 (todo' := [.inRegion (opsOf (cd15 [1, 1, 1, 0, 1, 0, 0, 1, 1, 0, 0, 1, 1, 0, 1, 1, 1, 1, 1, 1, 1, 0])) [10, 11, 12, 13, 14, 15], .inBlock 2, .inBlock 1, .code (cd15 [1, 1, 1, 0, 1, 0, 0, 1, 1, 1]), .inLoop (cd15 [1, 1, 1, 0, 1, 0, 0]), .inBlock 0, .code (cd15 [1, 1, 1, 1])]) (us := [(64, .bool true), (65, .slice A13 t42.length ((a0.length : Int).toNat)), (66, .pointer (some ⟨b62, 2, none⟩))]) (by kernel_rfl) ?_
          refine r_load (c := (cd15 [1, 1, 1, 0, 1, 0, 0, 1, 1, 0, 0, 1, 1, 0, 1, 1, 1, 1, 1, 1, 1, 0])) (i := 10) (d := (some 67)) (ty := 3) (t := 3) (x := (.tmp 66)) (p := ⟨b62, 2, none⟩) (v := .int .i64 ((gt a0 t41).B)) (by kernel_rfl) (by kernel_rfl) (by kernel_rfl) (loads_at 2 (hS67.blk 0 rfl) (by kernel_rfl) (by kernel_rfl)) ?_
          obtain ⟨g188, hp189⟩ := ite_some hp187
          obtain ⟨b190, p191, hA192, -⟩ := (hS67.row 4 rfl).at_ len_encB (by omega) g188.1 g188.2
          refine r_indexAddr (c := (cd15 [1, 1, 1, 0, 1, 0, 0, 1, 1, 0, 0, 1, 1, 0, 1, 1, 1, 1, 1, 1, 1, 0])) (i := 11) (d := (some 68)) (ty := 0) (t := 62) (e := 4) (n := t42.length) (cp := (a0.length : Int).toNat) (sz := 1) (kk := .i64) (x := (.tmp 65)) (y := (.tmp 67)) (b := b190) (o' := p191) (j := (gt a0 t41).B) (by kernel_rfl) (by kernel_rfl) (slv (by kernel_rfl) hA192) (by kernel_rfl) (by kernel_rfl) (by kernel_rfl) g188.1 g188.2 ?_
          refine r_load (c := (cd15 [1, 1, 1, 0, 1, 0, 0, 1, 1, 0, 0, 1, 1, 0, 1, 1, 1, 1, 1, 1, 1, 0])) (i := 12) (d := (some 69)) (ty := 4) (t := 4) (x := (.tmp 68)) (p := ⟨b190, p191 + ((gt a0 t41).B).toNat * 1, none⟩) (v := .bool (gt t42 ((gt a0 t41).B))) (by kernel_rfl) (by kernel_rfl) (by kernel_rfl) (loads_at 0 ((hS67.row 4 rfl).at2 hA192 len_encB (by omega) g188.1 g188.2) (by kernel_rfl) (by kernel_rfl)) ?_
          refine r_split (gt t42 ((gt a0 t41).B)) (fun h194 => ?_) (fun h195 => ?_)
          ·skip
           have hp196 := ite_t hp189 h194
           refine sx_run 1 (todo' := [.inRegion (opsOf (cd15 [1, 1, 1, 0, 1, 0, 0, 1, 1, 0, 0, 1, 1, 0, 1, 1, 1, 1, 1, 1, 1, 0])) [14, 15], .inBlock 2, .inBlock 1, .code (cd15 [1, 1, 1, 0, 1, 0, 0, 1, 1, 1]), .inLoop (cd15 [1, 1, 1, 0, 1, 0, 0]), .inBlock 0, .code (cd15 [1, 1, 1, 1])]) (us := [(70, .bool true)]) (by kernel_rfl) ?_
           obtain ⟨g197, hp198⟩ := ite_some hp196
           obtain ⟨b199, p200, hA201, -⟩ := (hS67.row 4 rfl).at_ len_encB (by omega) g197.1 g197.2
           refine r_indexAddr (c := (cd15 [1, 1, 1, 0, 1, 0, 0, 1, 1, 0, 0, 1, 1, 0, 1, 1, 1, 1, 1, 1, 1, 0])) (i := 14) (d := (some 71)) (ty := 0) (t := 62) (e := 4) (n := t42.length) (cp := (a0.length : Int).toNat) (sz := 1) (kk := .i64) (x := (.tmp 57)) (y := (.tmp 58)) (b := b199) (o' := p200) (j := t41) (by kernel_rfl) (by kernel_rfl) (slv (by kernel_rfl) hA201) (by kernel_rfl) (by kernel_rfl) (by kernel_rfl) g197.1 g197.2 ?_
           have hS203 := hS67.pick4
           refine r_storeEl (c := (cd15 [1, 1, 1, 0, 1, 0, 0, 1, 1, 0, 0, 1, 1, 0, 1, 1, 1, 1, 1, 1, 1, 0])) (i := 15) (d := none) (ty := 0) (enc := encB) (e := 4) (t := 4) (sz := 1) (cp := (a0.length : Int).toNat) (A := A13) (xs := t42) (x := (.tmp 71)) (y := (.tmp 70)) (el := gt t42 t41) (el' := true) (j := t41) (off := 0) (b := b199) (p := p200) (v := .bool true) (vs := [.bool true]) (ad := ⟨b199, p200 + t41.toNat * 1, none⟩) hS203 (by kernel_rfl) (by kernel_rfl) (by kernel_rfl) (by simp) (by kernel_rfl) hA201 g197 rfl len_encB (by kernel_rfl) (by kernel_rfl) (by kernel_rfl) (Nat.le_of_ble_eq_true (by kernel_rfl)) (Nat.le_of_ble_eq_true (by kernel_rfl)) (by kernel_rfl) ?_
           intro w204 hS205
           refine Runs.fill (m := [none, none, none, none, none, none, none, some (.slice A13 t42.length ((a0.length : Int).toNat)), none, none, none, none, none, none, none, none, none, none, none, none, none, none, none, none, none, none, none, none, none, none, none, none, none, none, none, none, none, none, none, none, none, none, none, none, none, none, none, none, none, none, none, none, none, none, none, none, none, some (.slice A13 t42.length ((a0.length : Int).toNat)), none, some (.slice A13 t42.length ((a0.length : Int).toNat)), none, none, none, none, none, some (.slice A13 t42.length ((a0.length : Int).toNat)), none, none, none, none, none, none, none, none, none, none, none, none, none, none, none, none, none, none, none, none, none, none, none, none, none, none, none, none, none, none]) (by kernel_rfl) ?_
           refine Runs.refill (m' := [none, none, none, none, none, none, none, some (.slice A13 (setl t42 t41 true).length ((a0.length : Int).toNat)), none, none, none, none, none, none, none, none, none, none, none, none, none, none, none, none, none, none, none, none, none, none, none, none, none, none, none, none, none, none, none, none, none, none, none, none, none, none, none, none, none, none, none, none, none, none, none, none, none, some (.slice A13 (setl t42 t41 true).length ((a0.length : Int).toNat)), none, some (.slice A13 (setl t42 t41 true).length ((a0.length : Int).toNat)), none, none, none, none, none, some (.slice A13 (setl t42 t41 true).length ((a0.length : Int).toNat)), none, none, none, none, none, none, none, none, none, none, none, none, none, none, none, none, none, none, none, none, none, none, none, none, none, none, none, none, none, none]) (by simp only [setl_len]) ?_
           refine sx_run 7 (todo' := [.inLoop (cd15 [1, 1, 1, 0, 1, 0, 0]), .inBlock 0, .code (cd15 [1, 1, 1, 1])]) (us := [(89, .int .i64 (IntKind.i64.wrap (t41 + 1))), (20, .int .i64 (IntKind.i64.wrap (t41 + 1)))]) (by kernel_rfl) ?_
           have hS206 := hS205.pick1
           have hS207 := hS206.drop
           have hS208 := hS207.pick3
           have hS209 := hS208.pick3
           have hS210 := hS209.pick3
           refine sx_run 1 (todo' := [.code (cd15 [1, 1, 1, 0, 1, 0, 0]), .inLoop (cd15 [1, 1, 1, 0, 1, 0, 0]), .inBlock 0, .code (cd15 [1, 1, 1, 1])]) (us := []) (by kernel_rfl) ?_
           refine Runs.fill (m := [some (.slice Aa0 a0.length ca0), some (.func (.func 16) #[] #[.pointer (some ⟨ba1c0, 0, none⟩), .pointer (some ⟨ba1c1, 0, none⟩), .pointer (some ⟨ba1c2, 0, none⟩)]), none, none, none, none, none, some (.slice A13 (setl t42 t41 true).length ((a0.length : Int).toNat)), none, none, none, none, none, none, none, none, none, none, some (.slice Aa0 a0.length ca0), some (.int .i64 (a0.length : Int)), some (.int .i64 (IntKind.i64.wrap (t41 + 1))), none, none, none, none, none, none, none, none, none, none, none, none, none, none, none, none, none, none, none, none, none, none, none, none, none, none, none, none, none, none, none, none, none, none, none, none, none, none, none, none, none, none, none, none, none, none, none, none, none, none, none, none, none, none, none, none, none, none, none, none, none, none, none, none, none, none, none, none, none, none, none, none, none, none, none]) (by kernel_rfl) ?_
           exact ih50 (IntKind.i64.wrap (t41 + 1)) (setl t42 t41 true) t43 _ hp198 he48 _ _ hS210
          ·skip
           have hp211 := ite_f hp189 h195
           refine sx_run 1 (todo' := [.inRegion (opsOf (cd15 [1, 1, 1, 0, 1, 0, 0, 1, 1, 0, 0, 1, 1, 0, 1, 1, 1, 1, 1, 1, 1, 0])) [14, 15], .inBlock 2, .inBlock 1, .code (cd15 [1, 1, 1, 0, 1, 0, 0, 1, 1, 1]), .inLoop (cd15 [1, 1, 1, 0, 1, 0, 0]), .inBlock 0, .code (cd15 [1, 1, 1, 1])]) (us := [(70, .bool false)]) (by kernel_rfl) ?_
           obtain ⟨g212, hp213⟩ := ite_some hp211
           obtain ⟨b214, p215, hA216, -⟩ := (hS67.row 4 rfl).at_ len_encB (by omega) g212.1 g212.2
           refine r_indexAddr (c := (cd15 [1, 1, 1, 0, 1, 0, 0, 1, 1, 0, 0, 1, 1, 0, 1, 1, 1, 1, 1, 1, 1, 0])) (i := 14) (d := (some 71)) (ty := 0) (t := 62) (e := 4) (n := t42.length) (cp := (a0.length : Int).toNat) (sz := 1) (kk := .i64) (x := (.tmp 57)) (y := (.tmp 58)) (b := b214) (o' := p215) (j := t41) (by kernel_rfl) (by kernel_rfl) (slv (by kernel_rfl) hA216) (by kernel_rfl) (by kernel_rfl) (by kernel_rfl) g212.1 g212.2 ?_
           have hS218 := hS67.pick4
           refine r_storeEl (c := (cd15 [1, 1, 1, 0, 1, 0, 0, 1, 1, 0, 0, 1, 1, 0, 1, 1, 1, 1, 1, 1, 1, 0])) (i := 15) (d := none) (ty := 0) (enc := encB) (e := 4) (t := 4) (sz := 1) (cp := (a0.length : Int).toNat) (A := A13) (xs := t42) (x := (.tmp 71)) (y := (.tmp 70)) (el := gt t42 t41) (el' := false) (j := t41) (off := 0) (b := b214) (p := p215) (v := .bool false) (vs := [.bool false]) (ad := ⟨b214, p215 + t41.toNat * 1, none⟩) hS218 (by kernel_rfl) (by kernel_rfl) (by kernel_rfl) (by simp) (by kernel_rfl) hA216 g212 rfl len_encB (by kernel_rfl) (by kernel_rfl) (by kernel_rfl) (Nat.le_of_ble_eq_true (by kernel_rfl)) (Nat.le_of_ble_eq_true (by kernel_rfl)) (by kernel_rfl) ?_
           intro w219 hS220
           refine Runs.fill (m := [none, none, none, none, none, none, none, some (.slice A13 t42.length ((a0.length : Int).toNat)), none, none, none, none, none, none, none, none, none, none, none, none, none, none, none, none, none, none, none, none, none, none, none, none, none, none, none, none, none, none, none, none, none, none, none, none, none, none, none, none, none, none, none, none, none, none, none, none, none, some (.slice A13 t42.length ((a0.length : Int).toNat)), none, some (.slice A13 t42.length ((a0.length : Int).toNat)), none, none, none, none, none, some (.slice A13 t42.length ((a0.length : Int).toNat)), none, none, none, none, none, none, none, none, none, none, none, none, none, none, none, none, none, none, none, none, none, none, none, none, none, none, none, none, none, none]) (by kernel_rfl) ?_
           refine Runs.refill (m' := [none, none, none, none, none, none, none, some (.slice A13 (setl t42 t41 false).length ((a0.length : Int).toNat)), none, none, none, none, none, none, none, none, none, none, none, none, none, none, none, none, none, none, none, none, none, none, none, none, none, none, none, none, none, none, none, none, none, none, none, none, none, none, none, none, none, none, none, none, none, none, none, none, none, some (.slice A13 (setl t42 t41 false).length ((a0.length : Int).toNat)), none, some (.slice A13 (setl t42 t41 false).length ((a0.length : Int).toNat)), none, none, none, none, none, some (.slice A13 (setl t42 t41 false).length ((a0.length : Int).toNat)), none, none, none, none, none, none, none, none, none, none, none, none, none, none, none, none, none, none, none, none, none, none, none, none, none, none, none, none, none, none]) (by simp only [setl_len]) ?_
           refine sx_run 7 (todo' := [.inLoop (cd15 [1, 1, 1, 0, 1, 0, 0]), .inBlock 0, .code (cd15 [1, 1, 1, 1])]) (us := [(89, .int .i64 (IntKind.i64.wrap (t41 + 1))), (20, .int .i64 (IntKind.i64.wrap (t41 + 1)))]) (by kernel_rfl) ?_
           have hS221 := hS220.pick1
           have hS222 := hS221.drop
           have hS223 := hS222.pick3
           have hS224 := hS223.pick3
           have hS225 := hS224.pick3
           refine sx_run 1 (todo' := [.code (cd15 [1, 1, 1, 0, 1, 0, 0]), .inLoop (cd15 [1, 1, 1, 0, 1, 0, 0]), .inBlock 0, .code (cd15 [1, 1, 1, 1])]) (us := []) (by kernel_rfl) ?_
           refine Runs.fill (m := [some (.slice Aa0 a0.length ca0), some (.func (.func 16) #[] #[.pointer (some ⟨ba1c0, 0, none⟩), .pointer (some ⟨ba1c1, 0, none⟩), .pointer (some ⟨ba1c2, 0, none⟩)]), none, none, none, none, none, some (.slice A13 (setl t42 t41 false).length ((a0.length : Int).toNat)), none, none, none, none, none, none, none, none, none, none, some (.slice Aa0 a0.length ca0), some (.int .i64 (a0.length : Int)), some (.int .i64 (IntKind.i64.wrap (t41 + 1))), none, none, none, none, none, none, none, none, none, none, none, none, none, none, none, none, none, none, none, none, none, none, none, none, none, none, none, none, none, none, none, none, none, none, none, none, none, none, none, none, none, none, none, none, none, none, none, none, none, none, none, none, none, none, none, none, none, none, none, none, none, none, none, none, none, none, none, none, none, none, none, none, none, none, none]) (by kernel_rfl) ?_
           exact ih50 (IntKind.i64.wrap (t41 + 1)) (setl t42 t41 false) t43 _ hp213 he48 _ _ hS225
         ·skip
          have hp226 := ite_f hp180 h186
          refine sx_run 7 (todo' := [.inRegion (opsOf (cd15 [1, 1, 1, 0, 1, 0, 0, 1, 1, 0, 0, 1, 1, 0, 1, 1, 1, 1, 1, 1, 1, 0])) [14, 15], .inBlock 2, .inBlock 1, .code (cd15 [1, 1, 1, 0, 1, 0, 0, 1, 1, 1]), .inLoop (cd15 [1, 1, 1, 0, 1, 0, 0]), .inBlock 0, .code (cd15 [1, 1, 1, 1])]) (us := [(64, .bool false), (65, undef), (66, undef), (67, undef), (68, undef), (69, undef), (70, .bool false)]) (by kernel_rfl) ?_
          obtain ⟨g227, hp228⟩ := ite_some hp226
          obtain ⟨b229, p230, hA231, -⟩ := (hS67.row 4 rfl).at_ len_encB (by omega) g227.1 g227.2
          refine r_indexAddr (c := (cd15 [1, 1, 1, 0, 1, 0, 0, 1, 1, 0, 0, 1, 1, 0, 1, 1, 1, 1, 1, 1, 1, 0])) (i := 14) (d := (some 71)) (ty := 0) (t := 62) (e := 4) (n := t42.length) (cp := (a0.length : Int).toNat) (sz := 1) (kk := .i64) (x := (.tmp 57)) (y := (.tmp 58)) (b := b229) (o' := p230) (j := t41) (by kernel_rfl) (by kernel_rfl) (slv (by kernel_rfl) hA231) (by kernel_rfl) (by kernel_rfl) (by kernel_rfl) g227.1 g227.2 ?_
          have hS233 := hS67.pick4
          refine r_storeEl (c := (cd15 [1, 1, 1, 0, 1, 0, 0, 1, 1, 0, 0, 1, 1, 0, 1, 1, 1, 1, 1, 1, 1, 0])) (i := 15) (d := none) (ty := 0) (enc := encB) (e := 4) (t := 4) (sz := 1) (cp := (a0.length : Int).toNat) (A := A13) (xs := t42) (x := (.tmp 71)) (y := (.tmp 70)) (el := gt t42 t41) (el' := false) (j := t41) (off := 0) (b := b229) (p := p230) (v := .bool false) (vs := [.bool false]) (ad := ⟨b229, p230 + t41.toNat * 1, none⟩) hS233 (by kernel_rfl) (by kernel_rfl) (by kernel_rfl) (by simp) (by kernel_rfl) hA231 g227 rfl len_encB (by kernel_rfl) (by kernel_rfl) (by kernel_rfl) (Nat.le_of_ble_eq_true (by kernel_rfl)) (Nat.le_of_ble_eq_true (by kernel_rfl)) (by kernel_rfl) ?_
          intro w234 hS235
          refine Runs.fill (m := [none, none, none, none, none, none, none, some (.slice A13 t42.length ((a0.length : Int).toNat)), none, none, none, none, none, none, none, none, none, none, none, none, none, none, none, none, none, none, none, none, none, none, none, none, none, none, none, none, none, none, none, none, none, none, none, none, none, none, none, none, none, none, none, none, none, none, none, none, none, some (.slice A13 t42.length ((a0.length : Int).toNat)), none, some (.slice A13 t42.length ((a0.length : Int).toNat)), none, none, none, none, none, none, none, none, none, none, none, none, none, none, none, none, none, none, none, none, none, none, none, none, none, none, none, none, none, none, none, none, none, none, none, none]) (by kernel_rfl) ?_
          refine Runs.refill (m' := [none, none, none, none, none, none, none, some (.slice A13 (setl t42 t41 false).length ((a0.length : Int).toNat)), none, none, none, none, none, none, none, none, none, none, none, none, none, none, none, none, none, none, none, none, none, none, none, none, none, none, none, none, none, none, none, none, none, none, none, none, none, none, none, none, none, none, none, none, none, none, none, none, none, some (.slice A13 (setl t42 t41 false).length ((a0.length : Int).toNat)), none, some (.slice A13 (setl t42 t41 false).length ((a0.length : Int).toNat)), none, none, none, none, none, none, none, none, none, none, none, none, none, none, none, none, none, none, none, none, none, none, none, none, none, none, none, none, none, none, none, none, none, none, none, none]) (by simp only [setl_len]) ?_
          refine sx_run 7 (todo' := [.inLoop (cd15 [1, 1, 1, 0, 1, 0, 0]), .inBlock 0, .code (cd15 [1, 1, 1, 1])]) (us := [(89, .int .i64 (IntKind.i64.wrap (t41 + 1))), (20, .int .i64 (IntKind.i64.wrap (t41 + 1)))]) (by kernel_rfl) ?_
          have hS236 := hS235.pick1
          have hS237 := hS236.drop
          have hS238 := hS237.pick3
          have hS239 := hS238.pick3
          have hS240 := hS239.pick3
          refine sx_run 1 (todo' := [.code (cd15 [1, 1, 1, 0, 1, 0, 0]), .inLoop (cd15 [1, 1, 1, 0, 1, 0, 0]), .inBlock 0, .code (cd15 [1, 1, 1, 1])]) (us := []) (by kernel_rfl) ?_
          refine Runs.fill (m := [some (.slice Aa0 a0.length ca0), some (.func (.func 16) #[] #[.pointer (some ⟨ba1c0, 0, none⟩), .pointer (some ⟨ba1c1, 0, none⟩), .pointer (some ⟨ba1c2, 0, none⟩)]), none, none, none, none, none, some (.slice A13 (setl t42 t41 false).length ((a0.length : Int).toNat)), none, none, none, none, none, none, none, none, none, none, some (.slice Aa0 a0.length ca0), some (.int .i64 (a0.length : Int)), some (.int .i64 (IntKind.i64.wrap (t41 + 1))), none, none, none, none, none, none, none, none, none, none, none, none, none, none, none, none, none, none, none, none, none, none, none, none, none, none, none, none, none, none, none, none, none, none, none, none, none, none, none, none, none, none, none, none, none, none, none, none, none, none, none, none, none, none, none, none, none, none, none, none, none, none, none, none, none, none, none, none, none, none, none, none, none, none, none]) (by kernel_rfl) ?_
          exact ih50 (IntKind.i64.wrap (t41 + 1)) (setl t42 t41 false) t43 _ hp228 he48 _ _ hS240
        ·skip
         have hp241 := ite_f hp175 h177
         refine sx_split 6 (todo' := [.inRegion (opsOf (cd15 [1, 1, 1, 0, 1, 0, 0, 1, 1, 0, 0, 1, 1, 0, 1, 1, 1, 1, 1, 1, 1, 1, 0])) [1], .code (cd15 [1, 1, 1, 0, 1, 0, 0, 1, 1, 0, 0, 1, 1, 0, 1, 1, 1, 1, 1, 1, 1, 1, 1]), .inBlock 2, .inBlock 1, .code (cd15 [1, 1, 1, 0, 1, 0, 0, 1, 1, 1]), .inLoop (cd15 [1, 1, 1, 0, 1, 0, 0]), .inBlock 0, .code (cd15 [1, 1, 1, 1])]) (us := [(55, .bool false)]) (d := 73) (t := (((gt a0 t41).Op) == 5)) (by kernel_rfl) (fun h242 => ?_) (fun h243 => ?_)
         ·skip
          have hp244 := ite_t hp241 h242
          refine sx_run 8 (todo' := [.inRegion (opsOf (cd15 [1, 1, 1, 0, 1, 0, 0, 1, 1, 0, 0, 1, 1, 0, 1, 1, 1, 1, 1, 1, 1, 1, 1, 0])) [4, 5, 6, 7, 8, 9, 10, 11, 12, 13, 14, 15], .inBlock 2, .inBlock 1, .code (cd15 [1, 1, 1, 0, 1, 0, 0, 1, 1, 1]), .inLoop (cd15 [1, 1, 1, 0, 1, 0, 0]), .inBlock 0, .code (cd15 [1, 1, 1, 1])]) (us := [(72, .bool true), (74, .slice A13 t42.length ((a0.length : Int).toNat)), (75, .int .i64 t41), (76, .slice A13 t42.length ((a0.length : Int).toNat)), (77, .pointer (some ⟨b62, 1, none⟩))]) (by kernel_rfl) ?_
          refine r_load (c := (cd15 [1, 1, 1, 0, 1, 0, 0, 1, 1, 0, 0, 1, 1, 0, 1, 1, 1, 1, 1, 1, 1, 1, 1, 0])) (i := 4) (d := (some 78)) (ty := 3) (t := 3) (x := (.tmp 77)) (p := ⟨b62, 1, none⟩) (v := .int .i64 ((gt a0 t41).A)) (by kernel_rfl) (by kernel_rfl) (by kernel_rfl) (loads_at 1 (hS67.blk 0 rfl) (by kernel_rfl) (by kernel_rfl)) ?_
          obtain ⟨g245, hp246⟩ := ite_some hp244
          obtain ⟨b247, p248, hA249, -⟩ := (hS67.row 4 rfl).at_ len_encB (by omega) g245.1 g245.2
          refine r_indexAddr (c := (cd15 [1, 1, 1, 0, 1, 0, 0, 1, 1, 0, 0, 1, 1, 0, 1, 1, 1, 1, 1, 1, 1, 1, 1, 0])) (i := 5) (d := (some 79)) (ty := 0) (t := 62) (e := 4) (n := t42.length) (cp := (a0.length : Int).toNat) (sz := 1) (kk := .i64) (x := (.tmp 76)) (y := (.tmp 78)) (b := b247) (o' := p248) (j := (gt a0 t41).A) (by kernel_rfl) (by kernel_rfl) (slv (by kernel_rfl) hA249) (by kernel_rfl) (by kernel_rfl) (by kernel_rfl) g245.1 g245.2 ?_
          refine r_load (c := (cd15 [1, 1, 1, 0, 1, 0, 0, 1, 1, 0, 0, 1, 1, 0, 1, 1, 1, 1, 1, 1, 1, 1, 1, 0])) (i := 6) (d := (some 80)) (ty := 4) (t := 4) (x := (.tmp 79)) (p := ⟨b247, p248 + ((gt a0 t41).A).toNat * 1, none⟩) (v := .bool (gt t42 ((gt a0 t41).A))) (by kernel_rfl) (by kernel_rfl) (by kernel_rfl) (loads_at 0 ((hS67.row 4 rfl).at2 hA249 len_encB (by omega) g245.1 g245.2) (by kernel_rfl) (by kernel_rfl)) ?_
          refine r_split (gt t42 ((gt a0 t41).A)) (fun h251 => ?_) (fun h252 => ?_)
          ·skip
           have hp253 := ite_t hp246 h251
           refine sx_run 7 (todo' := [.inRegion (opsOf (cd15 [1, 1, 1, 0, 1, 0, 0, 1, 1, 0, 0, 1, 1, 0, 1, 1, 1, 1, 1, 1, 1, 1, 1, 0])) [14, 15], .inBlock 2, .inBlock 1, .code (cd15 [1, 1, 1, 0, 1, 0, 0, 1, 1, 1]), .inLoop (cd15 [1, 1, 1, 0, 1, 0, 0]), .inBlock 0, .code (cd15 [1, 1, 1, 1])]) (us := [(81, .bool true), (82, undef), (83, undef), (84, undef), (85, undef), (86, undef), (87, .bool true)]) (by kernel_rfl) ?_
           obtain ⟨g254, hp255⟩ := ite_some hp253
           obtain ⟨b256, p257, hA258, -⟩ := (hS67.row 4 rfl).at_ len_encB (by omega) g254.1 g254.2
           refine r_indexAddr (c := (cd15 [1, 1, 1, 0, 1, 0, 0, 1, 1, 0, 0, 1, 1, 0, 1, 1, 1, 1, 1, 1, 1, 1, 1, 0])) (i := 14) (d := (some 88)) (ty := 0) (t := 62) (e := 4) (n := t42.length) (cp := (a0.length : Int).toNat) (sz := 1) (kk := .i64) (x := (.tmp 74)) (y := (.tmp 75)) (b := b256) (o' := p257) (j := t41) (by kernel_rfl) (by kernel_rfl) (slv (by kernel_rfl) hA258) (by kernel_rfl) (by kernel_rfl) (by kernel_rfl) g254.1 g254.2 ?_
           have hS260 := hS67.pick4
           refine r_storeEl (c := (cd15 [1, 1, 1, 0, 1, 0, 0, 1, 1, 0, 0, 1, 1, 0, 1, 1, 1, 1, 1, 1, 1, 1, 1, 0])) (i := 15) (d := none) (ty := 0) (enc := encB) (e := 4) (t := 4) (sz := 1) (cp := (a0.length : Int).toNat) (A := A13) (xs := t42) (x := (.tmp 88)) (y := (.tmp 87)) (el := gt t42 t41) (el' := true) (j := t41) (off := 0) (b := b256) (p := p257) (v := .bool true) (vs := [.bool true]) (ad := ⟨b256, p257 + t41.toNat * 1, none⟩) hS260 (by kernel_rfl) (by kernel_rfl) (by kernel_rfl) (by simp) (by kernel_rfl) hA258 g254 rfl len_encB (by kernel_rfl) (by kernel_rfl) (by kernel_rfl) (Nat.le_of_ble_eq_true (by kernel_rfl)) (Nat.le_of_ble_eq_true (by kernel_rfl)) (by kernel_rfl) ?_
           intro w261 hS262
           refine Runs.fill (m := [none, none, none, none, none, none, none, some (.slice A13 t42.length ((a0.length : Int).toNat)), none, none, none, none, none, none, none, none, none, none, none, none, none, none, none, none, none, none, none, none, none, none, none, none, none, none, none, none, none, none, none, none, none, none, none, none, none, none, none, none, none, none, none, none, none, none, none, none, none, none, none, none, none, none, none, none, none, none, none, none, none, none, none, none, none, none, some (.slice A13 t42.length ((a0.length : Int).toNat)), none, some (.slice A13 t42.length ((a0.length : Int).toNat)), none, none, none, none, none, none, none, none, none, none, none, none, none, none, none, none, none, none, none]) (by kernel_rfl) ?_
           refine Runs.refill (m' := [none, none, none, none, none, none, none, some (.slice A13 (setl t42 t41 true).length ((a0.length : Int).toNat)), none, none, none, none, none, none, none, none, none, none, none, none, none, none, none, none, none, none, none, none, none, none, none, none, none, none, none, none, none, none, none, none, none, none, none, none, none, none, none, none, none, none, none, none, none, none, none, none, none, none, none, none, none, none, none, none, none, none, none, none, none, none, none, none, none, none, some (.slice A13 (setl t42 t41 true).length ((a0.length : Int).toNat)), none, some (.slice A13 (setl t42 t41 true).length ((a0.length : Int).toNat)), none, none, none, none, none, none, none, none, none, none, none, none, none, none, none, none, none, none, none]) (by simp only [setl_len]) ?_
           refine sx_run 7 (todo' := [.inLoop (cd15 [1, 1, 1, 0, 1, 0, 0]), .inBlock 0, .code (cd15 [1, 1, 1, 1])]) (us := [(89, .int .i64 (IntKind.i64.wrap (t41 + 1))), (20, .int .i64 (IntKind.i64.wrap (t41 + 1)))]) (by kernel_rfl) ?_
           have hS263 := hS262.pick1
           have hS264 := hS263.drop
           have hS265 := hS264.pick3
           have hS266 := hS265.pick3
           have hS267 := hS266.pick3
           refine sx_run 1 (todo' := [.code (cd15 [1, 1, 1, 0, 1, 0, 0]), .inLoop (cd15 [1, 1, 1, 0, 1, 0, 0]), .inBlock 0, .code (cd15 [1, 1, 1, 1])]) (us := []) (by kernel_rfl) ?_
           refine Runs.fill (m := [some (.slice Aa0 a0.length ca0), some (.func (.func 16) #[] #[.pointer (some ⟨ba1c0, 0, none⟩), .pointer (some ⟨ba1c1, 0, none⟩), .pointer (some ⟨ba1c2, 0, none⟩)]), none, none, none, none, none, some (.slice A13 (setl t42 t41 true).length ((a0.length : Int).toNat)), none, none, none, none, none, none, none, none, none, none, some (.slice Aa0 a0.length ca0), some (.int .i64 (a0.length : Int)), some (.int .i64 (IntKind.i64.wrap (t41 + 1))), none, none, none, none, none, none, none, none, none, none, none, none, none, none, none, none, none, none, none, none, none, none, none, none, none, none, none, none, none, none, none, none, none, none, none, none, none, none, none, none, none, none, none, none, none, none, none, none, none, none, none, none, none, none, none, none, none, none, none, none, none, none, none, none, none, none, none, none, none, none, none, none, none, none, none]) (by kernel_rfl) ?_
           exact ih50 (IntKind.i64.wrap (t41 + 1)) (setl t42 t41 true) t43 _ hp255 he48 _ _ hS267
          ·skip
           have hp268 := ite_f hp246 h252
           refine sx_run 3 (todo' := [.inRegion (opsOf (cd15 [1, 1, 1, 0, 1, 0, 0, 1, 1, 0, 0, 1, 1, 0, 1, 1, 1, 1, 1, 1, 1, 1, 1, 0])) [10, 11, 12, 13, 14, 15], .inBlock 2, .inBlock 1, .code (cd15 [1, 1, 1, 0, 1, 0, 0, 1, 1, 1]), .inLoop (cd15 [1, 1, 1, 0, 1, 0, 0]), .inBlock 0, .code (cd15 [1, 1, 1, 1])]) (us := [(81, .bool false), (82, .slice A13 t42.length ((a0.length : Int).toNat)), (83, .pointer (some ⟨b62, 2, none⟩))]) (by kernel_rfl) ?_
           refine r_load (c := (cd15 [1, 1, 1, 0, 1, 0, 0, 1, 1, 0, 0, 1, 1, 0, 1, 1, 1, 1, 1, 1, 1, 1, 1, 0])) (i := 10) (d := (some 84)) (ty := 3) (t := 3) (x := (.tmp 83)) (p := ⟨b62, 2, none⟩) (v := .int .i64 ((gt a0 t41).B)) (by kernel_rfl) (by kernel_rfl) (by kernel_rfl) (loads_at 2 (hS67.blk 0 rfl) (by kernel_rfl) (by kernel_rfl)) ?_
           obtain ⟨g269, hp270⟩ := ite_some hp268
           obtain ⟨b271, p272, hA273, -⟩ := (hS67.row 4 rfl).at_ len_encB (by omega) g269.1 g269.2
           refine r_indexAddr (c := (cd15 [1, 1, 1, 0, 1, 0, 0, 1, 1, 0, 0, 1, 1, 0, 1, 1, 1, 1, 1, 1, 1, 1, 1, 0])) (i := 11) (d := (some 85)) (ty := 0) (t := 62) (e := 4) (n := t42.length) (cp := (a0.length : Int).toNat) (sz := 1) (kk := .i64) (x := (.tmp 82)) (y := (.tmp 84)) (b := b271) (o' := p272) (j := (gt a0 t41).B) (by kernel_rfl) (by kernel_rfl) (slv (by kernel_rfl) hA273) (by kernel_rfl) (by kernel_rfl) (by kernel_rfl) g269.1 g269.2 ?_
           refine r_load (c := (cd15 [1, 1, 1, 0, 1, 0, 0, 1, 1, 0, 0, 1, 1, 0, 1, 1, 1, 1, 1, 1, 1, 1, 1, 0])) (i := 12) (d := (some 86)) (ty := 4) (t := 4) (x := (.tmp 85)) (p := ⟨b271, p272 + ((gt a0 t41).B).toNat * 1, none⟩) (v := .bool (gt t42 ((gt a0 t41).B))) (by kernel_rfl) (by kernel_rfl) (by kernel_rfl) (loads_at 0 ((hS67.row 4 rfl).at2 hA273 len_encB (by omega) g269.1 g269.2) (by kernel_rfl) (by kernel_rfl)) ?_
           refine r_split (gt t42 ((gt a0 t41).B)) (fun h275 => ?_) (fun h276 => ?_)
           ·skip
            have hp277 := ite_t hp270 h275
            refine sx_run 1 (todo' := [.inRegion (opsOf (cd15 [1, 1, 1, 0, 1, 0, 0, 1, 1, 0, 0, 1, 1, 0, 1, 1, 1, 1, 1, 1, 1, 1, 1, 0])) [14, 15], .inBlock 2, .inBlock 1, .code (cd15 [1, 1, 1, 0, 1, 0, 0, 1, 1, 1]), .inLoop (cd15 [1, 1, 1, 0, 1, 0, 0]), .inBlock 0, .code (cd15 [1, 1, 1, 1])]) (us := [(87, .bool true)]) (by kernel_rfl) ?_
            obtain ⟨g278, hp279⟩ := ite_some hp277
            obtain ⟨b280, p281, hA282, -⟩ := (hS67.row 4 rfl).at_ len_encB (by omega) g278.1 g278.2
            refine r_indexAddr (c := (cd15 [1, 1, 1, 0, 1, 0, 0, 1, 1, 0, 0, 1, 1, 0, 1, 1, 1, 1, 1, 1, 1, 1, 1, 0])) (i := 14) (d := (some 88)) (ty := 0) (t := 62) (e := 4) (n := t42.length) (cp := (a0.length : Int).toNat) (sz := 1) (kk := .i64) (x := (.tmp 74)) (y := (.tmp 75)) (b := b280) (o' := p281) (j := t41) (by kernel_rfl) (by kernel_rfl) (slv (by kernel_rfl) hA282) (by kernel_rfl) (by kernel_rfl) (by kernel_rfl) g278.1 g278.2 ?_
            have hS284 := hS67.pick4
            refine r_storeEl (c := (cd15 [1, 1, 1, 0, 1, 0, 0, 1, 1, 0, 0, 1, 1, 0, 1, 1, 1, 1, 1, 1, 1, 1, 1, 0])) (i := 15) (d := none) (ty := 0) (enc := encB) (e := 4) (t := 4) (sz := 1) (cp := (a0.length : Int).toNat) (A := A13) (xs := t42) (x := (.tmp 88)) (y := (.tmp 87)) (el := gt t42 t41) (el' := true) (j := t41) (off := 0) (b := b280) (p := p281) (v := .bool true) (vs := [.bool true]) (ad := ⟨b280, p281 + t41.toNat * 1, none⟩) hS284 (by kernel_rfl) (by kernel_rfl) (by kernel_rfl) (by simp) (by kernel_rfl) hA282 g278 rfl len_encB (by kernel_rfl) (by kernel_rfl) (by kernel_rfl) (Nat.le_of_ble_eq_true (by kernel_rfl)) (Nat.le_of_ble_eq_true (by kernel_rfl)) (by kernel_rfl) ?_
            intro w285 hS286
            refine Runs.fill (m := [none, none, none, none, none, none, none, some (.slice A13 t42.length ((a0.length : Int).toNat)), none, none, none, none, none, none, none, none, none, none, none, none, none, none, none, none, none, none, none, none, none, none, none, none, none, none, none, none, none, none, none, none, none, none, none, none, none, none, none, none, none, none, none, none, none, none, none, none, none, none, none, none, none, none, none, none, none, none, none, none, none, none, none, none, none, none, some (.slice A13 t42.length ((a0.length : Int).toNat)), none, some (.slice A13 t42.length ((a0.length : Int).toNat)), none, none, none, none, none, some (.slice A13 t42.length ((a0.length : Int).toNat)), none, none, none, none, none, none, none, none, none, none, none, none, none]) (by kernel_rfl) ?_
            refine Runs.refill (m' := [none, none, none, none, none, none, none, some (.slice A13 (setl t42 t41 true).length ((a0.length : Int).toNat)), none, none, none, none, none, none, none, none, none, none, none, none, none, none, none, none, none, none, none, none, none, none, none, none, none, none, none, none, none, none, none, none, none, none, none, none, none, none, none, none, none, none, none, none, none, none, none, none, none, none, none, none, none, none, none, none, none, none, none, none, none, none, none, none, none, none, some (.slice A13 (setl t42 t41 true).length ((a0.length : Int).toNat)), none, some (.slice A13 (setl t42 t41 true).length ((a0.length : Int).toNat)), none, none, none, none, none, some (.slice A13 (setl t42 t41 true).length ((a0.length : Int).toNat)), none, none, none, none, none, none, none, none, none, none, none, none, none]) (by simp only [setl_len]) ?_
            refine sx_run 7 (todo' := [.inLoop (cd15 [1, 1, 1, 0, 1, 0, 0]), .inBlock 0, .code (cd15 [1, 1, 1, 1])]) (us := [(89, .int .i64 (IntKind.i64.wrap (t41 + 1))), (20, .int .i64 (IntKind.i64.wrap (t41 + 1)))]) (by kernel_rfl) ?_
            have hS287 := hS286.pick1
            have hS288 := hS287.drop
            have hS289 := hS288.pick3
            have hS290 := hS289.pick3
            have hS291 := hS290.pick3
            refine sx_run 1 (todo' := [.code (cd15 [1, 1, 1, 0, 1, 0, 0]), .inLoop (cd15 [1, 1, 1, 0, 1, 0, 0]), .inBlock 0, .code (cd15 [1, 1, 1, 1])]) (us := []) (by kernel_rfl) ?_
            refine Runs.fill (m := [some (.slice Aa0 a0.length ca0), some (.func (.func 16) #[] #[.pointer (some ⟨ba1c0, 0, none⟩), .pointer (some ⟨ba1c1, 0, none⟩), .pointer (some ⟨ba1c2, 0, none⟩)]), none, none, none, none, none, some (.slice A13 (setl t42 t41 true).length ((a0.length : Int).toNat)), none, none, none, none, none, none, none, none, none, none, some (.slice Aa0 a0.length ca0), some (.int .i64 (a0.length : Int)), some (.int .i64 (IntKind.i64.wrap (t41 + 1))), none, none, none, none, none, none, none, none, none, none, none, none, none, none, none, none, none, none, none, none, none, none, none, none, none, none, none, none, none, none, none, none, none, none, none, none, none, none, none, none, none, none, none, none, none, none, none, none, none, none, none, none, none, none, none, none, none, none, none, none, none, none, none, none, none, none, none, none, none, none, none, none, none, none, none]) (by kernel_rfl) ?_
            exact ih50 (IntKind.i64.wrap (t41 + 1)) (setl t42 t41 true) t43 _ hp279 he48 _ _ hS291
           ·skip
            have hp292 := ite_f hp270 h276
            refine sx_run 1 (todo' := [.inRegion (opsOf (cd15 [1, 1, 1, 0, 1, 0, 0, 1, 1, 0, 0, 1, 1, 0, 1, 1, 1, 1, 1, 1, 1, 1, 1, 0])) [14, 15], .inBlock 2, .inBlock 1, .code (cd15 [1, 1, 1, 0, 1, 0, 0, 1, 1, 1]), .inLoop (cd15 [1, 1, 1, 0, 1, 0, 0]), .inBlock 0, .code (cd15 [1, 1, 1, 1])]) (us := [(87, .bool false)]) (by kernel_rfl) ?_
            obtain ⟨g293, hp294⟩ := ite_some hp292
            obtain ⟨b295, p296, hA297, -⟩ := (hS67.row 4 rfl).at_ len_encB (by omega) g293.1 g293.2
            refine r_indexAddr (c := (cd15 [1, 1, 1, 0, 1, 0, 0, 1, 1, 0, 0, 1, 1, 0, 1, 1, 1, 1, 1, 1, 1, 1, 1, 0])) (i := 14) (d := (some 88)) (ty := 0) (t := 62) (e := 4) (n := t42.length) (cp := (a0.length : Int).toNat) (sz := 1) (kk := .i64) (x := (.tmp 74)) (y := (.tmp 75)) (b := b295) (o' := p296) (j := t41) (by kernel_rfl) (by kernel_rfl) (slv (by kernel_rfl) hA297) (by kernel_rfl) (by kernel_rfl) (by kernel_rfl) g293.1 g293.2 ?_
            have hS299 := hS67.pick4
            refine r_storeEl (c := (cd15 [1, 1, 1, 0, 1, 0, 0, 1, 1, 0, 0, 1, 1, 0, 1, 1, 1, 1, 1, 1, 1, 1, 1, 0])) (i := 15) (d := none) (ty := 0) (enc := encB) (e := 4) (t := 4) (sz := 1) (cp := (a0.length : Int).toNat) (A := A13) (xs := t42) (x := (.tmp 88)) (y := (.tmp 87)) (el := gt t42 t41) (el' := false) (j := t41) (off := 0) (b := b295) (p := p296) (v := .bool false) (vs := [.bool false]) (ad := ⟨b295, p296 + t41.toNat * 1, none⟩) hS299 (by kernel_rfl) (by kernel_rfl) (by kernel_rfl) (by simp) (by kernel_rfl) hA297 g293 rfl len_encB (by kernel_rfl) (by kernel_rfl) (by kernel_rfl) (Nat.le_of_ble_eq_true (by kernel_rfl)) (Nat.le_of_ble_eq_true (by kernel_rfl)) (by kernel_rfl) ?_
            intro w300 hS301
            refine Runs.fill (m := [none, none, none, none, none, none, none, some (.slice A13 t42.length ((a0.length : Int).toNat)), none, none, none, none, none, none, none, none, none, none, none, none, none, none, none, none, none, none, none, none, none, none, none, none, none, none, none, none, none, none, none, none, none, none, none, none, none, none, none, none, none, none, none, none, none, none, none, none, none, none, none, none, none, none, none, none, none, none, none, none, none, none, none, none, none, none, some (.slice A13 t42.length ((a0.length : Int).toNat)), none, some (.slice A13 t42.length ((a0.length : Int).toNat)), none, none, none, none, none, some (.slice A13 t42.length ((a0.length : Int).toNat)), none, none, none, none, none, none, none, none, none, none, none, none, none]) (by kernel_rfl) ?_
            refine Runs.refill (m' := [none, none, none, none, none, none, none, some (.slice A13 (setl t42 t41 false).length ((a0.length : Int).toNat)), none, none, none, none, none, none, none, none, none, none, none, none, none, none, none, none, none, none, none, none, none, none, none, none, none, none, none, none, none, none, none, none, none, none, none, none, none, none, none, none, none, none, none, none, none, none, none, none, none, none, none, none, none, none, none, none, none, none, none, none, none, none, none, none, none, none, some (.slice A13 (setl t42 t41 false).length ((a0.length : Int).toNat)), none, some (.slice A13 (setl t42 t41 false).length ((a0.length : Int).toNat)), none, none, none, none, none, some (.slice A13 (setl t42 t41 false).length ((a0.length : Int).toNat)), none, none, none, none, none, none, none, none, none, none, none, none, none]) (by simp only [setl_len]) ?_
            refine sx_run 7 (todo' := [.inLoop (cd15 [1, 1, 1, 0, 1, 0, 0]), .inBlock 0, .code (cd15 [1, 1, 1, 1])]) (us := [(89, .int .i64 (IntKind.i64.wrap (t41 + 1))), (20, .int .i64 (IntKind.i64.wrap (t41 + 1)))]) (by kernel_rfl) ?_
            have hS302 := hS301.pick1
            have hS303 := hS302.drop
            have hS304 := hS303.pick3
            have hS305 := hS304.pick3
            have hS306 := hS305.pick3
            refine sx_run 1 (todo' := [.code (cd15 [1, 1, 1, 0, 1, 0, 0]), .inLoop (cd15 [1, 1, 1, 0, 1, 0, 0]), .inBlock 0, .code (cd15 [1, 1, 1, 1])]) (us := []) (by kernel_rfl) ?_
            refine Runs.fill (m := [some (.slice Aa0 a0.length ca0), some (.func (.func 16) #[] #[.pointer (some ⟨ba1c0, 0, none⟩), .pointer (some ⟨ba1c1, 0, none⟩), .pointer (some ⟨ba1c2, 0, none⟩)]), none, none, none, none, none, some (.slice A13 (setl t42 t41 false).length ((a0.length : Int).toNat)), none, none, none, none, none, none, none, none, none, none, some (.slice Aa0 a0.length ca0), some (.int .i64 (a0.length : Int)), some (.int .i64 (IntKind.i64.wrap (t41 + 1))), none, none, none, none, none, none, none, none, none, none, none, none, none, none, none, none, none, none, none, none, none, none, none, none, none, none, none, none, none, none, none, none, none, none, none, none, none, none, none, none, none, none, none, none, none, none, none, none, none, none, none, none, none, none, none, none, none, none, none, none, none, none, none, none, none, none, none, none, none, none, none, none, none, none, none]) (by kernel_rfl) ?_
            exact ih50 (IntKind.i64.wrap (t41 + 1)) (setl t42 t41 false) t43 _ hp294 he48 _ _ hS306
         ·skip
          have hp307 := ite_f hp241 h243
          refine sx_run 10 (todo' := [.inLoop (cd15 [1, 1, 1, 0, 1, 0, 0]), .inBlock 0, .code (cd15 [1, 1, 1, 1])]) (us := [(72, .bool false), (89, .int .i64 (IntKind.i64.wrap (t41 + 1))), (20, .int .i64 (IntKind.i64.wrap (t41 + 1)))]) (by kernel_rfl) ?_
          have hS308 := hS67.drop
          refine sx_run 1 (todo' := [.code (cd15 [1, 1, 1, 0, 1, 0, 0]), .inLoop (cd15 [1, 1, 1, 0, 1, 0, 0]), .inBlock 0, .code (cd15 [1, 1, 1, 1])]) (us := []) (by kernel_rfl) ?_
          refine Runs.fill (m := [some (.slice Aa0 a0.length ca0), some (.func (.func 16) #[] #[.pointer (some ⟨ba1c0, 0, none⟩), .pointer (some ⟨ba1c1, 0, none⟩), .pointer (some ⟨ba1c2, 0, none⟩)]), none, none, none, none, none, some (.slice A13 t42.length ((a0.length : Int).toNat)), none, none, none, none, none, none, none, none, none, none, some (.slice Aa0 a0.length ca0), some (.int .i64 (a0.length : Int)), some (.int .i64 (IntKind.i64.wrap (t41 + 1))), none, none, none, none, none, none, none, none, none, none, none, none, none, none, none, none, none, none, none, none, none, none, none, none, none, none, none, none, none, none, none, none, none, none, none, none, none, none, none, none, none, none, none, none, none, none, none, none, none, none, none, none, none, none, none, none, none, none, none, none, none, none, none, none, none, none, none, none, none, none, none, none, none, none, none]) (by kernel_rfl) ?_
          exact ih50 (IntKind.i64.wrap (t41 + 1)) t42 t43 _ hp307 he48 _ _ hS308
    ·skip
     have hp309 := ite_f hb49 h54
     refine sx_run 4 (todo' := [.code (cd15 [1, 1, 1, 1])]) (us := []) (by kernel_rfl) ?_
     have hS310 := hS45.pick2
     have hS311 := hS310.pick2
     have hS312 := hS311.pick2
     have hS313 := hS312.pick3
     refine Runs.fill (m := [some (.slice Aa0 a0.length ca0), none, none, none, none, none, none, some (.slice A13 t42.length ((a0.length : Int).toNat)), none, none, none, none, none, none, none, none, none, none, none, none, none, none, none, none, none, none, none, none, none, none, none, none, none, none, none, none, none, none, none, none, none, none, none, none, none, none, none, none, none, none, none, none, none, none, none, none, none, none, none, none, none, none, none, none, none, none, none, none, none, none, none, none, none, none, none, none, none, none, none, none, none, none, none, none, none, none, none, none, none, none, none, none, none, none, none, none]) (by kernel_rfl) ?_
     exact J24 t42 t43 ((Option.some.inj hp309).trans he48) _ _ hS313
   have hS314 := hS15.pick3
   have hS315 := hS314.pick3
   have hS316 := hS315.pick3
   refine Runs.fill (m := [some (.slice Aa0 a0.length ca0), some (.func (.func 16) #[] #[.pointer (some ⟨ba1c0, 0, none⟩), .pointer (some ⟨ba1c1, 0, none⟩), .pointer (some ⟨ba1c2, 0, none⟩)]), none, none, none, none, none, some (.slice A13 (List.replicate (a0.length : Int).toNat false).length ((a0.length : Int).toNat)), none, none, none, none, none, none, none, none, none, none, some (.slice Aa0 a0.length ca0), some (.int .i64 (a0.length : Int)), some (.int .i64 0), none, none, none, none, none, none, none, none, none, none, none, none, none, none, none, none, none, none, none, none, none, none, none, none, none, none, none, none, none, none, none, none, none, none, none, none, none, none, none, none, none, none, none, none, none, none, none, none, none, none, none, none, none, none, none, none, none, none, none, none, none, none, none, none, none, none, none, none, none, none, none, none, none, none, none]) (by kernel_rfl) ?_
   exact L52 0 (List.replicate (a0.length : Int).toNat false) a1c1v _ hv18 rfl _ _ hS316

noncomputable def cd27 (p : List Nat) : Code := sub (bodyOf Try.f27) p
def weirref06_value.l0 (a0 : List api_Ref) (a1 : List Int) (a2 : api_Ref) (t15 : Int) : Option (Sum Unit Int) :=
  (if (decide (t15 < (a0.length : Int))) = true then (if (decide (t15 < (a1.length : Int))) = true then (if 0 ≤ t15 ∧ t15 < (a0.length : Int) then (if (decide ((gt a0 t15) = a2)) = true then (if 0 ≤ t15 ∧ t15 < (a1.length : Int) then some (.inr ((gt a1 t15))) else none) else (weirref06_value.l0 a0 a1 a2 (IntKind.i64.wrap (t15 + 1)))) else none) else some (.inl ())) else some (.inl ()))
 partial_fixpoint
def weirref06_value.f (a0 : List api_Ref) (a1 : List Int) (a2 : api_Ref) : Option Int :=
  (weirref06_value.l0 a0 a1 a2 0 >>= (fun | .inl () => some (0) | .inr e => some e))
set_option maxHeartbeats 16000000 in
theorem weirref06_value.ok (a0 : List api_Ref) (a1 : List Int) (a2 : api_Ref) (Aa0 : Option Addr) (ca0 : Nat) (Aa1 : Option Addr) (ca1 : Nat) {w0 : World} {Z : Zm} {fs : List XObj} {w : World} (hS0 : St w0 Z (fs) w) (ha0 : SlZ (flat enc_api_Ref) 2 Z Aa0 ca0 a0) (ha1 : SlZ (flat (encI .i64)) 1 Z Aa1 ca1 a1) {q0 : Int} (hp0 : weirref06_value.f a0 a1 a2 = some q0) :
    Calls Try.prog 27 #[.slice Aa0 a0.length ca0, .slice Aa1 a1.length ca1, .agg (enc_api_Ref a2).toArray] w (fun e w' => e = .returned (.int .i64 q0) ∧ St w0 Z (fs) w') := by
  refine calls_abs ?_; intro R hR
  unfold weirref06_value.f at hp0
  refine calls_of_runs (fn := Try.f27) (c := cd27 []) Try.func27 (by kernel_rfl) (al := [.slice Aa0 a0.length ca0, .slice Aa1 a1.length ca1, .agg (enc_api_Ref a2).toArray]) rfl (n := 27) rfl ?_
  refine sx_run 2 (todo' := [.inRegion (opsOf (cd27 [0])) [0, 1], .code (cd27 [1])]) (us := []) (by kernel_rfl) ?_
  refine r_box (c := (cd27 [0])) (i := 0) (d := (some 5)) (ty := 0) (x := (.tmp 2)) (v := .agg (enc_api_Ref a2).toArray) (t := 46) (cs := enc_api_Ref a2) hS0 (by kernel_rfl) (by kernel_rfl) (by kernel_rfl) (by kernel_rfl) ?_
  intro b1 w2 hS3
  refine sx_run 9 (todo' := [.code (cd27 [1, 0, 1, 0, 0]), .inLoop (cd27 [1, 0, 1, 0, 0]), .inBlock 0, .code (cd27 [1, 1])]) (us := [(6, .int .i64 0), (7, .int .i64 0)]) (by kernel_rfl) ?_
  obtain ⟨v5, hv6, hp7⟩ := bind_some' hp0
  have hq10 : ∀ x, Sum.inr x = v5 → x = q0 := by intro x hx; subst hx; simpa using hp7
  have J11 : ∀ (he13 : Sum.inl () = v5) (l12 : List Value) (w8 : World) (hS9 : St w0 Z (fs) w8), Runs Try.prog 27 [.code (cd27 [1, 1])] (fill [none, none, none, none, none, none, none, none, none, none, none, none, none, none, none, none, none, none, none, none, none, none, none, none, none, none, none, none, none, none] l12) w8 R := by
   intro he13 l12 w8 hS9
   subst he13
   try dsimp only at hp7
   refine sx_run 4 (todo' := [.code (cd27 [1, 1, 1])]) (us := [(6, .int .i64 0)]) (by kernel_rfl) ?_
   refine runs_ret (fn := Try.f27) (v := .int .i64 0) Try.func27 (by kernel_rfl) ?_
   have hr14 := (Option.some.inj hp7)
   cases hr14
   exact hR _ _ ⟨rfl, hS9⟩
  have L24 : ∀ (t15 : Int) (e19 : Sum Unit Int), weirref06_value.l0 a0 a1 a2 t15 = some e19 → e19 = v5 → ∀ (l18 : List Value) (w16 : World) (hS17 : St w0 Z (xblk b1 46 (enc_api_Ref a2) :: fs) w16), Runs Try.prog 27 [.code (cd27 [1, 0, 1, 0, 0]), .inLoop (cd27 [1, 0, 1, 0, 0]), .inBlock 0, .code (cd27 [1, 1])] (fill [some (.slice Aa0 a0.length ca0), some (.slice Aa1 a1.length ca1), none, none, none, some (.pointer (some ⟨b1, 0, none⟩)), none, some (.int .i64 t15), none, none, none, none, none, none, none, none, none, none, none, none, none, none, none, none, none, none, none, none, none, none] l18) w16 R := by
   refine weirref06_value.l0.partial_correctness a0 a1 a2 (fun t15 e19 => e19 = v5 → ∀ (l18 : List Value) (w16 : World) (hS17 : St w0 Z (xblk b1 46 (enc_api_Ref a2) :: fs) w16), Runs Try.prog 27 [.code (cd27 [1, 0, 1, 0, 0]), .inLoop (cd27 [1, 0, 1, 0, 0]), .inBlock 0, .code (cd27 [1, 1])] (fill [some (.slice Aa0 a0.length ca0), some (.slice Aa1 a1.length ca1), none, none, none, some (.pointer (some ⟨b1, 0, none⟩)), none, some (.int .i64 t15), none, none, none, none, none, none, none, none, none, none, none, none, none, none, none, none, none, none, none, none, none, none] l18) w16 R) ?_
   intro rec23 ih22 t15 e19 hb21 he20 l18 w16 hS17
   have hq25 : ∀ x, Sum.inr x = e19 → x = q0 := fun x hx => hq10 x (hx.trans he20)
   refine sx_split 7 (todo' := [.inRegion (opsOf (cd27 [1, 0, 1, 0, 0, 0, 0])) [4, 5, 6, 7, 8, 9], .code (cd27 [1, 0, 1, 0, 0, 0, 1]), .code (cd27 [1, 0, 1, 0, 0, 1]), .inLoop (cd27 [1, 0, 1, 0, 0]), .inBlock 0, .code (cd27 [1, 1])]) (us := [(8, .int .i64 t15), (9, .slice Aa0 a0.length ca0), (10, .int .i64 (a0.length : Int))]) (d := 11) (t := (decide (t15 < (a0.length : Int)))) (by kernel_rfl) (fun h26 => ?_) (fun h27 => ?_)
   ·skip
    have hp28 := ite_t hb21 h26
    refine sx_split 5 (todo' := [.inRegion (opsOf (cd27 [1, 0, 1, 0, 0, 0, 0])) [9], .code (cd27 [1, 0, 1, 0, 0, 0, 1]), .code (cd27 [1, 0, 1, 0, 0, 1]), .inLoop (cd27 [1, 0, 1, 0, 0]), .inBlock 0, .code (cd27 [1, 1])]) (us := [(12, .bool true), (13, .int .i64 t15), (14, .slice Aa1 a1.length ca1), (15, .int .i64 (a1.length : Int))]) (d := 16) (t := (decide (t15 < (a1.length : Int)))) (by kernel_rfl) (fun h29 => ?_) (fun h30 => ?_)
    ·skip
     have hp31 := ite_t hp28 h29
     refine sx_run 7 (todo' := [.code (cd27 [1, 0, 1, 0, 0, 1, 0, 0, 0]), .code (cd27 [1, 0, 1, 0, 0, 1, 0, 0, 1]), .inBlock 1, .code (cd27 [1, 0, 1, 0, 0, 1, 1]), .inLoop (cd27 [1, 0, 1, 0, 0]), .inBlock 0, .code (cd27 [1, 1])]) (us := [(17, .bool true)]) (by kernel_rfl) ?_
     refine r_quiet hS17 (c := (cd27 [1, 0, 1, 0, 0, 1, 0, 0, 0])) (id := 4) (by kernel_rfl) (by kernel_rfl) (by kernel_rfl) (is := [0, 1, 2, 3, 4, 5]) (by kernel_rfl) ?_
     refine q_run 2 (is' := [2, 3, 4, 5]) (us := [(20, .slice Aa0 a0.length ca0), (21, .int .i64 t15)]) (by kernel_rfl) ?_
     obtain ⟨g32, hp33⟩ := ite_some hp31
     obtain ⟨b34, p35, hA36, hc37⟩ := ha0.atF g32.1 g32.2
     refine q_indexAddr (c := (cd27 [1, 0, 1, 0, 0, 1, 0, 0, 0])) (i := 2) (d := (some 22)) (ty := 0) (t := 34) (e := 46) (n := a0.length) (cp := ca0) (sz := 2) (kk := .i64) (x := (.tmp 20)) (y := (.tmp 21)) (b := b34) (o' := p35) (j := t15) (by kernel_rfl) (by kernel_rfl) (slv (by kernel_rfl) hA36) (by kernel_rfl) (by kernel_rfl) (by kernel_rfl) g32.1 g32.2 ?_
     refine q_load (c := (cd27 [1, 0, 1, 0, 0, 1, 0, 0, 0])) (i := 3) (d := (some 23)) (ty := 46) (t := 46) (x := (.tmp 22)) (p := ⟨b34, p35 + t15.toNat * 2, none⟩) (v := .agg (enc_api_Ref (gt a0 t15)).toArray) (by kernel_rfl) (by kernel_rfl) (by kernel_rfl) (fun w hC => (loads_agg (hc37.cells hC) (by kernel_rfl) (by kernel_rfl))) ?_
     refine q_load (c := (cd27 [1, 0, 1, 0, 0, 1, 0, 0, 0])) (i := 4) (d := (some 24)) (ty := 46) (t := 46) (x := (.tmp 5)) (p := ⟨b1, 0, none⟩) (v := .agg (enc_api_Ref a2).toArray) (by kernel_rfl) (by kernel_rfl) (by kernel_rfl) (fun w hC => (loads_agg (hC.blk 0 rfl) (by kernel_rfl) (by kernel_rfl))) ?_
     refine q_val (c := (cd27 [1, 0, 1, 0, 0, 1, 0, 0, 0])) (i := 5) (d := (some 25)) (ty := 4) (op := .binOp .eql 46 (.tmp 23) (.tmp 24) 46) (v := .bool (decide ((gt a0 t15) = a2))) (by kernel_rfl) (by kernel_rfl) (fun w hC o ho _ => x_eql_api_Ref (by kernel_rfl) (by kernel_rfl) ho) ?_
     refine q_split (decide ((gt a0 t15) = a2)) (fun h38 => ?_) (fun h39 => ?_)
     ·skip
      have hp40 := ite_t hp33 h38
      refine Qs.nil ?_
      intro w41 hS42
      refine sx_run 5 (todo' := [.inRegion (opsOf (cd27 [1, 0, 1, 0, 0, 1, 0, 0, 1, 0, 0])) [2, 3, 4], .code (cd27 [1, 0, 1, 0, 0, 1, 0, 0, 1, 0, 1]), .inBlock 1, .code (cd27 [1, 0, 1, 0, 0, 1, 1]), .inLoop (cd27 [1, 0, 1, 0, 0]), .inBlock 0, .code (cd27 [1, 1])]) (us := [(26, .slice Aa1 a1.length ca1), (27, .int .i64 t15)]) (by kernel_rfl) ?_
      obtain ⟨g43, hp44⟩ := ite_some hp40
      obtain ⟨b45, p46, hA47, hc48⟩ := ha1.atF g43.1 g43.2
      refine r_indexAddr (c := (cd27 [1, 0, 1, 0, 0, 1, 0, 0, 1, 0, 0])) (i := 2) (d := (some 28)) (ty := 0) (t := 35) (e := 2) (n := a1.length) (cp := ca1) (sz := 1) (kk := .i64) (x := (.tmp 26)) (y := (.tmp 27)) (b := b45) (o' := p46) (j := t15) (by kernel_rfl) (by kernel_rfl) (slv (by kernel_rfl) hA47) (by kernel_rfl) (by kernel_rfl) (by kernel_rfl) g43.1 g43.2 ?_
      refine r_load (c := (cd27 [1, 0, 1, 0, 0, 1, 0, 0, 1, 0, 0])) (i := 3) (d := (some 29)) (ty := 2) (t := 2) (x := (.tmp 28)) (p := ⟨b45, p46 + t15.toNat * 1, none⟩) (v := .int .i64 (gt a1 t15)) (by kernel_rfl) (by kernel_rfl) (by kernel_rfl) (loads_at 0 (hc48.cells hS42) (by kernel_rfl) (by kernel_rfl)) ?_
      refine sx_run 2 (todo' := [.code (cd27 [1, 0, 1, 0, 0, 1, 0, 0, 1, 0, 1]), .inBlock 1, .code (cd27 [1, 0, 1, 0, 0, 1, 1]), .inLoop (cd27 [1, 0, 1, 0, 0]), .inBlock 0, .code (cd27 [1, 1])]) (us := [(6, .int .i64 (gt a1 t15))]) (by kernel_rfl) ?_
      have hS49 := hS42.drop
      refine runs_ret (fn := Try.f27) (v := .int .i64 (gt a1 t15)) Try.func27 (by kernel_rfl) ?_
      have hr50 := (hq25 _ (Option.some.inj hp44))
      cases hr50
      exact hR _ _ ⟨rfl, hS49⟩
     ·skip
      have hp51 := ite_f hp33 h39
      refine Qs.nil ?_
      intro w52 hS53
      refine sx_run 8 (todo' := [.inLoop (cd27 [1, 0, 1, 0, 0]), .inBlock 0, .code (cd27 [1, 1])]) (us := [(18, .int .i64 t15), (19, .int .i64 (IntKind.i64.wrap (t15 + 1))), (7, .int .i64 (IntKind.i64.wrap (t15 + 1)))]) (by kernel_rfl) ?_
      refine sx_run 1 (todo' := [.code (cd27 [1, 0, 1, 0, 0]), .inLoop (cd27 [1, 0, 1, 0, 0]), .inBlock 0, .code (cd27 [1, 1])]) (us := []) (by kernel_rfl) ?_
      refine Runs.fill (m := [some (.slice Aa0 a0.length ca0), some (.slice Aa1 a1.length ca1), none, none, none, some (.pointer (some ⟨b1, 0, none⟩)), none, some (.int .i64 (IntKind.i64.wrap (t15 + 1))), none, none, none, none, none, none, none, none, none, none, none, none, none, none, none, none, none, none, none, none, none, none]) (by kernel_rfl) ?_
      exact ih22 (IntKind.i64.wrap (t15 + 1)) _ hp51 he20 _ _ hS53
    ·skip
     have hp54 := ite_f hp28 h30
     refine sx_run 4 (todo' := [.code (cd27 [1, 1])]) (us := [(17, .bool false)]) (by kernel_rfl) ?_
     have hS55 := hS17.drop
     refine Runs.fill (m := [none, none, none, none, none, none, none, none, none, none, none, none, none, none, none, none, none, none, none, none, none, none, none, none, none, none, none, none, none, none]) (by kernel_rfl) ?_
     exact J11 ((Option.some.inj hp54).trans he20) _ _ hS55
   ·skip
    have hp56 := ite_f hb21 h27
    refine sx_run 9 (todo' := [.code (cd27 [1, 1])]) (us := [(12, .bool false), (13, undef), (14, undef), (15, undef), (16, undef), (17, .bool false)]) (by kernel_rfl) ?_
    have hS57 := hS17.drop
    refine Runs.fill (m := [none, none, none, none, none, none, none, none, none, none, none, none, none, none, none, none, none, none, none, none, none, none, none, none, none, none, none, none, none, none]) (by kernel_rfl) ?_
    exact J11 ((Option.some.inj hp56).trans he20) _ _ hS57
  refine Runs.fill (m := [some (.slice Aa0 a0.length ca0), some (.slice Aa1 a1.length ca1), none, none, none, some (.pointer (some ⟨b1, 0, none⟩)), none, some (.int .i64 0), none, none, none, none, none, none, none, none, none, none, none, none, none, none, none, none, none, none, none, none, none, none]) (by kernel_rfl) ?_
  exact L24 0 _ hv6 rfl _ _ hS3

noncomputable def cd18 (p : List Nat) : Code := sub (bodyOf Try.f18) p
def weirref06_Holds.l0 (a0 : List api_Node) (a1 : List api_Ref) (a2 : List Int) (t37 : List Bool) (t41 : Int) : Option (List Bool) :=
  (if (decide (t41 < (a0.length : Int))) = true then (if 0 ≤ t41 ∧ t41 < (a0.length : Int) then (((if (((gt a0 t41).Op) == 2) = true then (weirref06_value.f a1 a2 ((gt a0 t41).Ref) >>= (fun t92 => (if (t92 == ((gt a0 t41).Value)) = true then some (true) else some (false)))) else (if (((gt a0 t41).Op) == 3) = true then (if 0 ≤ ((gt a0 t41).A) ∧ ((gt a0 t41).A) < (t37.length : Int) then (if (gt t37 ((gt a0 t41).A)) = true then some (false) else some (true)) else none) else (if (((gt a0 t41).Op) == 4) = true then (if 0 ≤ ((gt a0 t41).A) ∧ ((gt a0 t41).A) < (t37.length : Int) then (if (gt t37 ((gt a0 t41).A)) = true then (if 0 ≤ ((gt a0 t41).B) ∧ ((gt a0 t41).B) < (t37.length : Int) then (if (gt t37 ((gt a0 t41).B)) = true then some (true) else some (false)) else none) else some (false)) else none) else (if (((gt a0 t41).Op) == 5) = true then (if 0 ≤ ((gt a0 t41).A) ∧ ((gt a0 t41).A) < (t37.length : Int) then (if (gt t37 ((gt a0 t41).A)) = true then some (true) else (if 0 ≤ ((gt a0 t41).B) ∧ ((gt a0 t41).B) < (t37.length : Int) then (if (gt t37 ((gt a0 t41).B)) = true then some (true) else some (false)) else none)) else none) else some (true))))) : Option Bool) >>= (fun t69 => (if (t37.length + ([t69] : List Bool).length) * 1 ≤ 140737488355328 then (weirref06_Holds.l0 a0 a1 a2 (t37 ++ ([t69] : List Bool)) (IntKind.i64.wrap (t41 + 1))) else none))) else none) else some (t37))
 partial_fixpoint
def weirref06_Holds.f (a0 : List api_Node) (a1 : List api_Ref) (a2 : List Int) : Option (Bool × Int) :=
  (weirref06_Check.f a0 >>= (fun t1 => (if (t1 != 0) = true then some ((false, t1)) else (weirref06_Holds.l0 a0 a1 a2 [] 0 >>= (fun t14 => (if 0 ≤ (IntKind.i64.wrap ((t14.length : Int) - 1)) ∧ (IntKind.i64.wrap ((t14.length : Int) - 1)) < (t14.length : Int) then (if (gt t14 (IntKind.i64.wrap ((t14.length : Int) - 1))) = true then some ((true, 0)) else some ((false, 0))) else none))))))
set_option maxHeartbeats 16000000 in
theorem weirref06_Holds.ok (a0 : List api_Node) (a1 : List api_Ref) (a2 : List Int) (Aa0 : Option Addr) (ca0 : Nat) (Aa1 : Option Addr) (ca1 : Nat) (Aa2 : Option Addr) (ca2 : Nat) {w0 : World} {Z : Zm} {fs : List XObj} {w : World} (hS0 : St w0 Z (fs) w) (ha0 : SlZ (flat enc_api_Node) 6 Z Aa0 ca0 a0) (ha1 : SlZ (flat enc_api_Ref) 2 Z Aa1 ca1 a1) (ha2 : SlZ (flat (encI .i64)) 1 Z Aa2 ca2 a2) {q0 : Bool} {q1 : Int} (hp0 : weirref06_Holds.f a0 a1 a2 = some (q0, q1)) :
    Calls Try.prog 18 #[.slice Aa0 a0.length ca0, .slice Aa1 a1.length ca1, .slice Aa2 a2.length ca2] w (fun e w' => e = .returned (.tuple #[.bool q0, .int .i64 q1]) ∧ St w0 Z (fs) w') := by
  refine calls_abs ?_; intro R hR
  unfold weirref06_Holds.f at hp0
  refine calls_of_runs (fn := Try.f18) (c := cd18 []) Try.func18 (by kernel_rfl) (al := [.slice Aa0 a0.length ca0, .slice Aa1 a1.length ca1, .slice Aa2 a2.length ca2]) rfl (n := 83) rfl ?_
  refine sx_run 8 (todo' := [.inRegion (opsOf (cd18 [1, 0])) [1, 2], .code (cd18 [1, 1])]) (us := [(6, .bool false), (7, .int .i64 0), (13, .slice Aa0 a0.length ca0)]) (by kernel_rfl) ?_
  obtain ⟨t1, hr2, hp3⟩ := bind_some' hp0
  refine r_call1 (c := (cd18 [1, 0])) (i := 1) (d := (some 14)) (g := 21) (args := #[.slice Aa0 a0.length ca0]) (by kernel_rfl) (by kernel_rfl) (by kernel_rfl) (by kernel_rfl) (weirref06_Check.ok a0 Aa0 ca0 hS0 ha0 hr2) ?_
  rintro _ w4 ⟨rfl, hS5⟩
  refine ⟨.int .i64 t1, rfl, ?_⟩
  refine sx_split 7 (todo' := [.inRegion (opsOf (cd18 [1, 1, 0, 0])) [], .code (cd18 [1, 1, 0, 1]), .code (cd18 [1, 1, 1])]) (us := [(8, .int .i64 t1), (15, .int .i64 t1)]) (d := 16) (t := (t1 != 0)) (by kernel_rfl) (fun h6 => ?_) (fun h7 => ?_)
  ·skip
   have hp8 := ite_t hp3 h6
   refine sx_run 8 (todo' := [.code (cd18 [1, 1, 0, 1, 0, 1]), .code (cd18 [1, 1, 1])]) (us := [(17, .int .i64 t1), (6, .bool false), (7, .int .i64 t1)]) (by kernel_rfl) ?_
   refine runs_ret (fn := Try.f18) (v := .tuple #[.bool false, .int .i64 t1]) Try.func18 (by kernel_rfl) ?_
   have hr9 := (Option.some.inj hp8)
   cases hr9
   exact hR _ _ ⟨rfl, hS5⟩
  ·skip
   have hp10 := ite_f hp3 h7
   refine sx_run 14 (todo' := [.code (cd18 [1, 1, 1, 1, 0, 1, 0, 0]), .inLoop (cd18 [1, 1, 1, 1, 0, 1, 0, 0]), .inBlock 0, .code (cd18 [1, 1, 1, 1, 1])]) (us := [(9, .slice none 0 0), (10, .int .i64 0)]) (by kernel_rfl) ?_
   obtain ⟨v11, hv12, hp13⟩ := bind_some' hp10
   have J20 : ∀ (t14 : List Bool) (he22 : t14 = v11) (l21 : List Value) (A15 : Option Addr) (c16 : Nat) (w18 : World) (hS19 : St w0 Z (xrow A15 c16 4 1 (t14.flatMap encB) :: fs) w18), Runs Try.prog 18 [.code (cd18 [1, 1, 1, 1, 1])] (fill [none, none, none, none, none, none, none, none, none, some (.slice A15 t14.length c16), none, none, none, none, none, none, none, none, none, none, none, none, none, none, none, none, none, none, none, none, none, none, none, none, none, none, none, none, none, none, none, none, none, none, none, none, none, none, none, none, none, none, none, none, none, none, none, none, none, none, none, none, none, none, none, none, none, none, none, none, none, none, none, none, none, none, none, none, none, none, none, none, none, none, none, none] l21) w18 R := by
    intro t14 he22 l21 A15 c16 w18 hS19
    subst he22
    try dsimp only at hp13
    refine sx_run 6 (todo' := [.inRegion (opsOf (cd18 [1, 1, 1, 1, 1, 0])) [4, 5, 6, 7], .code (cd18 [1, 1, 1, 1, 1, 1])]) (us := [(80, .slice A15 t14.length c16), (81, .slice A15 t14.length c16), (82, .int .i64 (t14.length : Int)), (83, .int .i64 (IntKind.i64.wrap ((t14.length : Int) - 1)))]) (by kernel_rfl) ?_
    obtain ⟨g23, hp24⟩ := ite_some hp13
    obtain ⟨b25, p26, hA27, -⟩ := (hS19.row 0 rfl).at_ len_encB (by omega) g23.1 g23.2
    refine r_indexAddr (c := (cd18 [1, 1, 1, 1, 1, 0])) (i := 4) (d := (some 84)) (ty := 0) (t := 62) (e := 4) (n := t14.length) (cp := c16) (sz := 1) (kk := .i64) (x := (.tmp 80)) (y := (.tmp 83)) (b := b25) (o' := p26) (j := (IntKind.i64.wrap ((t14.length : Int) - 1))) (by kernel_rfl) (by kernel_rfl) (slv (by kernel_rfl) hA27) (by kernel_rfl) (by kernel_rfl) (by kernel_rfl) g23.1 g23.2 ?_
    refine r_load (c := (cd18 [1, 1, 1, 1, 1, 0])) (i := 5) (d := (some 85)) (ty := 4) (t := 4) (x := (.tmp 84)) (p := ⟨b25, p26 + (IntKind.i64.wrap ((t14.length : Int) - 1)).toNat * 1, none⟩) (v := .bool (gt t14 (IntKind.i64.wrap ((t14.length : Int) - 1)))) (by kernel_rfl) (by kernel_rfl) (by kernel_rfl) (loads_at 0 ((hS19.row 0 rfl).at2 hA27 len_encB (by omega) g23.1 g23.2) (by kernel_rfl) (by kernel_rfl)) ?_
    refine r_split (gt t14 (IntKind.i64.wrap ((t14.length : Int) - 1))) (fun h29 => ?_) (fun h30 => ?_)
    ·skip
     have hp31 := ite_t hp24 h29
     refine sx_run 3 (todo' := [.code (cd18 [1, 1, 1, 1, 1, 1])]) (us := [(6, .bool true), (7, .int .i64 0)]) (by kernel_rfl) ?_
     have hS32 := hS19.drop
     refine runs_ret (fn := Try.f18) (v := .tuple #[.bool true, .int .i64 0]) Try.func18 (by kernel_rfl) ?_
     have hr33 := (Option.some.inj hp31)
     cases hr33
     exact hR _ _ ⟨rfl, hS32⟩
    ·skip
     have hp34 := ite_f hp24 h30
     refine sx_run 3 (todo' := [.code (cd18 [1, 1, 1, 1, 1, 1])]) (us := [(6, .bool false), (7, .int .i64 0)]) (by kernel_rfl) ?_
     have hS35 := hS19.drop
     refine runs_ret (fn := Try.f18) (v := .tuple #[.bool false, .int .i64 0]) Try.func18 (by kernel_rfl) ?_
     have hr36 := (Option.some.inj hp34)
     cases hr36
     exact hR _ _ ⟨rfl, hS35⟩
   have L50 : ∀ (t37 : List Bool) (t41 : Int) (e45 : (List Bool)), weirref06_Holds.l0 a0 a1 a2 t37 t41 = some e45 → e45 = v11 → ∀ (l44 : List Value) (A38 : Option Addr) (c39 : Nat) (w42 : World) (hS43 : St w0 Z (xrow A38 c39 4 1 (t37.flatMap encB) :: fs) w42), Runs Try.prog 18 [.code (cd18 [1, 1, 1, 1, 0, 1, 0, 0]), .inLoop (cd18 [1, 1, 1, 1, 0, 1, 0, 0]), .inBlock 0, .code (cd18 [1, 1, 1, 1, 1])] (fill [some (.slice Aa0 a0.length ca0), some (.slice Aa1 a1.length ca1), some (.slice Aa2 a2.length ca2), none, none, none, none, none, none, some (.slice A38 t37.length c39), some (.int .i64 t41), none, none, none, none, none, none, none, none, none, none, none, none, none, none, none, none, none, none, none, none, none, none, none, none, none, none, none, none, none, none, none, none, none, none, none, none, none, none, none, none, none, none, none, none, none, none, none, none, none, none, none, none, none, none, none, none, none, none, none, none, none, none, none, none, none, none, none, none, none, none, none, none, none, none, none] l44) w42 R := by
    refine weirref06_Holds.l0.partial_correctness a0 a1 a2 (fun t37 t41 e45 => e45 = v11 → ∀ (l44 : List Value) (A38 : Option Addr) (c39 : Nat) (w42 : World) (hS43 : St w0 Z (xrow A38 c39 4 1 (t37.flatMap encB) :: fs) w42), Runs Try.prog 18 [.code (cd18 [1, 1, 1, 1, 0, 1, 0, 0]), .inLoop (cd18 [1, 1, 1, 1, 0, 1, 0, 0]), .inBlock 0, .code (cd18 [1, 1, 1, 1, 1])] (fill [some (.slice Aa0 a0.length ca0), some (.slice Aa1 a1.length ca1), some (.slice Aa2 a2.length ca2), none, none, none, none, none, none, some (.slice A38 t37.length c39), some (.int .i64 t41), none, none, none, none, none, none, none, none, none, none, none, none, none, none, none, none, none, none, none, none, none, none, none, none, none, none, none, none, none, none, none, none, none, none, none, none, none, none, none, none, none, none, none, none, none, none, none, none, none, none, none, none, none, none, none, none, none, none, none, none, none, none, none, none, none, none, none, none, none, none, none, none, none, none, none] l44) w42 R) ?_
    intro rec49 ih48 t37 t41 e45 hb47 he46 l44 A38 c39 w42 hS43
    refine sx_split 7 (todo' := [.inRegion (opsOf (cd18 [1, 1, 1, 1, 0, 1, 0, 0, 0, 0])) [], .code (cd18 [1, 1, 1, 1, 0, 1, 0, 0, 0, 1]), .code (cd18 [1, 1, 1, 1, 0, 1, 0, 0, 1]), .inLoop (cd18 [1, 1, 1, 1, 0, 1, 0, 0]), .inBlock 0, .code (cd18 [1, 1, 1, 1, 1])]) (us := [(18, .int .i64 t41), (19, .slice Aa0 a0.length ca0), (20, .int .i64 (a0.length : Int))]) (d := 21) (t := (decide (t41 < (a0.length : Int)))) (by kernel_rfl) (fun h51 => ?_) (fun h52 => ?_)
    ·skip
     have hp53 := ite_t hb47 h51
     refine sx_run 9 (todo' := [.inRegion (opsOf (cd18 [1, 1, 1, 1, 0, 1, 0, 0, 1, 0, 0, 0])) [2, 3, 4, 5], .code (cd18 [1, 1, 1, 1, 0, 1, 0, 0, 1, 0, 0, 1]), .inBlock 1, .code (cd18 [1, 1, 1, 1, 0, 1, 0, 0, 1, 1]), .inLoop (cd18 [1, 1, 1, 1, 0, 1, 0, 0]), .inBlock 0, .code (cd18 [1, 1, 1, 1, 1])]) (us := [(24, .slice Aa0 a0.length ca0), (25, .int .i64 t41)]) (by kernel_rfl) ?_
     obtain ⟨g54, hp55⟩ := ite_some hp53
     obtain ⟨b56, p57, hA58, hc59⟩ := ha0.atF g54.1 g54.2
     refine r_indexAddr (c := (cd18 [1, 1, 1, 1, 0, 1, 0, 0, 1, 0, 0, 0])) (i := 2) (d := (some 26)) (ty := 0) (t := 23) (e := 52) (n := a0.length) (cp := ca0) (sz := 6) (kk := .i64) (x := (.tmp 24)) (y := (.tmp 25)) (b := b56) (o' := p57) (j := t41) (by kernel_rfl) (by kernel_rfl) (slv (by kernel_rfl) hA58) (by kernel_rfl) (by kernel_rfl) (by kernel_rfl) g54.1 g54.2 ?_
     refine r_load (c := (cd18 [1, 1, 1, 1, 0, 1, 0, 0, 1, 0, 0, 0])) (i := 3) (d := (some 27)) (ty := 52) (t := 52) (x := (.tmp 26)) (p := ⟨b56, p57 + t41.toNat * 6, none⟩) (v := .agg (enc_api_Node (gt a0 t41)).toArray) (by kernel_rfl) (by kernel_rfl) (by kernel_rfl) (loads_agg (hc59.cells hS43) (by kernel_rfl) (by kernel_rfl)) ?_
     refine r_alloc (c := (cd18 [1, 1, 1, 1, 0, 1, 0, 0, 1, 0, 0, 0])) (i := 4) (d := (some 11)) (ty := 0) (z := .agg (enc_api_Node (⟨0, 0, 0, ⟨0, (⟨#[]⟩ : ByteArray)⟩, 0⟩ : api_Node)).toArray) (t := 52) (cs := enc_api_Node (⟨0, 0, 0, ⟨0, (⟨#[]⟩ : ByteArray)⟩, 0⟩ : api_Node)) hS43 (by kernel_rfl) (by kernel_rfl) (by kernel_rfl) (by kernel_rfl) ?_
     intro b60 w61 hS62
     refine r_store (c := (cd18 [1, 1, 1, 1, 0, 1, 0, 0, 1, 0, 0, 0])) (i := 5) (d := none) (ty := 0) (t := 52) (x := (.tmp 11)) (y := (.tmp 27)) (b := b60) (o := 0) (e := 52) (cs := enc_api_Node (⟨0, 0, 0, ⟨0, (⟨#[]⟩ : ByteArray)⟩, 0⟩ : api_Node)) (v := .agg (enc_api_Node (gt a0 t41)).toArray) (vs := enc_api_Node (gt a0 t41)) (cs' := enc_api_Node (gt a0 t41)) hS62 (by kernel_rfl) (by kernel_rfl) (by kernel_rfl) (by kernel_rfl) (by kernel_rfl) (by kernel_rfl) (one_api_Node _) (Nat.le_of_ble_eq_true (by kernel_rfl)) (by kernel_rfl) ?_
     intro w64 hS65
     refine sx_run 9 (todo' := [.inRegion (opsOf (cd18 [1, 1, 1, 1, 0, 1, 0, 0, 1, 0, 0, 1, 1, 0, 0])) [1], .code (cd18 [1, 1, 1, 1, 0, 1, 0, 0, 1, 0, 0, 1, 1, 0, 1]), .code (cd18 [1, 1, 1, 1, 0, 1, 0, 0, 1, 0, 0, 1, 1, 1]), .inBlock 1, .code (cd18 [1, 1, 1, 1, 0, 1, 0, 0, 1, 1]), .inLoop (cd18 [1, 1, 1, 1, 0, 1, 0, 0]), .inBlock 0, .code (cd18 [1, 1, 1, 1, 1])]) (us := [(12, .bool true), (28, .pointer (some ⟨b60, 0, none⟩))]) (by kernel_rfl) ?_
     refine r_load (c := (cd18 [1, 1, 1, 1, 0, 1, 0, 0, 1, 0, 0, 1, 1, 0, 0])) (i := 1) (d := (some 29)) (ty := 3) (t := 3) (x := (.tmp 28)) (p := ⟨b60, 0, none⟩) (v := .int .i64 ((gt a0 t41).Op)) (by kernel_rfl) (by kernel_rfl) (by kernel_rfl) (loads_at 0 (hS65.blk 0 rfl) (by kernel_rfl) (by kernel_rfl)) ?_
     obtain ⟨v66, hv67, hp68⟩ := bind_some' hp55
     have J72 : ∀ (t69 : Bool) (he74 : t69 = v66) (l73 : List Value) (w70 : World) (hS71 : St w0 Z (xrow A38 c39 4 1 (t37.flatMap encB) :: fs) w70), Runs Try.prog 18 [.code (cd18 [1, 1, 1, 1, 0, 1, 0, 0, 1, 0, 0, 1, 1, 1]), .inBlock 1, .code (cd18 [1, 1, 1, 1, 0, 1, 0, 0, 1, 1]), .inLoop (cd18 [1, 1, 1, 1, 0, 1, 0, 0]), .inBlock 0, .code (cd18 [1, 1, 1, 1, 1])] (fill [some (.slice Aa0 a0.length ca0), some (.slice Aa1 a1.length ca1), some (.slice Aa2 a2.length ca2), none, none, none, none, none, none, some (.slice A38 t37.length c39), some (.int .i64 t41), none, some (.bool t69), none, none, none, none, none, none, none, none, none, none, none, none, none, none, none, none, none, none, none, none, none, none, none, none, none, none, none, none, none, none, none, none, none, none, none, none, none, none, none, none, none, none, none, none, none, none, none, none, none, none, none, none, none, none, none, none, none, none, none, none, none, none, none, none, none, none, none, none, none, none, none, none, none] l73) w70 R := by
      intro t69 he74 l73 w70 hS71
      subst he74
      try dsimp only at hp68
      refine sx_run 3 (todo' := [.inRegion (opsOf (cd18 [1, 1, 1, 1, 0, 1, 0, 0, 1, 0, 0, 1, 1, 1])) [2, 3, 4], .inBlock 1, .code (cd18 [1, 1, 1, 1, 0, 1, 0, 0, 1, 1]), .inLoop (cd18 [1, 1, 1, 1, 0, 1, 0, 0]), .inBlock 0, .code (cd18 [1, 1, 1, 1, 1])]) (us := [(76, .slice A38 t37.length c39), (77, .bool t69)]) (by kernel_rfl) ?_
      refine r_lit (c := (cd18 [1, 1, 1, 1, 0, 1, 0, 0, 1, 0, 0, 1, 1, 1])) (i := 2) (d := (some 78)) (ty := 62) (t := 62) (e := 4) (sz := 1) (n := 1) (parts := #[(0, (.tmp 77))]) (vs := [(0, .bool t69)]) (z := zeroOf Try.prog 4) (cs' := ([t69] : List Bool).flatMap encB) hS71 (by kernel_rfl) (by kernel_rfl) (by kernel_rfl) (by kernel_rfl) (by kernel_rfl) (by decide) (by decide) (by kernel_rfl) rfl (Parts.cons (c := [.bool t69]) (by kernel_rfl) rfl Parts.nil) rfl ?_
      intro b76 w77 hS78
      have hS79 := hS78.pick1
      obtain ⟨g80, hp81⟩ := ite_some hp68
      refine r_append (c := (cd18 [1, 1, 1, 1, 0, 1, 0, 0, 1, 0, 0, 1, 1, 1])) (i := 3) (d := (some 79)) (ty := 62) (enc := encB) (e := 4) (u := 4) (t := 62) (t2 := 62) (sz := 1) (cp := c39) (A := A38) (bytes := 1) (xs := t37) (ys := ([t69] : List Bool)) (s := (.tmp 76)) (x := (.tmp 78)) (xv := .slice (some ⟨b76, 0, none⟩) ([t69] : List Bool).length 1) (info := infoOf Try.prog 4) (z := zeroOf Try.prog 4) (ycs := ([t69] : List Bool).flatMap encB) hS79 (by kernel_rfl) (by kernel_rfl) (by kernel_rfl) (by kernel_rfl) (by kernel_rfl) (.inl (by kernel_rfl)) (by kernel_rfl) (by kernel_rfl) (by kernel_rfl) (by kernel_rfl) (by kernel_rfl) (by omega) len_encB one_encB (src_row (hS79.row 1 rfl) (by omega) len_encB) rfl g80 (by omega) ?_
      intro A82 c83 w84 hS85
      refine sx_run 8 (todo' := [.inLoop (cd18 [1, 1, 1, 1, 0, 1, 0, 0]), .inBlock 0, .code (cd18 [1, 1, 1, 1, 1])]) (us := [(9, .slice A82 (t37 ++ ([t69] : List Bool)).length c83), (22, .int .i64 t41), (23, .int .i64 (IntKind.i64.wrap (t41 + 1))), (10, .int .i64 (IntKind.i64.wrap (t41 + 1)))]) (by kernel_rfl) ?_
      have hS87 := hS85.pick1
      have hS88 := hS87.drop
      refine sx_run 1 (todo' := [.code (cd18 [1, 1, 1, 1, 0, 1, 0, 0]), .inLoop (cd18 [1, 1, 1, 1, 0, 1, 0, 0]), .inBlock 0, .code (cd18 [1, 1, 1, 1, 1])]) (us := []) (by kernel_rfl) ?_
      refine Runs.fill (m := [some (.slice Aa0 a0.length ca0), some (.slice Aa1 a1.length ca1), some (.slice Aa2 a2.length ca2), none, none, none, none, none, none, some (.slice A82 (t37 ++ ([t69] : List Bool)).length c83), some (.int .i64 (IntKind.i64.wrap (t41 + 1))), none, none, none, none, none, none, none, none, none, none, none, none, none, none, none, none, none, none, none, none, none, none, none, none, none, none, none, none, none, none, none, none, none, none, none, none, none, none, none, none, none, none, none, none, none, none, none, none, none, none, none, none, none, none, none, none, none, none, none, none, none, none, none, none, none, none, none, none, none, none, none, none, none, none, none]) (by kernel_rfl) ?_
      exact ih48 (t37 ++ ([t69] : List Bool)) (IntKind.i64.wrap (t41 + 1)) _ hp81 he46 _ A82 c83 _ hS88
     refine sx_split 5 (todo' := [.inRegion (opsOf (cd18 [1, 1, 1, 1, 0, 1, 0, 0, 1, 0, 0, 1, 1, 0, 1, 0, 0])) [1], .code (cd18 [1, 1, 1, 1, 0, 1, 0, 0, 1, 0, 0, 1, 1, 0, 1, 0, 1]), .inBlock 2, .code (cd18 [1, 1, 1, 1, 0, 1, 0, 0, 1, 0, 0, 1, 1, 1]), .inBlock 1, .code (cd18 [1, 1, 1, 1, 0, 1, 0, 0, 1, 1]), .inLoop (cd18 [1, 1, 1, 1, 0, 1, 0, 0]), .inBlock 0, .code (cd18 [1, 1, 1, 1, 1])]) (us := []) (d := 31) (t := (((gt a0 t41).Op) == 2)) (by kernel_rfl) (fun h89 => ?_) (fun h90 => ?_)
     ·skip
      have hp91 := ite_t hv67 h89
      refine sx_run 3 (todo' := [.code (cd18 [1, 1, 1, 1, 0, 1, 0, 0, 1, 0, 0, 1, 1, 0, 1, 0, 1, 0]), .inBlock 2, .code (cd18 [1, 1, 1, 1, 0, 1, 0, 0, 1, 0, 0, 1, 1, 1]), .inBlock 1, .code (cd18 [1, 1, 1, 1, 0, 1, 0, 0, 1, 1]), .inLoop (cd18 [1, 1, 1, 1, 0, 1, 0, 0]), .inBlock 0, .code (cd18 [1, 1, 1, 1, 1])]) (us := [(30, .bool true)]) (by kernel_rfl) ?_
      refine r_quiet hS65 (c := (cd18 [1, 1, 1, 1, 0, 1, 0, 0, 1, 0, 0, 1, 1, 0, 1, 0, 1, 0])) (id := 12) (by kernel_rfl) (by kernel_rfl) (by kernel_rfl) (is := [0, 1, 2, 3, 4, 5, 6, 7, 8]) (by kernel_rfl) ?_
      refine q_run 3 (is' := [3, 4, 5, 6, 7, 8]) (us := [(32, .slice Aa1 a1.length ca1), (33, .slice Aa2 a2.length ca2), (34, .pointer (some ⟨b60, 3, none⟩))]) (by kernel_rfl) ?_
      refine q_load (c := (cd18 [1, 1, 1, 1, 0, 1, 0, 0, 1, 0, 0, 1, 1, 0, 1, 0, 1, 0])) (i := 3) (d := (some 35)) (ty := 46) (t := 46) (x := (.tmp 34)) (p := ⟨b60, 3, none⟩) (v := .agg (enc_api_Ref ((gt a0 t41).Ref)).toArray) (by kernel_rfl) (by kernel_rfl) (by kernel_rfl) (fun w hC => (loads_agg (sub_api_Node_Ref (hC.blk 0 rfl)) (by kernel_rfl) (by kernel_rfl))) ?_
      obtain ⟨t92, hr93, hp94⟩ := bind_some' hp91
      refine q_call1 (c := (cd18 [1, 1, 1, 1, 0, 1, 0, 0, 1, 0, 0, 1, 1, 0, 1, 0, 1, 0])) (i := 4) (d := (some 36)) (v := .int .i64 t92) (g := 27) (args := #[.slice Aa1 a1.length ca1, .slice Aa2 a2.length ca2, .agg (enc_api_Ref ((gt a0 t41).Ref)).toArray]) (by kernel_rfl) (by kernel_rfl) (by kernel_rfl) (by kernel_rfl) (fun w hC => by
       refine (weirref06_value.ok a1 a2 ((gt a0 t41).Ref) Aa1 ca1 Aa2 ca2 hC ha1 ha2 hr93).mono ?_
       rintro e w2 ⟨rfl, h2⟩
       have hS95 := h2.pick1
       have hS96 := hS95.pick1
       exact ⟨rfl, hS96⟩) ?_
      refine q_run 1 (is' := [6, 7, 8]) (us := [(37, .pointer (some ⟨b60, 5, none⟩))]) (by kernel_rfl) ?_
      refine q_load (c := (cd18 [1, 1, 1, 1, 0, 1, 0, 0, 1, 0, 0, 1, 1, 0, 1, 0, 1, 0])) (i := 6) (d := (some 38)) (ty := 2) (t := 2) (x := (.tmp 37)) (p := ⟨b60, 5, none⟩) (v := .int .i64 ((gt a0 t41).Value)) (by kernel_rfl) (by kernel_rfl) (by kernel_rfl) (fun w hC => (loads_at 5 (hC.blk 0 rfl) (by kernel_rfl) (by kernel_rfl))) ?_
      refine q_splitr 1 (is' := [8]) (us := []) (d := 39) (t := (t92 == ((gt a0 t41).Value))) (by kernel_rfl) (fun h97 => ?_) (fun h98 => ?_)
      ·skip
       have hp99 := ite_t hp94 h97
       refine q_run 1 (is' := []) (us := [(12, .bool true)]) (by kernel_rfl) ?_
       refine Qs.nil ?_
       intro w100 hS101
       refine sx_run 1 (todo' := [.code (cd18 [1, 1, 1, 1, 0, 1, 0, 0, 1, 0, 0, 1, 1, 1]), .inBlock 1, .code (cd18 [1, 1, 1, 1, 0, 1, 0, 0, 1, 1]), .inLoop (cd18 [1, 1, 1, 1, 0, 1, 0, 0]), .inBlock 0, .code (cd18 [1, 1, 1, 1, 1])]) (us := []) (by kernel_rfl) ?_
       have hS102 := hS101.drop
       refine Runs.fill (m := [some (.slice Aa0 a0.length ca0), some (.slice Aa1 a1.length ca1), some (.slice Aa2 a2.length ca2), none, none, none, none, none, none, some (.slice A38 t37.length c39), some (.int .i64 t41), none, some (.bool true), none, none, none, none, none, none, none, none, none, none, none, none, none, none, none, none, none, none, none, none, none, none, none, none, none, none, none, none, none, none, none, none, none, none, none, none, none, none, none, none, none, none, none, none, none, none, none, none, none, none, none, none, none, none, none, none, none, none, none, none, none, none, none, none, none, none, none, none, none, none, none, none, none]) (by kernel_rfl) ?_
       exact J72 true (Option.some.inj hp99) _ _ hS102
      ·skip
       have hp103 := ite_f hp94 h98
       refine q_run 1 (is' := []) (us := [(12, .bool false)]) (by kernel_rfl) ?_
       refine Qs.nil ?_
       intro w104 hS105
       refine sx_run 1 (todo' := [.code (cd18 [1, 1, 1, 1, 0, 1, 0, 0, 1, 0, 0, 1, 1, 1]), .inBlock 1, .code (cd18 [1, 1, 1, 1, 0, 1, 0, 0, 1, 1]), .inLoop (cd18 [1, 1, 1, 1, 0, 1, 0, 0]), .inBlock 0, .code (cd18 [1, 1, 1, 1, 1])]) (us := []) (by kernel_rfl) ?_
       have hS106 := hS105.drop
       refine Runs.fill (m := [some (.slice Aa0 a0.length ca0), some (.slice Aa1 a1.length ca1), some (.slice Aa2 a2.length ca2), none, none, none, none, none, none, some (.slice A38 t37.length c39), some (.int .i64 t41), none, some (.bool false), none, none, none, none, none, none, none, none, none, none, none, none, none, none, none, none, none, none, none, none, none, none, none, none, none, none, none, none, none, none, none, none, none, none, none, none, none, none, none, none, none, none, none, none, none, none, none, none, none, none, none, none, none, none, none, none, none, none, none, none, none, none, none, none, none, none, none, none, none, none, none, none, none]) (by kernel_rfl) ?_
       exact J72 false (Option.some.inj hp103) _ _ hS106
     ·skip
      have hp107 := ite_f hv67 h90
      refine sx_split 6 (todo' := [.inRegion (opsOf (cd18 [1, 1, 1, 1, 0, 1, 0, 0, 1, 0, 0, 1, 1, 0, 1, 0, 1, 1, 0])) [1], .code (cd18 [1, 1, 1, 1, 0, 1, 0, 0, 1, 0, 0, 1, 1, 0, 1, 0, 1, 1, 1]), .inBlock 2, .code (cd18 [1, 1, 1, 1, 0, 1, 0, 0, 1, 0, 0, 1, 1, 1]), .inBlock 1, .code (cd18 [1, 1, 1, 1, 0, 1, 0, 0, 1, 1]), .inLoop (cd18 [1, 1, 1, 1, 0, 1, 0, 0]), .inBlock 0, .code (cd18 [1, 1, 1, 1, 1])]) (us := [(30, .bool false)]) (d := 41) (t := (((gt a0 t41).Op) == 3)) (by kernel_rfl) (fun h108 => ?_) (fun h109 => ?_)
      ·skip
       have hp110 := ite_t hp107 h108
       refine sx_run 6 (todo' := [.inRegion (opsOf (cd18 [1, 1, 1, 1, 0, 1, 0, 0, 1, 0, 0, 1, 1, 0, 1, 0, 1, 1, 1, 0])) [2, 3, 4, 5, 6], .inBlock 2, .code (cd18 [1, 1, 1, 1, 0, 1, 0, 0, 1, 0, 0, 1, 1, 1]), .inBlock 1, .code (cd18 [1, 1, 1, 1, 0, 1, 0, 0, 1, 1]), .inLoop (cd18 [1, 1, 1, 1, 0, 1, 0, 0]), .inBlock 0, .code (cd18 [1, 1, 1, 1, 1])]) (us := [(40, .bool true), (42, .slice A38 t37.length c39), (43, .pointer (some ⟨b60, 1, none⟩))]) (by kernel_rfl) ?_
       refine r_load (c := (cd18 [1, 1, 1, 1, 0, 1, 0, 0, 1, 0, 0, 1, 1, 0, 1, 0, 1, 1, 1, 0])) (i := 2) (d := (some 44)) (ty := 3) (t := 3) (x := (.tmp 43)) (p := ⟨b60, 1, none⟩) (v := .int .i64 ((gt a0 t41).A)) (by kernel_rfl) (by kernel_rfl) (by kernel_rfl) (loads_at 1 (hS65.blk 0 rfl) (by kernel_rfl) (by kernel_rfl)) ?_
       obtain ⟨g111, hp112⟩ := ite_some hp110
       obtain ⟨b113, p114, hA115, -⟩ := (hS65.row 1 rfl).at_ len_encB (by omega) g111.1 g111.2
       refine r_indexAddr (c := (cd18 [1, 1, 1, 1, 0, 1, 0, 0, 1, 0, 0, 1, 1, 0, 1, 0, 1, 1, 1, 0])) (i := 3) (d := (some 45)) (ty := 0) (t := 62) (e := 4) (n := t37.length) (cp := c39) (sz := 1) (kk := .i64) (x := (.tmp 42)) (y := (.tmp 44)) (b := b113) (o' := p114) (j := (gt a0 t41).A) (by kernel_rfl) (by kernel_rfl) (slv (by kernel_rfl) hA115) (by kernel_rfl) (by kernel_rfl) (by kernel_rfl) g111.1 g111.2 ?_
       refine r_load (c := (cd18 [1, 1, 1, 1, 0, 1, 0, 0, 1, 0, 0, 1, 1, 0, 1, 0, 1, 1, 1, 0])) (i := 4) (d := (some 46)) (ty := 4) (t := 4) (x := (.tmp 45)) (p := ⟨b113, p114 + ((gt a0 t41).A).toNat * 1, none⟩) (v := .bool (gt t37 ((gt a0 t41).A))) (by kernel_rfl) (by kernel_rfl) (by kernel_rfl) (loads_at 0 ((hS65.row 1 rfl).at2 hA115 len_encB (by omega) g111.1 g111.2) (by kernel_rfl) (by kernel_rfl)) ?_
       refine r_split (gt t37 ((gt a0 t41).A)) (fun h117 => ?_) (fun h118 => ?_)
       ·skip
        have hp119 := ite_t hp112 h117
        refine sx_run 4 (todo' := [.code (cd18 [1, 1, 1, 1, 0, 1, 0, 0, 1, 0, 0, 1, 1, 1]), .inBlock 1, .code (cd18 [1, 1, 1, 1, 0, 1, 0, 0, 1, 1]), .inLoop (cd18 [1, 1, 1, 1, 0, 1, 0, 0]), .inBlock 0, .code (cd18 [1, 1, 1, 1, 1])]) (us := [(47, .bool false), (12, .bool false)]) (by kernel_rfl) ?_
        have hS120 := hS65.drop
        refine Runs.fill (m := [some (.slice Aa0 a0.length ca0), some (.slice Aa1 a1.length ca1), some (.slice Aa2 a2.length ca2), none, none, none, none, none, none, some (.slice A38 t37.length c39), some (.int .i64 t41), none, some (.bool false), none, none, none, none, none, none, none, none, none, none, none, none, none, none, none, none, none, none, none, none, none, none, none, none, none, none, none, none, none, none, none, none, none, none, none, none, none, none, none, none, none, none, none, none, none, none, none, none, none, none, none, none, none, none, none, none, none, none, none, none, none, none, none, none, none, none, none, none, none, none, none, none, none]) (by kernel_rfl) ?_
        exact J72 false (Option.some.inj hp119) _ _ hS120
       ·skip
        have hp121 := ite_f hp112 h118
        refine sx_run 4 (todo' := [.code (cd18 [1, 1, 1, 1, 0, 1, 0, 0, 1, 0, 0, 1, 1, 1]), .inBlock 1, .code (cd18 [1, 1, 1, 1, 0, 1, 0, 0, 1, 1]), .inLoop (cd18 [1, 1, 1, 1, 0, 1, 0, 0]), .inBlock 0, .code (cd18 [1, 1, 1, 1, 1])]) (us := [(47, .bool true), (12, .bool true)]) (by kernel_rfl) ?_
        have hS122 := hS65.drop
        refine Runs.fill (m := [some (.slice Aa0 a0.length ca0), some (.slice Aa1 a1.length ca1), some (.slice Aa2 a2.length ca2), none, none, none, none, none, none, some (.slice A38 t37.length c39), some (.int .i64 t41), none, some (.bool true), none, none, none, none, none, none, none, none, none, none, none, none, none, none, none, none, none, none, none, none, none, none, none, none, none, none, none, none, none, none, none, none, none, none, none, none, none, none, none, none, none, none, none, none, none, none, none, none, none, none, none, none, none, none, none, none, none, none, none, none, none, none, none, none, none, none, none, none, none, none, none, none, none]) (by kernel_rfl) ?_
        exact J72 true (Option.some.inj hp121) _ _ hS122
      ·skip
       have hp123 := ite_f hp107 h109
       refine sx_split 6 (todo' := [.inRegion (opsOf (cd18 [1, 1, 1, 1, 0, 1, 0, 0, 1, 0, 0, 1, 1, 0, 1, 0, 1, 1, 1, 1, 0])) [1], .code (cd18 [1, 1, 1, 1, 0, 1, 0, 0, 1, 0, 0, 1, 1, 0, 1, 0, 1, 1, 1, 1, 1]), .inBlock 2, .code (cd18 [1, 1, 1, 1, 0, 1, 0, 0, 1, 0, 0, 1, 1, 1]), .inBlock 1, .code (cd18 [1, 1, 1, 1, 0, 1, 0, 0, 1, 1]), .inLoop (cd18 [1, 1, 1, 1, 0, 1, 0, 0]), .inBlock 0, .code (cd18 [1, 1, 1, 1, 1])]) (us := [(40, .bool false)]) (d := 49) (t := (((gt a0 t41).Op) == 4)) (by kernel_rfl) (fun h124 => ?_) (fun h125 => ?_)
       ·skip
        have hp126 := ite_t hp123 h124
        refine sx_run 6 (todo' := [.inRegion (opsOf (cd18 [1, 1, 1, 1, 0, 1, 0, 0, 1, 0, 0, 1, 1, 0, 1, 0, 1, 1, 1, 1, 1, 0])) [2, 3, 4, 5, 6, 7, 8, 9, 10, 11, 12], .inBlock 2, .code (cd18 [1, 1, 1, 1, 0, 1, 0, 0, 1, 0, 0, 1, 1, 1]), .inBlock 1, .code (cd18 [1, 1, 1, 1, 0, 1, 0, 0, 1, 1]), .inLoop (cd18 [1, 1, 1, 1, 0, 1, 0, 0]), .inBlock 0, .code (cd18 [1, 1, 1, 1, 1])]) (us := [(48, .bool true), (50, .slice A38 t37.length c39), (51, .pointer (some ⟨b60, 1, none⟩))]) (by kernel_rfl) ?_
        refine r_load (c := (cd18 [1, 1, 1, 1, 0, 1, 0, 0, 1, 0, 0, 1, 1, 0, 1, 0, 1, 1, 1, 1, 1, 0])) (i := 2) (d := (some 52)) (ty := 3) (t := 3) (x := (.tmp 51)) (p := ⟨b60, 1, none⟩) (v := .int .i64 ((gt a0 t41).A)) (by kernel_rfl) (by kernel_rfl) (by kernel_rfl) (loads_at 1 (hS65.blk 0 rfl) (by kernel_rfl) (by kernel_rfl)) ?_
        obtain ⟨g127, hp128⟩ := ite_some hp126
        obtain ⟨b129, p130, hA131, -⟩ := (hS65.row 1 rfl).at_ len_encB (by omega) g127.1 g127.2
        refine r_indexAddr (c := (cd18 [1, 1, 1, 1, 0, 1, 0, 0, 1, 0, 0, 1, 1, 0, 1, 0, 1, 1, 1, 1, 1, 0])) (i := 3) (d := (some 53)) (ty := 0) (t := 62) (e := 4) (n := t37.length) (cp := c39) (sz := 1) (kk := .i64) (x := (.tmp 50)) (y := (.tmp 52)) (b := b129) (o' := p130) (j := (gt a0 t41).A) (by kernel_rfl) (by kernel_rfl) (slv (by kernel_rfl) hA131) (by kernel_rfl) (by kernel_rfl) (by kernel_rfl) g127.1 g127.2 ?_
        refine r_load (c := (cd18 [1, 1, 1, 1, 0, 1, 0, 0, 1, 0, 0, 1, 1, 0, 1, 0, 1, 1, 1, 1, 1, 0])) (i := 4) (d := (some 54)) (ty := 4) (t := 4) (x := (.tmp 53)) (p := ⟨b129, p130 + ((gt a0 t41).A).toNat * 1, none⟩) (v := .bool (gt t37 ((gt a0 t41).A))) (by kernel_rfl) (by kernel_rfl) (by kernel_rfl) (loads_at 0 ((hS65.row 1 rfl).at2 hA131 len_encB (by omega) g127.1 g127.2) (by kernel_rfl) (by kernel_rfl)) ?_
        refine r_split (gt t37 ((gt a0 t41).A)) (fun h133 => ?_) (fun h134 => ?_)
        ·skip
         have hp135 := ite_t hp128 h133
         refine sx_run 3 (todo' := [.inRegion (opsOf (cd18 [1, 1, 1, 1, 0, 1, 0, 0, 1, 0, 0, 1, 1, 0, 1, 0, 1, 1, 1, 1, 1, 0])) [8, 9, 10, 11, 12], .inBlock 2, .code (cd18 [1, 1, 1, 1, 0, 1, 0, 0, 1, 0, 0, 1, 1, 1]), .inBlock 1, .code (cd18 [1, 1, 1, 1, 0, 1, 0, 0, 1, 1]), .inLoop (cd18 [1, 1, 1, 1, 0, 1, 0, 0]), .inBlock 0, .code (cd18 [1, 1, 1, 1, 1])]) (us := [(55, .bool true), (56, .slice A38 t37.length c39), (57, .pointer (some ⟨b60, 2, none⟩))]) (by kernel_rfl) ?_
         refine r_load (c := (cd18 [1, 1, 1, 1, 0, 1, 0, 0, 1, 0, 0, 1, 1, 0, 1, 0, 1, 1, 1, 1, 1, 0])) (i := 8) (d := (some 58)) (ty := 3) (t := 3) (x := (.tmp 57)) (p := ⟨b60, 2, none⟩) (v := .int .i64 ((gt a0 t41).B)) (by kernel_rfl) (by kernel_rfl) (by kernel_rfl) (loads_at 2 (hS65.blk 0 rfl) (by kernel_rfl) (by kernel_rfl)) ?_
         obtain ⟨g136, hp137⟩ := ite_some hp135
         obtain ⟨b138, p139, hA140, -⟩ := (hS65.row 1 rfl).at_ len_encB (by omega) g136.1 g136.2
         refine r_indexAddr (c := (cd18 [1, 1, 1, 1, 0, 1, 0, 0, 1, 0, 0, 1, 1, 0, 1, 0, 1, 1, 1, 1, 1, 0])) (i := 9) (d := (some 59)) (ty := 0) (t := 62) (e := 4) (n := t37.length) (cp := c39) (sz := 1) (kk := .i64) (x := (.tmp 56)) (y := (.tmp 58)) (b := b138) (o' := p139) (j := (gt a0 t41).B) (by kernel_rfl) (by kernel_rfl) (slv (by kernel_rfl) hA140) (by kernel_rfl) (by kernel_rfl) (by kernel_rfl) g136.1 g136.2 ?_
         refine r_load (c := (cd18 [1, 1, 1, 1, 0, 1, 0, 0, 1, 0, 0, 1, 1, 0, 1, 0, 1, 1, 1, 1, 1, 0])) (i := 10) (d := (some 60)) (ty := 4) (t := 4) (x := (.tmp 59)) (p := ⟨b138, p139 + ((gt a0 t41).B).toNat * 1, none⟩) (v := .bool (gt t37 ((gt a0 t41).B))) (by kernel_rfl) (by kernel_rfl) (by kernel_rfl) (loads_at 0 ((hS65.row 1 rfl).at2 hA140 len_encB (by omega) g136.1 g136.2) (by kernel_rfl) (by kernel_rfl)) ?_
         refine r_split (gt t37 ((gt a0 t41).B)) (fun h142 => ?_) (fun h143 => ?_)
         ·skip
          have hp144 := ite_t hp137 h142
          refine sx_run 4 (todo' := [.code (cd18 [1, 1, 1, 1, 0, 1, 0, 0, 1, 0, 0, 1, 1, 1]), .inBlock 1, .code (cd18 [1, 1, 1, 1, 0, 1, 0, 0, 1, 1]), .inLoop (cd18 [1, 1, 1, 1, 0, 1, 0, 0]), .inBlock 0, .code (cd18 [1, 1, 1, 1, 1])]) (us := [(61, .bool true), (12, .bool true)]) (by kernel_rfl) ?_
          have hS145 := hS65.drop
          refine Runs.fill (m := [some (.slice Aa0 a0.length ca0), some (.slice Aa1 a1.length ca1), some (.slice Aa2 a2.length ca2), none, none, none, none, none, none, some (.slice A38 t37.length c39), some (.int .i64 t41), none, some (.bool true), none, none, none, none, none, none, none, none, none, none, none, none, none, none, none, none, none, none, none, none, none, none, none, none, none, none, none, none, none, none, none, none, none, none, none, none, none, none, none, none, none, none, none, none, none, none, none, none, none, none, none, none, none, none, none, none, none, none, none, none, none, none, none, none, none, none, none, none, none, none, none, none, none]) (by kernel_rfl) ?_
          exact J72 true (Option.some.inj hp144) _ _ hS145
         ·skip
          have hp146 := ite_f hp137 h143
          refine sx_run 4 (todo' := [.code (cd18 [1, 1, 1, 1, 0, 1, 0, 0, 1, 0, 0, 1, 1, 1]), .inBlock 1, .code (cd18 [1, 1, 1, 1, 0, 1, 0, 0, 1, 1]), .inLoop (cd18 [1, 1, 1, 1, 0, 1, 0, 0]), .inBlock 0, .code (cd18 [1, 1, 1, 1, 1])]) (us := [(61, .bool false), (12, .bool false)]) (by kernel_rfl) ?_
          have hS147 := hS65.drop
          refine Runs.fill (m := [some (.slice Aa0 a0.length ca0), some (.slice Aa1 a1.length ca1), some (.slice Aa2 a2.length ca2), none, none, none, none, none, none, some (.slice A38 t37.length c39), some (.int .i64 t41), none, some (.bool false), none, none, none, none, none, none, none, none, none, none, none, none, none, none, none, none, none, none, none, none, none, none, none, none, none, none, none, none, none, none, none, none, none, none, none, none, none, none, none, none, none, none, none, none, none, none, none, none, none, none, none, none, none, none, none, none, none, none, none, none, none, none, none, none, none, none, none, none, none, none, none, none, none]) (by kernel_rfl) ?_
          exact J72 false (Option.some.inj hp146) _ _ hS147
        ·skip
         have hp148 := ite_f hp128 h134
         refine sx_run 10 (todo' := [.code (cd18 [1, 1, 1, 1, 0, 1, 0, 0, 1, 0, 0, 1, 1, 1]), .inBlock 1, .code (cd18 [1, 1, 1, 1, 0, 1, 0, 0, 1, 1]), .inLoop (cd18 [1, 1, 1, 1, 0, 1, 0, 0]), .inBlock 0, .code (cd18 [1, 1, 1, 1, 1])]) (us := [(55, .bool false), (56, undef), (57, undef), (58, undef), (59, undef), (60, undef), (61, .bool false), (12, .bool false)]) (by kernel_rfl) ?_
         have hS149 := hS65.drop
         refine Runs.fill (m := [some (.slice Aa0 a0.length ca0), some (.slice Aa1 a1.length ca1), some (.slice Aa2 a2.length ca2), none, none, none, none, none, none, some (.slice A38 t37.length c39), some (.int .i64 t41), none, some (.bool false), none, none, none, none, none, none, none, none, none, none, none, none, none, none, none, none, none, none, none, none, none, none, none, none, none, none, none, none, none, none, none, none, none, none, none, none, none, none, none, none, none, none, none, none, none, none, none, none, none, none, none, none, none, none, none, none, none, none, none, none, none, none, none, none, none, none, none, none, none, none, none, none, none]) (by kernel_rfl) ?_
         exact J72 false (Option.some.inj hp148) _ _ hS149
       ·skip
        have hp150 := ite_f hp123 h125
        refine sx_split 6 (todo' := [.inRegion (opsOf (cd18 [1, 1, 1, 1, 0, 1, 0, 0, 1, 0, 0, 1, 1, 0, 1, 0, 1, 1, 1, 1, 1, 1, 0])) [1], .code (cd18 [1, 1, 1, 1, 0, 1, 0, 0, 1, 0, 0, 1, 1, 0, 1, 0, 1, 1, 1, 1, 1, 1, 1]), .inBlock 2, .code (cd18 [1, 1, 1, 1, 0, 1, 0, 0, 1, 0, 0, 1, 1, 1]), .inBlock 1, .code (cd18 [1, 1, 1, 1, 0, 1, 0, 0, 1, 1]), .inLoop (cd18 [1, 1, 1, 1, 0, 1, 0, 0]), .inBlock 0, .code (cd18 [1, 1, 1, 1, 1])]) (us := [(48, .bool false)]) (d := 63) (t := (((gt a0 t41).Op) == 5)) (by kernel_rfl) (fun h151 => ?_) (fun h152 => ?_)
        ·skip
         have hp153 := ite_t hp150 h151
         refine sx_run 6 (todo' := [.inRegion (opsOf (cd18 [1, 1, 1, 1, 0, 1, 0, 0, 1, 0, 0, 1, 1, 0, 1, 0, 1, 1, 1, 1, 1, 1, 1, 0])) [2, 3, 4, 5, 6, 7, 8, 9, 10, 11, 12], .inBlock 2, .code (cd18 [1, 1, 1, 1, 0, 1, 0, 0, 1, 0, 0, 1, 1, 1]), .inBlock 1, .code (cd18 [1, 1, 1, 1, 0, 1, 0, 0, 1, 1]), .inLoop (cd18 [1, 1, 1, 1, 0, 1, 0, 0]), .inBlock 0, .code (cd18 [1, 1, 1, 1, 1])]) (us := [(62, .bool true), (64, .slice A38 t37.length c39), (65, .pointer (some ⟨b60, 1, none⟩))]) (by kernel_rfl) ?_
         refine r_load (c := (cd18 [1, 1, 1, 1, 0, 1, 0, 0, 1, 0, 0, 1, 1, 0, 1, 0, 1, 1, 1, 1, 1, 1, 1, 0])) (i := 2) (d := (some 66)) (ty := 3) (t := 3) (x := (.tmp 65)) (p := ⟨b60, 1, none⟩) (v := .int .i64 ((gt a0 t41).A)) (by kernel_rfl) (by kernel_rfl) (by kernel_rfl) (loads_at 1 (hS65.blk 0 rfl) (by kernel_rfl) (by kernel_rfl)) ?_
         obtain ⟨g154, hp155⟩ := ite_some hp153
         obtain ⟨b156, p157, hA158, -⟩ := (hS65.row 1 rfl).at_ len_encB (by omega) g154.1 g154.2
         refine r_indexAddr (c := (cd18 [1, 1, 1, 1, 0, 1, 0, 0, 1, 0, 0, 1, 1, 0, 1, 0, 1, 1, 1, 1, 1, 1, 1, 0])) (i := 3) (d := (some 67)) (ty := 0) (t := 62) (e := 4) (n := t37.length) (cp := c39) (sz := 1) (kk := .i64) (x := (.tmp 64)) (y := (.tmp 66)) (b := b156) (o' := p157) (j := (gt a0 t41).A) (by kernel_rfl) (by kernel_rfl) (slv (by kernel_rfl) hA158) (by kernel_rfl) (by kernel_rfl) (by kernel_rfl) g154.1 g154.2 ?_
         refine r_load (c := (cd18 [1, 1, 1, 1, 0, 1, 0, 0, 1, 0, 0, 1, 1, 0, 1, 0, 1, 1, 1, 1, 1, 1, 1, 0])) (i := 4) (d := (some 68)) (ty := 4) (t := 4) (x := (.tmp 67)) (p := ⟨b156, p157 + ((gt a0 t41).A).toNat * 1, none⟩) (v := .bool (gt t37 ((gt a0 t41).A))) (by kernel_rfl) (by kernel_rfl) (by kernel_rfl) (loads_at 0 ((hS65.row 1 rfl).at2 hA158 len_encB (by omega) g154.1 g154.2) (by kernel_rfl) (by kernel_rfl)) ?_
         refine r_split (gt t37 ((gt a0 t41).A)) (fun h160 => ?_) (fun h161 => ?_)
         ·skip
          have hp162 := ite_t hp155 h160
          refine sx_run 10 (todo' := [.code (cd18 [1, 1, 1, 1, 0, 1, 0, 0, 1, 0, 0, 1, 1, 1]), .inBlock 1, .code (cd18 [1, 1, 1, 1, 0, 1, 0, 0, 1, 1]), .inLoop (cd18 [1, 1, 1, 1, 0, 1, 0, 0]), .inBlock 0, .code (cd18 [1, 1, 1, 1, 1])]) (us := [(69, .bool true), (70, undef), (71, undef), (72, undef), (73, undef), (74, undef), (75, .bool true), (12, .bool true)]) (by kernel_rfl) ?_
          have hS163 := hS65.drop
          refine Runs.fill (m := [some (.slice Aa0 a0.length ca0), some (.slice Aa1 a1.length ca1), some (.slice Aa2 a2.length ca2), none, none, none, none, none, none, some (.slice A38 t37.length c39), some (.int .i64 t41), none, some (.bool true), none, none, none, none, none, none, none, none, none, none, none, none, none, none, none, none, none, none, none, none, none, none, none, none, none, none, none, none, none, none, none, none, none, none, none, none, none, none, none, none, none, none, none, none, none, none, none, none, none, none, none, none, none, none, none, none, none, none, none, none, none, none, none, none, none, none, none, none, none, none, none, none, none]) (by kernel_rfl) ?_
          exact J72 true (Option.some.inj hp162) _ _ hS163
         ·skip
          have hp164 := ite_f hp155 h161
          refine sx_run 3 (todo' := [.inRegion (opsOf (cd18 [1, 1, 1, 1, 0, 1, 0, 0, 1, 0, 0, 1, 1, 0, 1, 0, 1, 1, 1, 1, 1, 1, 1, 0])) [8, 9, 10, 11, 12], .inBlock 2, .code (cd18 [1, 1, 1, 1, 0, 1, 0, 0, 1, 0, 0, 1, 1, 1]), .inBlock 1, .code (cd18 [1, 1, 1, 1, 0, 1, 0, 0, 1, 1]), .inLoop (cd18 [1, 1, 1, 1, 0, 1, 0, 0]), .inBlock 0, .code (cd18 [1, 1, 1, 1, 1])]) (us := [(69, .bool false), (70, .slice A38 t37.length c39), (71, .pointer (some ⟨b60, 2, none⟩))]) (by kernel_rfl) ?_
          refine r_load (c := (cd18 [1, 1, 1, 1, 0, 1, 0, 0, 1, 0, 0, 1, 1, 0, 1, 0, 1, 1, 1, 1, 1, 1, 1, 0])) (i := 8) (d := (some 72)) (ty := 3) (t := 3) (x := (.tmp 71)) (p := ⟨b60, 2, none⟩) (v := .int .i64 ((gt a0 t41).B)) (by kernel_rfl) (by kernel_rfl) (by kernel_rfl) (loads_at 2 (hS65.blk 0 rfl) (by kernel_rfl) (by kernel_rfl)) ?_
          obtain ⟨g165, hp166⟩ := ite_some hp164
          obtain ⟨b167, p168, hA169, -⟩ := (hS65.row 1 rfl).at_ len_encB (by omega) g165.1 g165.2
          refine r_indexAddr (c := (cd18 [1, 1, 1, 1, 0, 1, 0, 0, 1, 0, 0, 1, 1, 0, 1, 0, 1, 1, 1, 1, 1, 1, 1, 0])) (i := 9) (d := (some 73)) (ty := 0) (t := 62) (e := 4) (n := t37.length) (cp := c39) (sz := 1) (kk := .i64) (x := (.tmp 70)) (y := (.tmp 72)) (b := b167) (o' := p168) (j := (gt a0 t41).B) (by kernel_rfl) (by kernel_rfl) (slv (by kernel_rfl) hA169) (by kernel_rfl) (by kernel_rfl) (by kernel_rfl) g165.1 g165.2 ?_
          refine r_load (c := (cd18 [1, 1, 1, 1, 0, 1, 0, 0, 1, 0, 0, 1, 1, 0, 1, 0, 1, 1, 1, 1, 1, 1, 1, 0])) (i := 10) (d := (some 74)) (ty := 4) (t := 4) (x := (.tmp 73)) (p := ⟨b167, p168 + ((gt a0 t41).B).toNat * 1, none⟩) (v := .bool (gt t37 ((gt a0 t41).B))) (by kernel_rfl) (by kernel_rfl) (by kernel_rfl) (loads_at 0 ((hS65.row 1 rfl).at2 hA169 len_encB (by omega) g165.1 g165.2) (by kernel_rfl) (by kernel_rfl)) ?_
          refine r_split (gt t37 ((gt a0 t41).B)) (fun h171 => ?_) (fun h172 => ?_)
          ·skip
           have hp173 := ite_t hp166 h171
           refine sx_run 4 (todo' := [.code (cd18 [1, 1, 1, 1, 0, 1, 0, 0, 1, 0, 0, 1, 1, 1]), .inBlock 1, .code (cd18 [1, 1, 1, 1, 0, 1, 0, 0, 1, 1]), .inLoop (cd18 [1, 1, 1, 1, 0, 1, 0, 0]), .inBlock 0, .code (cd18 [1, 1, 1, 1, 1])]) (us := [(75, .bool true), (12, .bool true)]) (by kernel_rfl) ?_
           have hS174 := hS65.drop
           refine Runs.fill (m := [some (.slice Aa0 a0.length ca0), some (.slice Aa1 a1.length ca1), some (.slice Aa2 a2.length ca2), none, none, none, none, none, none, some (.slice A38 t37.length c39), some (.int .i64 t41), none, some (.bool true), none, none, none, none, none, none, none, none, none, none, none, none, none, none, none, none, none, none, none, none, none, none, none, none, none, none, none, none, none, none, none, none, none, none, none, none, none, none, none, none, none, none, none, none, none, none, none, none, none, none, none, none, none, none, none, none, none, none, none, none, none, none, none, none, none, none, none, none, none, none, none, none, none]) (by kernel_rfl) ?_
           exact J72 true (Option.some.inj hp173) _ _ hS174
          ·skip
           have hp175 := ite_f hp166 h172
           refine sx_run 4 (todo' := [.code (cd18 [1, 1, 1, 1, 0, 1, 0, 0, 1, 0, 0, 1, 1, 1]), .inBlock 1, .code (cd18 [1, 1, 1, 1, 0, 1, 0, 0, 1, 1]), .inLoop (cd18 [1, 1, 1, 1, 0, 1, 0, 0]), .inBlock 0, .code (cd18 [1, 1, 1, 1, 1])]) (us := [(75, .bool false), (12, .bool false)]) (by kernel_rfl) ?_
           have hS176 := hS65.drop
           refine Runs.fill (m := [some (.slice Aa0 a0.length ca0), some (.slice Aa1 a1.length ca1), some (.slice Aa2 a2.length ca2), none, none, none, none, none, none, some (.slice A38 t37.length c39), some (.int .i64 t41), none, some (.bool false), none, none, none, none, none, none, none, none, none, none, none, none, none, none, none, none, none, none, none, none, none, none, none, none, none, none, none, none, none, none, none, none, none, none, none, none, none, none, none, none, none, none, none, none, none, none, none, none, none, none, none, none, none, none, none, none, none, none, none, none, none, none, none, none, none, none, none, none, none, none, none, none, none]) (by kernel_rfl) ?_
           exact J72 false (Option.some.inj hp175) _ _ hS176
        ·skip
         have hp177 := ite_f hp150 h152
         refine sx_run 5 (todo' := [.code (cd18 [1, 1, 1, 1, 0, 1, 0, 0, 1, 0, 0, 1, 1, 1]), .inBlock 1, .code (cd18 [1, 1, 1, 1, 0, 1, 0, 0, 1, 1]), .inLoop (cd18 [1, 1, 1, 1, 0, 1, 0, 0]), .inBlock 0, .code (cd18 [1, 1, 1, 1, 1])]) (us := [(62, .bool false)]) (by kernel_rfl) ?_
         have hS178 := hS65.drop
         refine Runs.fill (m := [some (.slice Aa0 a0.length ca0), some (.slice Aa1 a1.length ca1), some (.slice Aa2 a2.length ca2), none, none, none, none, none, none, some (.slice A38 t37.length c39), some (.int .i64 t41), none, some (.bool true), none, none, none, none, none, none, none, none, none, none, none, none, none, none, none, none, none, none, none, none, none, none, none, none, none, none, none, none, none, none, none, none, none, none, none, none, none, none, none, none, none, none, none, none, none, none, none, none, none, none, none, none, none, none, none, none, none, none, none, none, none, none, none, none, none, none, none, none, none, none, none, none, none]) (by kernel_rfl) ?_
         exact J72 true (Option.some.inj hp177) _ _ hS178
    ·skip
     have hp179 := ite_f hb47 h52
     refine sx_run 3 (todo' := [.code (cd18 [1, 1, 1, 1, 1])]) (us := []) (by kernel_rfl) ?_
     refine Runs.fill (m := [none, none, none, none, none, none, none, none, none, some (.slice A38 t37.length c39), none, none, none, none, none, none, none, none, none, none, none, none, none, none, none, none, none, none, none, none, none, none, none, none, none, none, none, none, none, none, none, none, none, none, none, none, none, none, none, none, none, none, none, none, none, none, none, none, none, none, none, none, none, none, none, none, none, none, none, none, none, none, none, none, none, none, none, none, none, none, none, none, none, none, none, none]) (by kernel_rfl) ?_
     exact J20 t37 ((Option.some.inj hp179).trans he46) _ A38 c39 _ hS43
   have hS181 := hS5.nilrow none 4 1
   refine Runs.fill (m := [some (.slice Aa0 a0.length ca0), some (.slice Aa1 a1.length ca1), some (.slice Aa2 a2.length ca2), none, none, none, none, none, none, some (.slice none 0 0), some (.int .i64 0), none, none, none, none, none, none, none, none, none, none, none, none, none, none, none, none, none, none, none, none, none, none, none, none, none, none, none, none, none, none, none, none, none, none, none, none, none, none, none, none, none, none, none, none, none, none, none, none, none, none, none, none, none, none, none, none, none, none, none, none, none, none, none, none, none, none, none, none, none, none, none, none, none, none, none]) (by kernel_rfl) ?_
   exact L50 [] 0 _ hv12 rfl _ none 0 _ hS181

noncomputable def cd8 (p : List Nat) : Code := sub (bodyOf Try.f8) p
def weirlaw06_sameCond.l0 (a0 : List api_Node) (a1 : List api_Node) (t16 : Int) : Option (Sum Unit Bool) :=
  (if (decide (t16 < (a0.length : Int))) = true then (if 0 ≤ t16 ∧ t16 < (a0.length : Int) then (if 0 ≤ t16 ∧ t16 < (a1.length : Int) then (if (!(decide ((gt a0 t16) = (gt a1 t16)))) = true then some (.inr (false)) else (weirlaw06_sameCond.l0 a0 a1 (IntKind.i64.wrap (t16 + 1)))) else none) else none) else some (.inl ()))
 partial_fixpoint
def weirlaw06_sameCond.f (a0 : List api_Node) (a1 : List api_Node) : Option Bool :=
  (if ((a0.length : Int) != (a1.length : Int)) = true then some (false) else (weirlaw06_sameCond.l0 a0 a1 0 >>= (fun | .inl () => some (true) | .inr e => some e)))
set_option maxHeartbeats 16000000 in
theorem weirlaw06_sameCond.ok (a0 : List api_Node) (a1 : List api_Node) (Aa0 : Option Addr) (ca0 : Nat) (Aa1 : Option Addr) (ca1 : Nat) {w0 : World} {Z : Zm} {fs : List XObj} {w : World} (hS0 : St w0 Z (fs) w) (ha0 : SlZ (flat enc_api_Node) 6 Z Aa0 ca0 a0) (ha1 : SlZ (flat enc_api_Node) 6 Z Aa1 ca1 a1) {q0 : Bool} (hp0 : weirlaw06_sameCond.f a0 a1 = some q0) :
    Calls Try.prog 8 #[.slice Aa0 a0.length ca0, .slice Aa1 a1.length ca1] w (fun e w' => e = .returned (.bool q0) ∧ St w0 Z (fs) w') := by
  refine calls_abs ?_; intro R hR
  unfold weirlaw06_sameCond.f at hp0
  refine calls_of_runs (fn := Try.f8) (c := cd8 []) Try.func8 (by kernel_rfl) (al := [.slice Aa0 a0.length ca0, .slice Aa1 a1.length ca1]) rfl (n := 24) rfl ?_
  refine sx_split 12 (todo' := [.inRegion (opsOf (cd8 [1, 0, 0])) [], .code (cd8 [1, 0, 1]), .code (cd8 [1, 1])]) (us := [(4, .bool false), (6, .slice Aa0 a0.length ca0), (7, .int .i64 (a0.length : Int)), (8, .slice Aa1 a1.length ca1), (9, .int .i64 (a1.length : Int))]) (d := 10) (t := ((a0.length : Int) != (a1.length : Int))) (by kernel_rfl) (fun h1 => ?_) (fun h2 => ?_)
  ·skip
   have hp3 := ite_t hp0 h1
   refine sx_run 6 (todo' := [.code (cd8 [1, 0, 1, 0, 1]), .code (cd8 [1, 1])]) (us := [(4, .bool false)]) (by kernel_rfl) ?_
   refine runs_ret (fn := Try.f8) (v := .bool false) Try.func8 (by kernel_rfl) ?_
   have hr4 := (Option.some.inj hp3)
   cases hr4
   exact hR _ _ ⟨rfl, hS0⟩
  ·skip
   have hp5 := ite_f hp0 h2
   refine sx_run 10 (todo' := [.code (cd8 [1, 1, 0, 1, 0, 0]), .inLoop (cd8 [1, 1, 0, 1, 0, 0]), .inBlock 0, .code (cd8 [1, 1, 1])]) (us := [(5, .int .i64 0)]) (by kernel_rfl) ?_
   obtain ⟨v6, hv7, hp8⟩ := bind_some' hp5
   have hq11 : ∀ x, Sum.inr x = v6 → x = q0 := by intro x hx; subst hx; simpa using hp8
   have J12 : ∀ (he14 : Sum.inl () = v6) (l13 : List Value) (w9 : World) (hS10 : St w0 Z (fs) w9), Runs Try.prog 8 [.code (cd8 [1, 1, 1])] (fill [none, none, none, none, none, none, none, none, none, none, none, none, none, none, none, none, none, none, none, none, none, none, none, none, none, none] l13) w9 R := by
    intro he14 l13 w9 hS10
    subst he14
    try dsimp only at hp8
    refine sx_run 4 (todo' := [.code (cd8 [1, 1, 1, 1])]) (us := [(4, .bool true)]) (by kernel_rfl) ?_
    refine runs_ret (fn := Try.f8) (v := .bool true) Try.func8 (by kernel_rfl) ?_
    have hr15 := (Option.some.inj hp8)
    cases hr15
    exact hR _ _ ⟨rfl, hS10⟩
   have L25 : ∀ (t16 : Int) (e20 : Sum Unit Bool), weirlaw06_sameCond.l0 a0 a1 t16 = some e20 → e20 = v6 → ∀ (l19 : List Value) (w17 : World) (hS18 : St w0 Z (fs) w17), Runs Try.prog 8 [.code (cd8 [1, 1, 0, 1, 0, 0]), .inLoop (cd8 [1, 1, 0, 1, 0, 0]), .inBlock 0, .code (cd8 [1, 1, 1])] (fill [some (.slice Aa0 a0.length ca0), some (.slice Aa1 a1.length ca1), none, none, none, some (.int .i64 t16), none, none, none, none, none, none, none, none, none, none, none, none, none, none, none, none, none, none, none, none] l19) w17 R := by
    refine weirlaw06_sameCond.l0.partial_correctness a0 a1 (fun t16 e20 => e20 = v6 → ∀ (l19 : List Value) (w17 : World) (hS18 : St w0 Z (fs) w17), Runs Try.prog 8 [.code (cd8 [1, 1, 0, 1, 0, 0]), .inLoop (cd8 [1, 1, 0, 1, 0, 0]), .inBlock 0, .code (cd8 [1, 1, 1])] (fill [some (.slice Aa0 a0.length ca0), some (.slice Aa1 a1.length ca1), none, none, none, some (.int .i64 t16), none, none, none, none, none, none, none, none, none, none, none, none, none, none, none, none, none, none, none, none] l19) w17 R) ?_
    intro rec24 ih23 t16 e20 hb22 he21 l19 w17 hS18
    have hq26 : ∀ x, Sum.inr x = e20 → x = q0 := fun x hx => hq11 x (hx.trans he21)
    refine sx_split 7 (todo' := [.inRegion (opsOf (cd8 [1, 1, 0, 1, 0, 0, 0, 0])) [], .code (cd8 [1, 1, 0, 1, 0, 0, 0, 1]), .code (cd8 [1, 1, 0, 1, 0, 0, 1]), .inLoop (cd8 [1, 1, 0, 1, 0, 0]), .inBlock 0, .code (cd8 [1, 1, 1])]) (us := [(11, .int .i64 t16), (12, .slice Aa0 a0.length ca0), (13, .int .i64 (a0.length : Int))]) (d := 14) (t := (decide (t16 < (a0.length : Int)))) (by kernel_rfl) (fun h27 => ?_) (fun h28 => ?_)
    ·skip
     have hp29 := ite_t hb22 h27
     refine sx_run 6 (todo' := [.code (cd8 [1, 1, 0, 1, 0, 0, 1, 0, 0, 0]), .code (cd8 [1, 1, 0, 1, 0, 0, 1, 0, 0, 1]), .inBlock 1, .code (cd8 [1, 1, 0, 1, 0, 0, 1, 1]), .inLoop (cd8 [1, 1, 0, 1, 0, 0]), .inBlock 0, .code (cd8 [1, 1, 1])]) (us := []) (by kernel_rfl) ?_
     refine r_quiet hS18 (c := (cd8 [1, 1, 0, 1, 0, 0, 1, 0, 0, 0])) (id := 6) (by kernel_rfl) (by kernel_rfl) (by kernel_rfl) (is := [0, 1, 2, 3, 4, 5, 6, 7, 8]) (by kernel_rfl) ?_
     refine q_run 2 (is' := [2, 3, 4, 5, 6, 7, 8]) (us := [(17, .slice Aa0 a0.length ca0), (18, .int .i64 t16)]) (by kernel_rfl) ?_
     obtain ⟨g30, hp31⟩ := ite_some hp29
     obtain ⟨b32, p33, hA34, hc35⟩ := ha0.atF g30.1 g30.2
     refine q_indexAddr (c := (cd8 [1, 1, 0, 1, 0, 0, 1, 0, 0, 0])) (i := 2) (d := (some 19)) (ty := 0) (t := 23) (e := 52) (n := a0.length) (cp := ca0) (sz := 6) (kk := .i64) (x := (.tmp 17)) (y := (.tmp 18)) (b := b32) (o' := p33) (j := t16) (by kernel_rfl) (by kernel_rfl) (slv (by kernel_rfl) hA34) (by kernel_rfl) (by kernel_rfl) (by kernel_rfl) g30.1 g30.2 ?_
     refine q_load (c := (cd8 [1, 1, 0, 1, 0, 0, 1, 0, 0, 0])) (i := 3) (d := (some 20)) (ty := 52) (t := 52) (x := (.tmp 19)) (p := ⟨b32, p33 + t16.toNat * 6, none⟩) (v := .agg (enc_api_Node (gt a0 t16)).toArray) (by kernel_rfl) (by kernel_rfl) (by kernel_rfl) (fun w hC => (loads_agg (hc35.cells hC) (by kernel_rfl) (by kernel_rfl))) ?_
     refine q_run 2 (is' := [6, 7, 8]) (us := [(21, .slice Aa1 a1.length ca1), (22, .int .i64 t16)]) (by kernel_rfl) ?_
     obtain ⟨g36, hp37⟩ := ite_some hp31
     obtain ⟨b38, p39, hA40, hc41⟩ := ha1.atF g36.1 g36.2
     refine q_indexAddr (c := (cd8 [1, 1, 0, 1, 0, 0, 1, 0, 0, 0])) (i := 6) (d := (some 23)) (ty := 0) (t := 23) (e := 52) (n := a1.length) (cp := ca1) (sz := 6) (kk := .i64) (x := (.tmp 21)) (y := (.tmp 22)) (b := b38) (o' := p39) (j := t16) (by kernel_rfl) (by kernel_rfl) (slv (by kernel_rfl) hA40) (by kernel_rfl) (by kernel_rfl) (by kernel_rfl) g36.1 g36.2 ?_
     refine q_load (c := (cd8 [1, 1, 0, 1, 0, 0, 1, 0, 0, 0])) (i := 7) (d := (some 24)) (ty := 52) (t := 52) (x := (.tmp 23)) (p := ⟨b38, p39 + t16.toNat * 6, none⟩) (v := .agg (enc_api_Node (gt a1 t16)).toArray) (by kernel_rfl) (by kernel_rfl) (by kernel_rfl) (fun w hC => (loads_agg (hc41.cells hC) (by kernel_rfl) (by kernel_rfl))) ?_
     refine q_val (c := (cd8 [1, 1, 0, 1, 0, 0, 1, 0, 0, 0])) (i := 8) (d := (some 25)) (ty := 4) (op := .binOp .neq 52 (.tmp 20) (.tmp 24) 52) (v := .bool (!(decide ((gt a0 t16) = (gt a1 t16))))) (by kernel_rfl) (by kernel_rfl) (fun w hC o ho _ => x_neq_api_Node (by kernel_rfl) (by kernel_rfl) ho) ?_
     refine q_split (!(decide ((gt a0 t16) = (gt a1 t16)))) (fun h42 => ?_) (fun h43 => ?_)
     ·skip
      have hp44 := ite_t hp37 h42
      refine Qs.nil ?_
      intro w45 hS46
      refine sx_run 5 (todo' := [.code (cd8 [1, 1, 0, 1, 0, 0, 1, 0, 0, 1, 0, 1]), .inBlock 1, .code (cd8 [1, 1, 0, 1, 0, 0, 1, 1]), .inLoop (cd8 [1, 1, 0, 1, 0, 0]), .inBlock 0, .code (cd8 [1, 1, 1])]) (us := [(4, .bool false)]) (by kernel_rfl) ?_
      refine runs_ret (fn := Try.f8) (v := .bool false) Try.func8 (by kernel_rfl) ?_
      have hr47 := (hq26 _ (Option.some.inj hp44))
      cases hr47
      exact hR _ _ ⟨rfl, hS46⟩
     ·skip
      have hp48 := ite_f hp37 h43
      refine Qs.nil ?_
      intro w49 hS50
      refine sx_run 8 (todo' := [.inLoop (cd8 [1, 1, 0, 1, 0, 0]), .inBlock 0, .code (cd8 [1, 1, 1])]) (us := [(15, .int .i64 t16), (16, .int .i64 (IntKind.i64.wrap (t16 + 1))), (5, .int .i64 (IntKind.i64.wrap (t16 + 1)))]) (by kernel_rfl) ?_
      refine sx_run 1 (todo' := [.code (cd8 [1, 1, 0, 1, 0, 0]), .inLoop (cd8 [1, 1, 0, 1, 0, 0]), .inBlock 0, .code (cd8 [1, 1, 1])]) (us := []) (by kernel_rfl) ?_
      refine Runs.fill (m := [some (.slice Aa0 a0.length ca0), some (.slice Aa1 a1.length ca1), none, none, none, some (.int .i64 (IntKind.i64.wrap (t16 + 1))), none, none, none, none, none, none, none, none, none, none, none, none, none, none, none, none, none, none, none, none]) (by kernel_rfl) ?_
      exact ih23 (IntKind.i64.wrap (t16 + 1)) _ hp48 he21 _ _ hS50
    ·skip
     have hp51 := ite_f hb22 h28
     refine sx_run 3 (todo' := [.code (cd8 [1, 1, 1])]) (us := []) (by kernel_rfl) ?_
     refine Runs.fill (m := [none, none, none, none, none, none, none, none, none, none, none, none, none, none, none, none, none, none, none, none, none, none, none, none, none, none]) (by kernel_rfl) ?_
     exact J12 ((Option.some.inj hp51).trans he21) _ _ hS18
   refine Runs.fill (m := [some (.slice Aa0 a0.length ca0), some (.slice Aa1 a1.length ca1), none, none, none, some (.int .i64 0), none, none, none, none, none, none, none, none, none, none, none, none, none, none, none, none, none, none, none, none]) (by kernel_rfl) ?_
   exact L25 0 _ hv7 rfl _ _ hS0

noncomputable def cd10 (p : List Nat) : Code := sub (bodyOf Try.f10) p
def weirlaw06_back.f (a0 : List api_Node) (a0n : Nat) (a1 : List api_Node) : Option Bool :=
  (if 0 ≤ (IntKind.i64.wrap ((a1.length : Int) + 1)) ∧ (IntKind.i64.wrap ((a1.length : Int) + 1)) ≤ (a0.length : Int) then (if a0n ≤ a0.length then (weirlaw06_sameCond.f (a0.take a0n) a1 >>= (fun t7 => (if t7 = true then (if 0 ≤ (a1.length : Int) ∧ (a1.length : Int) < (((IntKind.i64.wrap ((a1.length : Int) + 1)).toNat : Nat) : Int) ∧ (a1.length : Int) < (a0.length : Int) then (if (((gt a0 (a1.length : Int)).Op) == 77) = true then some (true) else some (false)) else none) else some (false)))) else none) else none)
set_option maxHeartbeats 16000000 in
theorem weirlaw06_back.ok (a0 : List api_Node) (a0n : Nat) (a1 : List api_Node) (Aa0 : Option Addr) (ca0 : Nat) (Aa1 : Option Addr) (ca1 : Nat) {w0 : World} {Z : Zm} {fs : List XObj} {w : World} (hS0 : St w0 Z (xrow Aa0 ca0 52 6 (a0.flatMap enc_api_Node) :: fs) w) (ha1 : SlZ (flat enc_api_Node) 6 Z Aa1 ca1 a1) {q0 : Bool} (hp0 : weirlaw06_back.f a0 a0n a1 = some q0) :
    Calls Try.prog 10 #[.slice Aa0 a0n ca0, .slice Aa1 a1.length ca1] w (fun e w' => e = .returned (.bool q0) ∧ St w0 Z (xrow Aa0 ca0 52 6 (a0.flatMap enc_api_Node) :: fs) w') := by
  refine calls_abs ?_; intro R hR
  unfold weirlaw06_back.f at hp0
  refine calls_of_runs (fn := Try.f10) (c := cd10 []) Try.func10 (by kernel_rfl) (al := [.slice Aa0 a0n ca0, .slice Aa1 a1.length ca1]) rfl (n := 21) rfl ?_
  refine sx_run 10 (todo' := [.inRegion (opsOf (cd10 [1, 0])) [4, 5], .code (cd10 [1, 1])]) (us := [(4, .bool false), (6, .slice Aa0 a0n ca0), (7, .slice Aa1 a1.length ca1), (8, .int .i64 (a1.length : Int)), (9, .int .i64 (IntKind.i64.wrap ((a1.length : Int) + 1)))]) (by kernel_rfl) ?_
  obtain ⟨g1, hp2⟩ := ite_some hp0
  have hc3 := (hS0.row 0 rfl).cap len_api_Node (by omega)
  have g4 : 0 ≤ (IntKind.i64.wrap ((a1.length : Int) + 1)) ∧ (IntKind.i64.wrap ((a1.length : Int) + 1)) ≤ (ca0 : Int) := by omega
  refine r_val (c := (cd10 [1, 0])) (i := 4) (d := (some 10)) (ty := 23) (op := .slice 23 (.tmp 6) none (some (.tmp 9)) none) (v := .slice Aa0 ((IntKind.i64.wrap ((a1.length : Int) + 1)).toNat) ca0) (by kernel_rfl) (by kernel_rfl) (fun o ho _ => x_cutSl_nsC (e := 52) (sz := 6) (A := Aa0) (n := a0n) (c := ca0) (k := .i64) (by kernel_rfl) (by kernel_rfl) (by kernel_rfl) (by kernel_rfl) g4 cut0 ho) ?_
  refine sx_run 6 (todo' := [.inRegion (opsOf (cd10 [1, 1, 0])) [2, 3, 4, 5, 6, 7, 8, 9, 10, 11, 12], .code (cd10 [1, 1, 1])]) (us := [(5, .slice Aa0 ((IntKind.i64.wrap ((a1.length : Int) + 1)).toNat) ca0), (11, .slice Aa0 a0n ca0), (12, .slice Aa1 a1.length ca1)]) (by kernel_rfl) ?_
  obtain ⟨g5, hp6⟩ := ite_some hp2
  obtain ⟨t7, hr8, hp9⟩ := bind_some' hp6
  obtain ⟨Z10, hz11, hS12, hs13, hb14⟩ := hS0.lendrow len_api_Node (by omega)
  refine r_call1 (c := (cd10 [1, 1, 0])) (i := 2) (d := (some 13)) (g := 8) (args := #[.slice Aa0 a0n ca0, .slice Aa1 a1.length ca1]) (by kernel_rfl) (by kernel_rfl) (by kernel_rfl) (by kernel_rfl) (args_eq (by rw [lenTake g5]) (weirlaw06_sameCond.ok (a0.take a0n) a1 Aa0 ca0 Aa1 ca1 hS12 (hs13.take0 a0n) (ha1.up hz11) hr8)) ?_
  rintro _ w15 ⟨rfl, hS16⟩
  refine ⟨.bool t7, rfl, ?_⟩
  have hS17 := hb14 _ _ hS16
  refine sx_run 1 (todo' := [.inRegion (opsOf (cd10 [1, 1, 0])) [4, 5, 6, 7, 8, 9, 10, 11, 12], .code (cd10 [1, 1, 1])]) (us := [(14, .bool t7)]) (by kernel_rfl) ?_
  cases t7
  ·skip
   have hp18 := ite_f hp9 rfl
   refine sx_run 10 (todo' := [.code (cd10 [1, 1, 1])]) (us := [(15, undef), (16, undef), (17, undef), (18, undef), (19, undef), (20, undef), (21, undef), (22, .bool false), (4, .bool false)]) (by kernel_rfl) ?_
   refine runs_ret (fn := Try.f10) (v := .bool false) Try.func10 (by kernel_rfl) ?_
   have hr19 := (Option.some.inj hp18)
   cases hr19
   exact hR _ _ ⟨rfl, hS17⟩
  ·skip
   have hp20 := ite_t hp9 rfl
   refine sx_run 3 (todo' := [.inRegion (opsOf (cd10 [1, 1, 0])) [7, 8, 9, 10, 11, 12], .code (cd10 [1, 1, 1])]) (us := [(15, .slice Aa0 ((IntKind.i64.wrap ((a1.length : Int) + 1)).toNat) ca0), (16, .slice Aa1 a1.length ca1), (17, .int .i64 (a1.length : Int))]) (by kernel_rfl) ?_
   obtain ⟨g21, hp22⟩ := ite_some hp20
   obtain ⟨b23, p24, hA25, -⟩ := (hS17.row 0 rfl).at_ len_api_Node (by omega) (i := (a1.length : Int)) (by omega) g21.2.2
   have g26 : 0 ≤ (a1.length : Int) ∧ (a1.length : Int) < (a0.length : Int) := ⟨g21.1, g21.2.2⟩
   refine r_indexAddr (c := (cd10 [1, 1, 0])) (i := 7) (d := (some 18)) (ty := 0) (t := 23) (e := 52) (n := (IntKind.i64.wrap ((a1.length : Int) + 1)).toNat) (cp := ca0) (sz := 6) (kk := .i64) (x := (.tmp 15)) (y := (.tmp 17)) (b := b23) (o' := p24) (j := (a1.length : Int)) (by kernel_rfl) (by kernel_rfl) (slv (by kernel_rfl) hA25) (by kernel_rfl) (by kernel_rfl) (by kernel_rfl) g21.1 g21.2.1 ?_
   refine sx_run 1 (todo' := [.inRegion (opsOf (cd10 [1, 1, 0])) [9, 10, 11, 12], .code (cd10 [1, 1, 1])]) (us := [(19, .pointer (some ⟨b23, p24 + (a1.length : Int).toNat * 6, none⟩))]) (by kernel_rfl) ?_
   refine r_load (c := (cd10 [1, 1, 0])) (i := 9) (d := (some 20)) (ty := 3) (t := 3) (x := (.tmp 19)) (p := ⟨b23, p24 + (a1.length : Int).toNat * 6, none⟩) (v := .int .i64 ((gt a0 (a1.length : Int)).Op)) (by kernel_rfl) (by kernel_rfl) (by kernel_rfl) (loads_at 0 ((hS17.row 0 rfl).at2 hA25 len_api_Node (by omega) g26.1 g26.2) (by kernel_rfl) (by kernel_rfl)) ?_
   refine sx_split 1 (todo' := [.inRegion (opsOf (cd10 [1, 1, 0])) [11, 12], .code (cd10 [1, 1, 1])]) (us := []) (d := 21) (t := (((gt a0 (a1.length : Int)).Op) == 77)) (by kernel_rfl) (fun h27 => ?_) (fun h28 => ?_)
   ·skip
    have hp29 := ite_t hp22 h27
    refine sx_run 3 (todo' := [.code (cd10 [1, 1, 1])]) (us := [(22, .bool true), (4, .bool true)]) (by kernel_rfl) ?_
    refine runs_ret (fn := Try.f10) (v := .bool true) Try.func10 (by kernel_rfl) ?_
    have hr30 := (Option.some.inj hp29)
    cases hr30
    exact hR _ _ ⟨rfl, hS17⟩
   ·skip
    have hp31 := ite_f hp22 h28
    refine sx_run 3 (todo' := [.code (cd10 [1, 1, 1])]) (us := [(22, .bool false), (4, .bool false)]) (by kernel_rfl) ?_
    refine runs_ret (fn := Try.f10) (v := .bool false) Try.func10 (by kernel_rfl) ?_
    have hr32 := (Option.some.inj hp31)
    cases hr32
    exact hR _ _ ⟨rfl, hS17⟩

end
end Go.Proofs.Ythkpeoiphkndiaa.K
