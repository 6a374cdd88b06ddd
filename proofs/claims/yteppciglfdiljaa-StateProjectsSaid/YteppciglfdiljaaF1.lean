/- The walk, part 1: each Go function as a plain Lean function, and that its call answers as that function says. No condition. -/
import Derived.Test.YteppciglfdiljaaE
import Derived.Test.YteppciglfdiljaaNS
import Derived.Test.YteppciglfdiljaaLS
set_option linter.unusedVariables false
set_option linter.unusedSimpArgs false
set_option maxRecDepth 100000
namespace Go.Proofs.Yteppciglfdiljaa.K
open Go Go.RowKit
noncomputable section
noncomputable def cd12 (p : List Nat) : Code := sub (bodyOf Try.f12) p
def weirlaw10_few.f (a0 : List api_Final) (a1 : List api_Final) : Option Bool :=
  (if (decide ((IntKind.i64.wrap ((a0.length : Int) + (a1.length : Int))) ≤ 4000)) = true then some (true) else some (false))
set_option maxHeartbeats 16000000 in
theorem weirlaw10_few.ok (a0 : List api_Final) (a1 : List api_Final) (Aa0 : Option Addr) (ca0 : Nat) (Aa1 : Option Addr) (ca1 : Nat) {w0 : World} {Z : Zm} {fs : List XObj} {w : World} (hS0 : St w0 Z (fs) w) (ha0 : SlZ (flat enc_api_Final) 49 Z Aa0 ca0 a0) (ha1 : SlZ (flat enc_api_Final) 49 Z Aa1 ca1 a1) {q0 : Bool} (hp0 : weirlaw10_few.f a0 a1 = some q0) :
    Calls Try.prog 12 #[.slice Aa0 a0.length ca0, .slice Aa1 a1.length ca1] w (fun e w' => e = .returned (.bool q0) ∧ St w0 Z (fs) w') := by
  refine calls_abs ?_; intro R hR
  unfold weirlaw10_few.f at hp0
  refine calls_of_runs (fn := Try.f12) (c := cd12 []) Try.func12 (by kernel_rfl) (al := [.slice Aa0 a0.length ca0, .slice Aa1 a1.length ca1]) rfl (n := 9) rfl ?_
  refine sx_split 12 (todo' := [.inRegion (opsOf (cd12 [1, 0])) [6], .code (cd12 [1, 1])]) (us := [(4, .bool false), (5, .slice Aa0 a0.length ca0), (6, .int .i64 (a0.length : Int)), (7, .slice Aa1 a1.length ca1), (8, .int .i64 (a1.length : Int)), (9, .int .i64 (IntKind.i64.wrap ((a0.length : Int) + (a1.length : Int))))]) (d := 10) (t := (decide ((IntKind.i64.wrap ((a0.length : Int) + (a1.length : Int))) ≤ 4000))) (by kernel_rfl) (fun h1 => ?_) (fun h2 => ?_)
  · skip
    have hp3 := ite_t hp0 h1
    refine sx_run 2 (todo' := [.code (cd12 [1, 1])]) (us := [(4, .bool true)]) (by kernel_rfl) ?_
    refine runs_ret (fn := Try.f12) (v := .bool true) Try.func12 (by kernel_rfl) ?_
    have hr4 := (Option.some.inj hp3)
    cases hr4
    exact hR _ _ ⟨rfl, hS0⟩
  · skip
    have hp5 := ite_f hp0 h2
    refine sx_run 2 (todo' := [.code (cd12 [1, 1])]) (us := [(4, .bool false)]) (by kernel_rfl) ?_
    refine runs_ret (fn := Try.f12) (v := .bool false) Try.func12 (by kernel_rfl) ?_
    have hr6 := (Option.some.inj hp5)
    cases hr6
    exact hR _ _ ⟨rfl, hS0⟩

noncomputable def cd16 (p : List Nat) : Code := sub (bodyOf Try.f16) p
def weirlaw10_Lent.f (a0 : List api_Final) : Option ((List api_Final) × Nat) :=
  (if 0 ≤ (IntKind.i64.wrap ((a0.length : Int) + 1)) ∧ (IntKind.i64.wrap ((a0.length : Int) + 1)) * 392 ≤ 140737488355328 then (if 0 ≤ (a0.length : Int) ∧ (a0.length : Int) < ((copyl (List.replicate (IntKind.i64.wrap ((a0.length : Int) + 1)).toNat (⟨0, (Vector.replicate 48 0)⟩ : api_Final)) a0).length : Int) then (if 0 ≤ (a0.length : Int) ∧ (a0.length : Int) ≤ ((setl (copyl (List.replicate (IntKind.i64.wrap ((a0.length : Int) + 1)).toNat (⟨0, (Vector.replicate 48 0)⟩ : api_Final)) a0) (a0.length : Int) (⟨(-7), (gt (copyl (List.replicate (IntKind.i64.wrap ((a0.length : Int) + 1)).toNat (⟨0, (Vector.replicate 48 0)⟩ : api_Final)) a0) (a0.length : Int)).V⟩ : api_Final)).length : Int) then some (((setl (copyl (List.replicate (IntKind.i64.wrap ((a0.length : Int) + 1)).toNat (⟨0, (Vector.replicate 48 0)⟩ : api_Final)) a0) (a0.length : Int) (⟨(-7), (gt (copyl (List.replicate (IntKind.i64.wrap ((a0.length : Int) + 1)).toNat (⟨0, (Vector.replicate 48 0)⟩ : api_Final)) a0) (a0.length : Int)).V⟩ : api_Final)), (a0.length : Int).toNat)) else none) else none) else none)
set_option maxHeartbeats 16000000 in
theorem weirlaw10_Lent.ok (a0 : List api_Final) (Aa0 : Option Addr) (ca0 : Nat) {w0 : World} {Z : Zm} {fs : List XObj} {w : World} (hS0 : St w0 Z (fs) w) (ha0 : SlZ (flat enc_api_Final) 49 Z Aa0 ca0 a0) {q0 : List api_Final} {q1 : Nat} (hp0 : weirlaw10_Lent.f a0 = some (q0, q1)) :
    Calls Try.prog 16 #[.slice Aa0 a0.length ca0] w (fun e w' => ∃ (QA0 : Option Addr) (Qc0 : Nat), e = .returned (.slice QA0 q1 Qc0) ∧ St w0 Z (xrow QA0 Qc0 24 49 (q0.flatMap enc_api_Final) :: fs) w') := by
  refine calls_abs ?_; intro R hR
  unfold weirlaw10_Lent.f at hp0
  refine calls_of_runs (fn := Try.f16) (c := cd16 []) Try.func16 (by kernel_rfl) (al := [.slice Aa0 a0.length ca0]) rfl (n := 19) rfl ?_
  refine sx_run 9 (todo' := [.inRegion (opsOf (cd16 [1, 0])) [3, 4], .code (cd16 [1, 1])]) (us := [(2, .slice none 0 0), (4, .slice Aa0 a0.length ca0), (5, .int .i64 (a0.length : Int)), (6, .int .i64 (IntKind.i64.wrap ((a0.length : Int) + 1)))]) (by kernel_rfl) ?_
  obtain ⟨g1, hp2⟩ := ite_some hp0
  refine r_make (c := (cd16 [1, 0])) (i := 3) (d := (some 7)) (ty := 36) (enc := enc_api_Final) (t := 36) (e := 24) (sz := 49) (bytes := 392) (info := infoOf Try.prog 24) (x := (.tmp 6)) (y := (.tmp 6)) (n := (IntKind.i64.wrap ((a0.length : Int) + 1))) (kk := .i64) (kc := .i64) (z := .agg (enc_api_Final (⟨0, (Vector.replicate 48 0)⟩ : api_Final)).toArray) (x0 := (⟨0, (Vector.replicate 48 0)⟩ : api_Final)) hS0 (by kernel_rfl) (by kernel_rfl) (by kernel_rfl) (by kernel_rfl) (by kernel_rfl) (by kernel_rfl) (by kernel_rfl) (by kernel_rfl) (by kernel_rfl) rfl len_api_Final (by omega) g1 (by omega) ?_
  intro A3 w4 hS5
  refine Runs.fill (m := [none, none, none, none, none, none, none, some (.slice A3 (IntKind.i64.wrap ((a0.length : Int) + 1)).toNat (IntKind.i64.wrap ((a0.length : Int) + 1)).toNat), none, none, none, none, none, none, none, none, none, none, none, none]) (by kernel_rfl) ?_
  refine Runs.refill (m' := [none, none, none, none, none, none, none, some (.slice A3 (List.replicate (IntKind.i64.wrap ((a0.length : Int) + 1)).toNat (⟨0, (Vector.replicate 48 0)⟩ : api_Final)).length ((IntKind.i64.wrap ((a0.length : Int) + 1)).toNat)), none, none, none, none, none, none, none, none, none, none, none, none]) (by simp only [List.length_replicate]) ?_
  refine sx_run 6 (todo' := [.inRegion (opsOf (cd16 [1, 1, 0])) [2], .code (cd16 [1, 1, 1])]) (us := [(3, .slice A3 (List.replicate (IntKind.i64.wrap ((a0.length : Int) + 1)).toNat (⟨0, (Vector.replicate 48 0)⟩ : api_Final)).length ((IntKind.i64.wrap ((a0.length : Int) + 1)).toNat)), (8, .slice A3 (List.replicate (IntKind.i64.wrap ((a0.length : Int) + 1)).toNat (⟨0, (Vector.replicate 48 0)⟩ : api_Final)).length ((IntKind.i64.wrap ((a0.length : Int) + 1)).toNat)), (9, .slice Aa0 a0.length ca0)]) (by kernel_rfl) ?_
  refine r_copy (c := (cd16 [1, 1, 0])) (i := 2) (d := (some 10)) (ty := 3) (enc := enc_api_Final) (e := 24) (t := 36) (t2 := 36) (sz := 49) (cp := ((IntKind.i64.wrap ((a0.length : Int) + 1)).toNat)) (A := A3) (xs := (List.replicate (IntKind.i64.wrap ((a0.length : Int) + 1)).toNat (⟨0, (Vector.replicate 48 0)⟩ : api_Final))) (ys := a0) (s := (.tmp 8)) (x := (.tmp 9)) (xv := .slice Aa0 a0.length ca0) (ycs := a0.flatMap enc_api_Final) hS5 (by kernel_rfl) (by kernel_rfl) (by kernel_rfl) (by kernel_rfl) (by kernel_rfl) (by kernel_rfl) (by omega) len_api_Final one_api_Final (src_slz hS5 ha0 (by omega) len_api_Final) rfl ?_
  intro w7 hS8
  refine Runs.fill (m := [none, none, none, some (.slice A3 (List.replicate (IntKind.i64.wrap ((a0.length : Int) + 1)).toNat (⟨0, (Vector.replicate 48 0)⟩ : api_Final)).length ((IntKind.i64.wrap ((a0.length : Int) + 1)).toNat)), none, none, none, some (.slice A3 (List.replicate (IntKind.i64.wrap ((a0.length : Int) + 1)).toNat (⟨0, (Vector.replicate 48 0)⟩ : api_Final)).length ((IntKind.i64.wrap ((a0.length : Int) + 1)).toNat)), some (.slice A3 (List.replicate (IntKind.i64.wrap ((a0.length : Int) + 1)).toNat (⟨0, (Vector.replicate 48 0)⟩ : api_Final)).length ((IntKind.i64.wrap ((a0.length : Int) + 1)).toNat)), none, none, none, none, none, none, none, none, none, none, none]) (by kernel_rfl) ?_
  refine Runs.refill (m' := [none, none, none, some (.slice A3 (copyl (List.replicate (IntKind.i64.wrap ((a0.length : Int) + 1)).toNat (⟨0, (Vector.replicate 48 0)⟩ : api_Final)) a0).length ((IntKind.i64.wrap ((a0.length : Int) + 1)).toNat)), none, none, none, some (.slice A3 (copyl (List.replicate (IntKind.i64.wrap ((a0.length : Int) + 1)).toNat (⟨0, (Vector.replicate 48 0)⟩ : api_Final)) a0).length ((IntKind.i64.wrap ((a0.length : Int) + 1)).toNat)), some (.slice A3 (copyl (List.replicate (IntKind.i64.wrap ((a0.length : Int) + 1)).toNat (⟨0, (Vector.replicate 48 0)⟩ : api_Final)) a0).length ((IntKind.i64.wrap ((a0.length : Int) + 1)).toNat)), none, none, none, none, none, none, none, none, none, none, none]) (by simp only [copyl_len]) ?_
  refine sx_run 6 (todo' := [.inRegion (opsOf (cd16 [1, 1, 1, 0])) [3, 4, 5], .code (cd16 [1, 1, 1, 1])]) (us := [(11, .slice A3 (copyl (List.replicate (IntKind.i64.wrap ((a0.length : Int) + 1)).toNat (⟨0, (Vector.replicate 48 0)⟩ : api_Final)) a0).length ((IntKind.i64.wrap ((a0.length : Int) + 1)).toNat)), (12, .slice Aa0 a0.length ca0), (13, .int .i64 (a0.length : Int))]) (by kernel_rfl) ?_
  obtain ⟨g9, hp10⟩ := ite_some hp2
  obtain ⟨b11, p12, hA13, -⟩ := (hS8.row 0 rfl).at_ len_api_Final (by omega) g9.1 g9.2
  refine r_indexAddr (c := (cd16 [1, 1, 1, 0])) (i := 3) (d := (some 14)) (ty := 0) (t := 36) (e := 24) (n := (copyl (List.replicate (IntKind.i64.wrap ((a0.length : Int) + 1)).toNat (⟨0, (Vector.replicate 48 0)⟩ : api_Final)) a0).length) (cp := (IntKind.i64.wrap ((a0.length : Int) + 1)).toNat) (sz := 49) (kk := .i64) (x := (.tmp 11)) (y := (.tmp 13)) (b := b11) (o' := p12) (j := (a0.length : Int)) (by kernel_rfl) (by kernel_rfl) (slv (by kernel_rfl) hA13) (by kernel_rfl) (by kernel_rfl) (by kernel_rfl) g9.1 g9.2 ?_
  refine sx_run 1 (todo' := [.inRegion (opsOf (cd16 [1, 1, 1, 0])) [5], .code (cd16 [1, 1, 1, 1])]) (us := [(15, .pointer (some ⟨b11, p12 + (a0.length : Int).toNat * 49, none⟩))]) (by kernel_rfl) ?_
  refine r_storeEl (c := (cd16 [1, 1, 1, 0])) (i := 5) (d := none) (ty := 0) (enc := enc_api_Final) (e := 24) (t := 3) (sz := 49) (cp := (IntKind.i64.wrap ((a0.length : Int) + 1)).toNat) (A := A3) (xs := (copyl (List.replicate (IntKind.i64.wrap ((a0.length : Int) + 1)).toNat (⟨0, (Vector.replicate 48 0)⟩ : api_Final)) a0)) (x := (.tmp 15)) (y := (.const (.int .i64 (-7)))) (el := gt (copyl (List.replicate (IntKind.i64.wrap ((a0.length : Int) + 1)).toNat (⟨0, (Vector.replicate 48 0)⟩ : api_Final)) a0) (a0.length : Int)) (el' := (⟨(-7), (gt (copyl (List.replicate (IntKind.i64.wrap ((a0.length : Int) + 1)).toNat (⟨0, (Vector.replicate 48 0)⟩ : api_Final)) a0) (a0.length : Int)).V⟩ : api_Final)) (j := (a0.length : Int)) (off := 0) (b := b11) (p := p12) (v := .int .i64 (-7)) (vs := [.int .i64 (-7)]) (ad := ⟨b11, p12 + (a0.length : Int).toNat * 49, none⟩) hS8 (by kernel_rfl) (by kernel_rfl) (by kernel_rfl) (by simp) (by kernel_rfl) hA13 g9 rfl len_api_Final (by kernel_rfl) (by kernel_rfl) (by kernel_rfl) (by decide) (by decide) (put_api_Final_N _ _) ?_
  intro w15 hS16
  refine Runs.fill (m := [none, none, none, some (.slice A3 (copyl (List.replicate (IntKind.i64.wrap ((a0.length : Int) + 1)).toNat (⟨0, (Vector.replicate 48 0)⟩ : api_Final)) a0).length ((IntKind.i64.wrap ((a0.length : Int) + 1)).toNat)), none, none, none, some (.slice A3 (copyl (List.replicate (IntKind.i64.wrap ((a0.length : Int) + 1)).toNat (⟨0, (Vector.replicate 48 0)⟩ : api_Final)) a0).length ((IntKind.i64.wrap ((a0.length : Int) + 1)).toNat)), some (.slice A3 (copyl (List.replicate (IntKind.i64.wrap ((a0.length : Int) + 1)).toNat (⟨0, (Vector.replicate 48 0)⟩ : api_Final)) a0).length ((IntKind.i64.wrap ((a0.length : Int) + 1)).toNat)), none, none, some (.slice A3 (copyl (List.replicate (IntKind.i64.wrap ((a0.length : Int) + 1)).toNat (⟨0, (Vector.replicate 48 0)⟩ : api_Final)) a0).length ((IntKind.i64.wrap ((a0.length : Int) + 1)).toNat)), none, none, none, none, none, none, none, none]) (by kernel_rfl) ?_
  refine Runs.refill (m' := [none, none, none, some (.slice A3 (setl (copyl (List.replicate (IntKind.i64.wrap ((a0.length : Int) + 1)).toNat (⟨0, (Vector.replicate 48 0)⟩ : api_Final)) a0) (a0.length : Int) (⟨(-7), (gt (copyl (List.replicate (IntKind.i64.wrap ((a0.length : Int) + 1)).toNat (⟨0, (Vector.replicate 48 0)⟩ : api_Final)) a0) (a0.length : Int)).V⟩ : api_Final)).length ((IntKind.i64.wrap ((a0.length : Int) + 1)).toNat)), none, none, none, some (.slice A3 (setl (copyl (List.replicate (IntKind.i64.wrap ((a0.length : Int) + 1)).toNat (⟨0, (Vector.replicate 48 0)⟩ : api_Final)) a0) (a0.length : Int) (⟨(-7), (gt (copyl (List.replicate (IntKind.i64.wrap ((a0.length : Int) + 1)).toNat (⟨0, (Vector.replicate 48 0)⟩ : api_Final)) a0) (a0.length : Int)).V⟩ : api_Final)).length ((IntKind.i64.wrap ((a0.length : Int) + 1)).toNat)), some (.slice A3 (setl (copyl (List.replicate (IntKind.i64.wrap ((a0.length : Int) + 1)).toNat (⟨0, (Vector.replicate 48 0)⟩ : api_Final)) a0) (a0.length : Int) (⟨(-7), (gt (copyl (List.replicate (IntKind.i64.wrap ((a0.length : Int) + 1)).toNat (⟨0, (Vector.replicate 48 0)⟩ : api_Final)) a0) (a0.length : Int)).V⟩ : api_Final)).length ((IntKind.i64.wrap ((a0.length : Int) + 1)).toNat)), none, none, some (.slice A3 (setl (copyl (List.replicate (IntKind.i64.wrap ((a0.length : Int) + 1)).toNat (⟨0, (Vector.replicate 48 0)⟩ : api_Final)) a0) (a0.length : Int) (⟨(-7), (gt (copyl (List.replicate (IntKind.i64.wrap ((a0.length : Int) + 1)).toNat (⟨0, (Vector.replicate 48 0)⟩ : api_Final)) a0) (a0.length : Int)).V⟩ : api_Final)).length ((IntKind.i64.wrap ((a0.length : Int) + 1)).toNat)), none, none, none, none, none, none, none, none]) (by simp only [setl_len]) ?_
  refine sx_run 6 (todo' := [.inRegion (opsOf (cd16 [1, 1, 1, 1, 0])) [3, 4], .code (cd16 [1, 1, 1, 1, 1])]) (us := [(16, .slice A3 (setl (copyl (List.replicate (IntKind.i64.wrap ((a0.length : Int) + 1)).toNat (⟨0, (Vector.replicate 48 0)⟩ : api_Final)) a0) (a0.length : Int) (⟨(-7), (gt (copyl (List.replicate (IntKind.i64.wrap ((a0.length : Int) + 1)).toNat (⟨0, (Vector.replicate 48 0)⟩ : api_Final)) a0) (a0.length : Int)).V⟩ : api_Final)).length ((IntKind.i64.wrap ((a0.length : Int) + 1)).toNat)), (17, .slice Aa0 a0.length ca0), (18, .int .i64 (a0.length : Int))]) (by kernel_rfl) ?_
  obtain ⟨g17, hp18⟩ := ite_some hp10
  have hc19 := (hS16.row 0 rfl).cap len_api_Final (by omega)
  have g20 : 0 ≤ (a0.length : Int) ∧ (a0.length : Int) ≤ ((IntKind.i64.wrap ((a0.length : Int) + 1)).toNat : Int) := by omega
  refine r_val (c := (cd16 [1, 1, 1, 1, 0])) (i := 3) (d := (some 19)) (ty := 36) (op := .slice 36 (.tmp 16) none (some (.tmp 18)) none) (v := .slice A3 ((a0.length : Int).toNat) ((IntKind.i64.wrap ((a0.length : Int) + 1)).toNat)) (by kernel_rfl) (by kernel_rfl) (fun o ho _ => x_cutSl_nsC (e := 24) (sz := 49) (A := A3) (n := (setl (copyl (List.replicate (IntKind.i64.wrap ((a0.length : Int) + 1)).toNat (⟨0, (Vector.replicate 48 0)⟩ : api_Final)) a0) (a0.length : Int) (⟨(-7), (gt (copyl (List.replicate (IntKind.i64.wrap ((a0.length : Int) + 1)).toNat (⟨0, (Vector.replicate 48 0)⟩ : api_Final)) a0) (a0.length : Int)).V⟩ : api_Final)).length) (c := ((IntKind.i64.wrap ((a0.length : Int) + 1)).toNat)) (k := .i64) (by kernel_rfl) (by kernel_rfl) (by kernel_rfl) (by kernel_rfl) g20 cut0 ho) ?_
  refine sx_run 2 (todo' := [.code (cd16 [1, 1, 1, 1, 1])]) (us := [(2, .slice A3 ((a0.length : Int).toNat) ((IntKind.i64.wrap ((a0.length : Int) + 1)).toNat))]) (by kernel_rfl) ?_
  refine runs_ret (fn := Try.f16) (v := .slice A3 ((a0.length : Int).toNat) ((IntKind.i64.wrap ((a0.length : Int) + 1)).toNat)) Try.func16 (by kernel_rfl) ?_
  have hr21 := (Option.some.inj hp18)
  cases hr21
  exact hR _ _ ⟨A3, (IntKind.i64.wrap ((a0.length : Int) + 1)).toNat, rfl, hS16⟩

noncomputable def cd19 (p : List Nat) : Code := sub (bodyOf Try.f19) p
def state_Check.l0 (a0 : api_Final) (t39 : Int) : Option (Sum Unit Int) :=
  (if (decide (t39 < (((a0.V.toList.take 48).drop a0.N.toNat).length : Int))) = true then (if 0 ≤ t39 ∧ t39 < (((a0.V.toList.take 48).drop a0.N.toNat).length : Int) then (if ((gt ((a0.V.toList.take 48).drop a0.N.toNat) t39) != 0) = true then some (.inr (4)) else (state_Check.l0 a0 (IntKind.i64.wrap (t39 + 1)))) else none) else some (.inl ()))
 partial_fixpoint
def state_Check.f (a0 : api_Final) : Option Int :=
  (if (decide (a0.N < 0)) = true then some (4) else (if (decide (a0.N > 48)) = true then some (4) else (if 0 ≤ a0.N ∧ a0.N ≤ 48 then (state_Check.l0 a0 0 >>= (fun | .inl () => some (0) | .inr e => some e)) else none)))
set_option maxHeartbeats 16000000 in
theorem state_Check.ok (a0 : api_Final) {w0 : World} {Z : Zm} {fs : List XObj} {w : World} (hS0 : St w0 Z (fs) w) {q0 : Int} (hp0 : state_Check.f a0 = some q0) :
    Calls Try.prog 19 #[.agg (enc_api_Final a0).toArray] w (fun e w' => e = .returned (.int .i64 q0) ∧ St w0 Z (fs) w') := by
  refine calls_abs ?_; intro R hR
  unfold state_Check.f at hp0
  refine calls_of_runs (fn := Try.f19) (c := cd19 []) Try.func19 (by kernel_rfl) (al := [.agg (enc_api_Final a0).toArray]) rfl (n := 24) rfl ?_
  refine sx_run 2 (todo' := [.inRegion (opsOf (cd19 [0])) [0, 1], .code (cd19 [1])]) (us := []) (by kernel_rfl) ?_
  refine r_box (c := (cd19 [0])) (i := 0) (d := (some 1)) (ty := 0) (x := (.tmp 0)) (v := .agg (enc_api_Final a0).toArray) (t := 24) (cs := enc_api_Final a0) hS0 (by kernel_rfl) (by kernel_rfl) (by kernel_rfl) (by kernel_rfl) ?_
  intro b1 w2 hS3
  refine sx_run 6 (todo' := [.inRegion (opsOf (cd19 [1, 0, 0])) [1, 2, 3, 4, 5, 6, 7], .code (cd19 [1, 0, 1]), .code (cd19 [1, 1])]) (us := [(2, .int .i64 0), (5, .pointer (some ⟨b1, 0, none⟩))]) (by kernel_rfl) ?_
  refine r_load (c := (cd19 [1, 0, 0])) (i := 1) (d := (some 6)) (ty := 3) (t := 3) (x := (.tmp 5)) (p := ⟨b1, 0, none⟩) (v := .int .i64 a0.N) (by kernel_rfl) (by kernel_rfl) (by kernel_rfl) (loads_at 0 (hS3.blk 0 rfl) (by kernel_rfl) (by kernel_rfl)) ?_
  refine sx_split 1 (todo' := [.inRegion (opsOf (cd19 [1, 0, 0])) [3, 4, 5, 6, 7], .code (cd19 [1, 0, 1]), .code (cd19 [1, 1])]) (us := []) (d := 7) (t := (decide (a0.N < 0))) (by kernel_rfl) (fun h5 => ?_) (fun h6 => ?_)
  · skip
    have hp7 := ite_t hp0 h5
    refine sx_run 11 (todo' := [.code (cd19 [1, 0, 1, 0, 1]), .code (cd19 [1, 1])]) (us := [(8, .bool true), (9, undef), (10, undef), (11, undef), (12, .bool true), (2, .int .i64 4)]) (by kernel_rfl) ?_
    have hS8 := hS3.drop
    refine runs_ret (fn := Try.f19) (v := .int .i64 4) Try.func19 (by kernel_rfl) ?_
    have hr9 := (Option.some.inj hp7)
    cases hr9
    exact hR _ _ ⟨rfl, hS8⟩
  · skip
    have hp10 := ite_f hp0 h6
    refine sx_run 2 (todo' := [.inRegion (opsOf (cd19 [1, 0, 0])) [5, 6, 7], .code (cd19 [1, 0, 1]), .code (cd19 [1, 1])]) (us := [(8, .bool false), (9, .pointer (some ⟨b1, 0, none⟩))]) (by kernel_rfl) ?_
    refine r_load (c := (cd19 [1, 0, 0])) (i := 5) (d := (some 10)) (ty := 3) (t := 3) (x := (.tmp 9)) (p := ⟨b1, 0, none⟩) (v := .int .i64 a0.N) (by kernel_rfl) (by kernel_rfl) (by kernel_rfl) (loads_at 0 (hS3.blk 0 rfl) (by kernel_rfl) (by kernel_rfl)) ?_
    refine sx_split 1 (todo' := [.inRegion (opsOf (cd19 [1, 0, 0])) [7], .code (cd19 [1, 0, 1]), .code (cd19 [1, 1])]) (us := []) (d := 11) (t := (decide (a0.N > 48))) (by kernel_rfl) (fun h11 => ?_) (fun h12 => ?_)
    · skip
      have hp13 := ite_t hp10 h11
      refine sx_run 7 (todo' := [.code (cd19 [1, 0, 1, 0, 1]), .code (cd19 [1, 1])]) (us := [(12, .bool true), (2, .int .i64 4)]) (by kernel_rfl) ?_
      have hS14 := hS3.drop
      refine runs_ret (fn := Try.f19) (v := .int .i64 4) Try.func19 (by kernel_rfl) ?_
      have hr15 := (Option.some.inj hp13)
      cases hr15
      exact hR _ _ ⟨rfl, hS14⟩
    · skip
      have hp16 := ite_f hp10 h12
      refine sx_run 9 (todo' := [.inRegion (opsOf (cd19 [1, 1, 0, 0])) [2, 3, 4, 5], .code (cd19 [1, 1, 0, 1]), .code (cd19 [1, 1, 1])]) (us := [(12, .bool false), (13, .pointer (some ⟨b1, 1, none⟩)), (14, .pointer (some ⟨b1, 0, none⟩))]) (by kernel_rfl) ?_
      refine r_load (c := (cd19 [1, 1, 0, 0])) (i := 2) (d := (some 15)) (ty := 3) (t := 3) (x := (.tmp 14)) (p := ⟨b1, 0, none⟩) (v := .int .i64 a0.N) (by kernel_rfl) (by kernel_rfl) (by kernel_rfl) (loads_at 0 (hS3.blk 0 rfl) (by kernel_rfl) (by kernel_rfl)) ?_
      obtain ⟨Z17, hz18, hS19, hs20, -⟩ := hS3.lendblk
      obtain ⟨g21, hp22⟩ := ite_some hp16
      obtain ⟨A23, c24, hr25, hs26⟩ := cutArrZ (zsub_api_Final_V hs20) (len_encI .i64) a0.N.toNat 48 (by omega) (by omega) (by omega)
      refine r_val (c := (cd19 [1, 1, 0, 0])) (i := 3) (d := (some 16)) (ty := 64) (op := .slice 22 (.tmp 13) (some (.tmp 15)) none none) (v := .slice A23 ((a0.V.toList.take 48).drop a0.N.toNat).length c24) (by kernel_rfl) (by kernel_rfl) (fun o ho _ => x_cutArr_sn (e := 2) (k := .i64) (by kernel_rfl) (by kernel_rfl) (by kernel_rfl) (by kernel_rfl) g21 hr25 ho) ?_
      refine sx_run 5 (todo' := [.code (cd19 [1, 1, 0, 1, 0, 0]), .inLoop (cd19 [1, 1, 0, 1, 0, 0]), .inBlock 0, .code (cd19 [1, 1, 1])]) (us := [(17, .int .i64 (((a0.V.toList.take 48).drop a0.N.toNat).length : Int)), (18, .int .i64 0)]) (by kernel_rfl) ?_
      obtain ⟨v28, hv29, hp30⟩ := bind_some' hp22
      have hq33 : ∀ x, Sum.inr x = v28 → x = q0 := by intro x hx; subst hx; simpa using hp30
      have J34 : ∀ (he36 : Sum.inl () = v28) (l35 : List Value) (w31 : World) (hS32 : St w0 Z17 (fs) w31), Runs Try.prog 19 [.code (cd19 [1, 1, 1])] (fill [none, none, none, none, none, none, none, none, none, none, none, none, none, none, none, none, none, none, none, none, none, none, none, none, none] l35) w31 R := by
        intro he36 l35 w31 hS32
        subst he36
        try dsimp only at hp30
        refine sx_run 4 (todo' := [.code (cd19 [1, 1, 1, 1])]) (us := [(2, .int .i64 0)]) (by kernel_rfl) ?_
        have hS37 := hS32.less hz18
        refine runs_ret (fn := Try.f19) (v := .int .i64 0) Try.func19 (by kernel_rfl) ?_
        have hr38 := (Option.some.inj hp30)
        cases hr38
        exact hR _ _ ⟨rfl, hS37⟩
      have L48 : ∀ (t39 : Int) (e43 : Sum Unit Int), state_Check.l0 a0 t39 = some e43 → e43 = v28 → ∀ (l42 : List Value) (w40 : World) (hS41 : St w0 Z17 (fs) w40), Runs Try.prog 19 [.code (cd19 [1, 1, 0, 1, 0, 0]), .inLoop (cd19 [1, 1, 0, 1, 0, 0]), .inBlock 0, .code (cd19 [1, 1, 1])] (fill [none, none, none, none, none, none, none, none, none, none, none, none, none, none, none, none, some (.slice A23 ((a0.V.toList.take 48).drop a0.N.toNat).length c24), some (.int .i64 (((a0.V.toList.take 48).drop a0.N.toNat).length : Int)), some (.int .i64 t39), none, none, none, none, none, none] l42) w40 R := by
        refine state_Check.l0.partial_correctness a0 (fun t39 e43 => e43 = v28 → ∀ (l42 : List Value) (w40 : World) (hS41 : St w0 Z17 (fs) w40), Runs Try.prog 19 [.code (cd19 [1, 1, 0, 1, 0, 0]), .inLoop (cd19 [1, 1, 0, 1, 0, 0]), .inBlock 0, .code (cd19 [1, 1, 1])] (fill [none, none, none, none, none, none, none, none, none, none, none, none, none, none, none, none, some (.slice A23 ((a0.V.toList.take 48).drop a0.N.toNat).length c24), some (.int .i64 (((a0.V.toList.take 48).drop a0.N.toNat).length : Int)), some (.int .i64 t39), none, none, none, none, none, none] l42) w40 R) ?_
        intro rec47 ih46 t39 e43 hb45 he44 l42 w40 hS41
        have hq49 : ∀ x, Sum.inr x = e43 → x = q0 := fun x hx => hq33 x (hx.trans he44)
        refine sx_split 3 (todo' := [.inRegion (opsOf (cd19 [1, 1, 0, 1, 0, 0, 0])) [], .code (cd19 [1, 1, 0, 1, 0, 0, 1]), .inLoop (cd19 [1, 1, 0, 1, 0, 0]), .inBlock 0, .code (cd19 [1, 1, 1])]) (us := []) (d := 19) (t := (decide (t39 < (((a0.V.toList.take 48).drop a0.N.toNat).length : Int)))) (by kernel_rfl) (fun h50 => ?_) (fun h51 => ?_)
        · skip
          have hp52 := ite_t hb45 h50
          refine sx_run 8 (todo' := [.inRegion (opsOf (cd19 [1, 1, 0, 1, 0, 0, 1, 1, 0, 0, 0])) [0, 1, 2], .code (cd19 [1, 1, 0, 1, 0, 0, 1, 1, 0, 0, 1]), .inBlock 1, .code (cd19 [1, 1, 0, 1, 0, 0, 1, 1, 1]), .inLoop (cd19 [1, 1, 0, 1, 0, 0]), .inBlock 0, .code (cd19 [1, 1, 1])]) (us := []) (by kernel_rfl) ?_
          obtain ⟨g53, hp54⟩ := ite_some hp52
          obtain ⟨b55, p56, hA57, hc58⟩ := hs26.atF g53.1 g53.2
          refine r_indexAddr (c := (cd19 [1, 1, 0, 1, 0, 0, 1, 1, 0, 0, 0])) (i := 0) (d := (some 20)) (ty := 0) (t := 64) (e := 2) (n := ((a0.V.toList.take 48).drop a0.N.toNat).length) (cp := c24) (sz := 1) (kk := .i64) (x := (.tmp 16)) (y := (.tmp 18)) (b := b55) (o' := p56) (j := t39) (by kernel_rfl) (by kernel_rfl) (slv (by kernel_rfl) hA57) (by kernel_rfl) (by kernel_rfl) (by kernel_rfl) g53.1 g53.2 ?_
          refine r_load (c := (cd19 [1, 1, 0, 1, 0, 0, 1, 1, 0, 0, 0])) (i := 1) (d := (some 21)) (ty := 2) (t := 2) (x := (.tmp 20)) (p := ⟨b55, p56 + t39.toNat * 1, none⟩) (v := .int .i64 (gt ((a0.V.toList.take 48).drop a0.N.toNat) t39)) (by kernel_rfl) (by kernel_rfl) (by kernel_rfl) (loads_at 0 (hc58.cells hS41) (by kernel_rfl) (by kernel_rfl)) ?_
          refine sx_split 6 (todo' := [.inRegion (opsOf (cd19 [1, 1, 0, 1, 0, 0, 1, 1, 0, 0, 1, 0])) [], .code (cd19 [1, 1, 0, 1, 0, 0, 1, 1, 0, 0, 1, 1]), .inBlock 1, .code (cd19 [1, 1, 0, 1, 0, 0, 1, 1, 1]), .inLoop (cd19 [1, 1, 0, 1, 0, 0]), .inBlock 0, .code (cd19 [1, 1, 1])]) (us := [(4, .int .i64 (gt ((a0.V.toList.take 48).drop a0.N.toNat) t39)), (22, .int .i64 (gt ((a0.V.toList.take 48).drop a0.N.toNat) t39))]) (d := 23) (t := ((gt ((a0.V.toList.take 48).drop a0.N.toNat) t39) != 0)) (by kernel_rfl) (fun h59 => ?_) (fun h60 => ?_)
          · skip
            have hp61 := ite_t hp54 h59
            refine sx_run 6 (todo' := [.code (cd19 [1, 1, 0, 1, 0, 0, 1, 1, 0, 0, 1, 1, 0, 1]), .inBlock 1, .code (cd19 [1, 1, 0, 1, 0, 0, 1, 1, 1]), .inLoop (cd19 [1, 1, 0, 1, 0, 0]), .inBlock 0, .code (cd19 [1, 1, 1])]) (us := [(2, .int .i64 4)]) (by kernel_rfl) ?_
            have hS62 := hS41.less hz18
            refine runs_ret (fn := Try.f19) (v := .int .i64 4) Try.func19 (by kernel_rfl) ?_
            have hr63 := (hq49 _ (Option.some.inj hp61))
            cases hr63
            exact hR _ _ ⟨rfl, hS62⟩
          · skip
            have hp64 := ite_f hp54 h60
            refine sx_run 8 (todo' := [.inLoop (cd19 [1, 1, 0, 1, 0, 0]), .inBlock 0, .code (cd19 [1, 1, 1])]) (us := [(24, .int .i64 (IntKind.i64.wrap (t39 + 1))), (18, .int .i64 (IntKind.i64.wrap (t39 + 1)))]) (by kernel_rfl) ?_
            refine sx_run 1 (todo' := [.code (cd19 [1, 1, 0, 1, 0, 0]), .inLoop (cd19 [1, 1, 0, 1, 0, 0]), .inBlock 0, .code (cd19 [1, 1, 1])]) (us := []) (by kernel_rfl) ?_
            refine Runs.fill (m := [none, none, none, none, none, none, none, none, none, none, none, none, none, none, none, none, some (.slice A23 ((a0.V.toList.take 48).drop a0.N.toNat).length c24), some (.int .i64 (((a0.V.toList.take 48).drop a0.N.toNat).length : Int)), some (.int .i64 (IntKind.i64.wrap (t39 + 1))), none, none, none, none, none, none]) (by kernel_rfl) ?_
            exact ih46 (IntKind.i64.wrap (t39 + 1)) _ hp64 he44 _ _ hS41
        · skip
          have hp65 := ite_f hb45 h51
          refine sx_run 4 (todo' := [.code (cd19 [1, 1, 1])]) (us := []) (by kernel_rfl) ?_
          refine Runs.fill (m := [none, none, none, none, none, none, none, none, none, none, none, none, none, none, none, none, none, none, none, none, none, none, none, none, none]) (by kernel_rfl) ?_
          exact J34 ((Option.some.inj hp65).trans he44) _ _ hS41
      refine Runs.fill (m := [none, none, none, none, none, none, none, none, none, none, none, none, none, none, none, none, some (.slice A23 ((a0.V.toList.take 48).drop a0.N.toNat).length c24), some (.int .i64 (((a0.V.toList.take 48).drop a0.N.toNat).length : Int)), some (.int .i64 0), none, none, none, none, none, none]) (by kernel_rfl) ?_
      exact L48 0 _ hv29 rfl _ _ hS19

noncomputable def cd64 (p : List Nat) : Code := sub (bodyOf Try.f64) p
def cmp_isNaN_int64.f (a0 : Int) : Option Bool :=
  (if (a0 != a0) = true then some (true) else some (false))
set_option maxHeartbeats 16000000 in
theorem cmp_isNaN_int64.ok (a0 : Int) {w0 : World} {Z : Zm} {fs : List XObj} {w : World} (hS0 : St w0 Z (fs) w) {q0 : Bool} (hp0 : cmp_isNaN_int64.f a0 = some q0) :
    Calls Try.prog 64 #[.int .i64 a0] w (fun e w' => e = .returned (.bool q0) ∧ St w0 Z (fs) w') := by
  refine calls_abs ?_; intro R hR
  unfold cmp_isNaN_int64.f at hp0
  refine calls_of_runs (fn := Try.f64) (c := cd64 []) Try.func64 (by kernel_rfl) (al := [.int .i64 a0]) rfl (n := 5) rfl ?_
  refine sx_split 9 (todo' := [.inRegion (opsOf (cd64 [1, 0])) [3], .code (cd64 [1, 1])]) (us := [(2, .bool false), (3, .int .i64 a0), (4, .int .i64 a0)]) (d := 5) (t := (a0 != a0)) (by kernel_rfl) (fun h1 => ?_) (fun h2 => ?_)
  · skip
    have hp3 := ite_t hp0 h1
    refine sx_run 2 (todo' := [.code (cd64 [1, 1])]) (us := [(2, .bool true)]) (by kernel_rfl) ?_
    refine runs_ret (fn := Try.f64) (v := .bool true) Try.func64 (by kernel_rfl) ?_
    have hr4 := (Option.some.inj hp3)
    cases hr4
    exact hR _ _ ⟨rfl, hS0⟩
  · skip
    have hp5 := ite_f hp0 h2
    refine sx_run 2 (todo' := [.code (cd64 [1, 1])]) (us := [(2, .bool false)]) (by kernel_rfl) ?_
    refine runs_ret (fn := Try.f64) (v := .bool false) Try.func64 (by kernel_rfl) ?_
    have hr6 := (Option.some.inj hp5)
    cases hr6
    exact hR _ _ ⟨rfl, hS0⟩

noncomputable def cd52 (p : List Nat) : Code := sub (bodyOf Try.f52) p
def cmp_Compare_int64.f (a0 : Int) (a1 : Int) : Option Int :=
  (cmp_isNaN_int64.f a0 >>= (fun t1 => (cmp_isNaN_int64.f a1 >>= (fun t6 => (if t1 = true then (if t6 = true then some (0) else some ((-1))) else (if t6 = true then some (1) else (if (decide (a0 < a1)) = true then some ((-1)) else (if (decide (a0 > a1)) = true then some (1) else some (0)))))))))
set_option maxHeartbeats 16000000 in
theorem cmp_Compare_int64.ok (a0 : Int) (a1 : Int) {w0 : World} {Z : Zm} {fs : List XObj} {w : World} (hS0 : St w0 Z (fs) w) {q0 : Int} (hp0 : cmp_Compare_int64.f a0 a1 = some q0) :
    Calls Try.prog 52 #[.int .i64 a0, .int .i64 a1] w (fun e w' => e = .returned (.int .i64 q0) ∧ St w0 Z (fs) w') := by
  refine calls_abs ?_; intro R hR
  unfold cmp_Compare_int64.f at hp0
  refine calls_of_runs (fn := Try.f52) (c := cd52 []) Try.func52 (by kernel_rfl) (al := [.int .i64 a0, .int .i64 a1]) rfl (n := 18) rfl ?_
  refine sx_run 7 (todo' := [.inRegion (opsOf (cd52 [1, 0])) [1, 2], .code (cd52 [1, 1])]) (us := [(4, .int .i64 0), (7, .int .i64 a0)]) (by kernel_rfl) ?_
  obtain ⟨t1, hr2, hp3⟩ := bind_some' hp0
  refine r_call1 (c := (cd52 [1, 0])) (i := 1) (d := (some 8)) (g := 64) (args := #[.int .i64 a0]) (by kernel_rfl) (by kernel_rfl) (by kernel_rfl) (by kernel_rfl) (cmp_isNaN_int64.ok a0 hS0 hr2) ?_
  rintro _ w4 ⟨rfl, hS5⟩
  refine ⟨.bool t1, rfl, ?_⟩
  refine sx_run 5 (todo' := [.inRegion (opsOf (cd52 [1, 1, 0])) [1, 2], .code (cd52 [1, 1, 1])]) (us := [(5, .bool t1), (9, .int .i64 a1)]) (by kernel_rfl) ?_
  obtain ⟨t6, hr7, hp8⟩ := bind_some' hp3
  refine r_call1 (c := (cd52 [1, 1, 0])) (i := 1) (d := (some 10)) (g := 64) (args := #[.int .i64 a1]) (by kernel_rfl) (by kernel_rfl) (by kernel_rfl) (by kernel_rfl) (cmp_isNaN_int64.ok a1 hS5 hr7) ?_
  rintro _ w9 ⟨rfl, hS10⟩
  refine ⟨.bool t6, rfl, ?_⟩
  refine sx_run 7 (todo' := [.code (cd52 [1, 1, 1, 0, 1]), .code (cd52 [1, 1, 1, 1])]) (us := [(6, .bool t6), (11, .bool t1)]) (by kernel_rfl) ?_
  cases t1
  · skip
    have hp11 := ite_f hp8 rfl
    refine sx_run 7 (todo' := [.code (cd52 [1, 1, 1, 1, 0, 1]), .code (cd52 [1, 1, 1, 1, 1])]) (us := [(13, .bool t6)]) (by kernel_rfl) ?_
    cases t6
    · skip
      have hp12 := ite_f hp11 rfl
      refine sx_split 8 (todo' := [.inRegion (opsOf (cd52 [1, 1, 1, 1, 1, 0, 0])) [], .code (cd52 [1, 1, 1, 1, 1, 0, 1]), .code (cd52 [1, 1, 1, 1, 1, 1])]) (us := [(14, .int .i64 a0), (15, .int .i64 a1)]) (d := 16) (t := (decide (a0 < a1))) (by kernel_rfl) (fun h13 => ?_) (fun h14 => ?_)
      · skip
        have hp15 := ite_t hp12 h13
        refine sx_run 6 (todo' := [.code (cd52 [1, 1, 1, 1, 1, 0, 1, 0, 1]), .code (cd52 [1, 1, 1, 1, 1, 1])]) (us := [(4, .int .i64 (-1))]) (by kernel_rfl) ?_
        refine runs_ret (fn := Try.f52) (v := .int .i64 (-1)) Try.func52 (by kernel_rfl) ?_
        have hr16 := (Option.some.inj hp15)
        cases hr16
        exact hR _ _ ⟨rfl, hS10⟩
      · skip
        have hp17 := ite_f hp12 h14
        refine sx_split 9 (todo' := [.inRegion (opsOf (cd52 [1, 1, 1, 1, 1, 1, 0, 0])) [], .code (cd52 [1, 1, 1, 1, 1, 1, 0, 1]), .code (cd52 [1, 1, 1, 1, 1, 1, 1])]) (us := [(17, .int .i64 a0), (18, .int .i64 a1)]) (d := 19) (t := (decide (a0 > a1))) (by kernel_rfl) (fun h18 => ?_) (fun h19 => ?_)
        · skip
          have hp20 := ite_t hp17 h18
          refine sx_run 6 (todo' := [.code (cd52 [1, 1, 1, 1, 1, 1, 0, 1, 0, 1]), .code (cd52 [1, 1, 1, 1, 1, 1, 1])]) (us := [(4, .int .i64 1)]) (by kernel_rfl) ?_
          refine runs_ret (fn := Try.f52) (v := .int .i64 1) Try.func52 (by kernel_rfl) ?_
          have hr21 := (Option.some.inj hp20)
          cases hr21
          exact hR _ _ ⟨rfl, hS10⟩
        · skip
          have hp22 := ite_f hp17 h19
          refine sx_run 7 (todo' := [.code (cd52 [1, 1, 1, 1, 1, 1, 1, 1])]) (us := [(4, .int .i64 0)]) (by kernel_rfl) ?_
          refine runs_ret (fn := Try.f52) (v := .int .i64 0) Try.func52 (by kernel_rfl) ?_
          have hr23 := (Option.some.inj hp22)
          cases hr23
          exact hR _ _ ⟨rfl, hS10⟩
    · skip
      have hp24 := ite_t hp11 rfl
      refine sx_run 5 (todo' := [.code (cd52 [1, 1, 1, 1, 0, 1, 0, 1]), .code (cd52 [1, 1, 1, 1, 1])]) (us := [(4, .int .i64 1)]) (by kernel_rfl) ?_
      refine runs_ret (fn := Try.f52) (v := .int .i64 1) Try.func52 (by kernel_rfl) ?_
      have hr25 := (Option.some.inj hp24)
      cases hr25
      exact hR _ _ ⟨rfl, hS10⟩
  · skip
    have hp26 := ite_t hp8 rfl
    refine sx_run 6 (todo' := [.code (cd52 [1, 1, 1, 0, 1, 0, 0, 1]), .code (cd52 [1, 1, 1, 0, 1, 0, 1]), .code (cd52 [1, 1, 1, 1])]) (us := [(12, .bool t6)]) (by kernel_rfl) ?_
    cases t6
    · skip
      have hp27 := ite_f hp26 rfl
      refine sx_run 6 (todo' := [.code (cd52 [1, 1, 1, 0, 1, 0, 1, 1]), .code (cd52 [1, 1, 1, 1])]) (us := [(4, .int .i64 (-1))]) (by kernel_rfl) ?_
      refine runs_ret (fn := Try.f52) (v := .int .i64 (-1)) Try.func52 (by kernel_rfl) ?_
      have hr28 := (Option.some.inj hp27)
      cases hr28
      exact hR _ _ ⟨rfl, hS10⟩
    · skip
      have hp29 := ite_t hp26 rfl
      refine sx_run 5 (todo' := [.code (cd52 [1, 1, 1, 0, 1, 0, 0, 1, 0, 1]), .code (cd52 [1, 1, 1, 0, 1, 0, 1]), .code (cd52 [1, 1, 1, 1])]) (us := [(4, .int .i64 0)]) (by kernel_rfl) ?_
      refine runs_ret (fn := Try.f52) (v := .int .i64 0) Try.func52 (by kernel_rfl) ?_
      have hr30 := (Option.some.inj hp29)
      cases hr30
      exact hR _ _ ⟨rfl, hS10⟩

noncomputable def cd44 (p : List Nat) : Code := sub (bodyOf Try.f44) p
def slices_Compare___int64_int64.l0 (a0 : List Int) (a1 : List Int) (t16 : Int) : Option (Sum Unit Int) :=
  (if (decide (t16 < (a0.length : Int))) = true then (if 0 ≤ t16 ∧ t16 < (a0.length : Int) then (if (decide (t16 ≥ (a1.length : Int))) = true then some (.inr (1)) else (if 0 ≤ t16 ∧ t16 < (a1.length : Int) then (cmp_Compare_int64.f (gt a0 t16) (gt a1 t16) >>= (fun t47 => (if (t47 != 0) = true then some (.inr (t47)) else (slices_Compare___int64_int64.l0 a0 a1 (IntKind.i64.wrap (t16 + 1)))))) else none)) else none) else some (.inl ()))
 partial_fixpoint
def slices_Compare___int64_int64.f (a0 : List Int) (a1 : List Int) : Option Int :=
  (slices_Compare___int64_int64.l0 a0 a1 0 >>= (fun | .inl () => (if (decide ((a0.length : Int) < (a1.length : Int))) = true then some ((-1)) else some (0)) | .inr e => some e))
set_option maxHeartbeats 16000000 in
theorem slices_Compare___int64_int64.ok (a0 : List Int) (a1 : List Int) (Aa0 : Option Addr) (ca0 : Nat) (Aa1 : Option Addr) (ca1 : Nat) {w0 : World} {Z : Zm} {fs : List XObj} {w : World} (hS0 : St w0 Z (fs) w) (ha0 : SlZ (flat (encI .i64)) 1 Z Aa0 ca0 a0) (ha1 : SlZ (flat (encI .i64)) 1 Z Aa1 ca1 a1) {q0 : Int} (hp0 : slices_Compare___int64_int64.f a0 a1 = some q0) :
    Calls Try.prog 44 #[.slice Aa0 a0.length ca0, .slice Aa1 a1.length ca1] w (fun e w' => e = .returned (.int .i64 q0) ∧ St w0 Z (fs) w') := by
  refine calls_abs ?_; intro R hR
  unfold slices_Compare___int64_int64.f at hp0
  refine calls_of_runs (fn := Try.f44) (c := cd44 []) Try.func44 (by kernel_rfl) (al := [.slice Aa0 a0.length ca0, .slice Aa1 a1.length ca1]) rfl (n := 34) rfl ?_
  refine sx_run 13 (todo' := [.code (cd44 [1, 0, 1, 0, 0]), .inLoop (cd44 [1, 0, 1, 0, 0]), .inBlock 0, .code (cd44 [1, 1])]) (us := [(4, .int .i64 0), (9, .slice Aa0 a0.length ca0), (10, .int .i64 (a0.length : Int)), (11, .int .i64 0)]) (by kernel_rfl) ?_
  obtain ⟨v1, hv2, hp3⟩ := bind_some' hp0
  have hq6 : ∀ x, Sum.inr x = v1 → x = q0 := by intro x hx; subst hx; simpa using hp3
  have J7 : ∀ (he9 : Sum.inl () = v1) (l8 : List Value) (w4 : World) (hS5 : St w0 Z (fs) w4), Runs Try.prog 44 [.code (cd44 [1, 1])] (fill [some (.slice Aa0 a0.length ca0), some (.slice Aa1 a1.length ca1), none, none, none, none, none, none, none, none, none, none, none, none, none, none, none, none, none, none, none, none, none, none, none, none, none, none, none, none, none, none, none, none, none, none] l8) w4 R := by
    intro he9 l8 w4 hS5
    subst he9
    try dsimp only at hp3
    refine sx_split 8 (todo' := [.inRegion (opsOf (cd44 [1, 1, 0, 0])) [], .code (cd44 [1, 1, 0, 1]), .code (cd44 [1, 1, 1])]) (us := [(31, .slice Aa0 a0.length ca0), (32, .int .i64 (a0.length : Int)), (33, .slice Aa1 a1.length ca1), (34, .int .i64 (a1.length : Int))]) (d := 35) (t := (decide ((a0.length : Int) < (a1.length : Int)))) (by kernel_rfl) (fun h10 => ?_) (fun h11 => ?_)
    · skip
      have hp12 := ite_t hp3 h10
      refine sx_run 6 (todo' := [.code (cd44 [1, 1, 0, 1, 0, 1]), .code (cd44 [1, 1, 1])]) (us := [(4, .int .i64 (-1))]) (by kernel_rfl) ?_
      refine runs_ret (fn := Try.f44) (v := .int .i64 (-1)) Try.func44 (by kernel_rfl) ?_
      have hr13 := (Option.some.inj hp12)
      cases hr13
      exact hR _ _ ⟨rfl, hS5⟩
    · skip
      have hp14 := ite_f hp3 h11
      refine sx_run 7 (todo' := [.code (cd44 [1, 1, 1, 1])]) (us := [(4, .int .i64 0)]) (by kernel_rfl) ?_
      refine runs_ret (fn := Try.f44) (v := .int .i64 0) Try.func44 (by kernel_rfl) ?_
      have hr15 := (Option.some.inj hp14)
      cases hr15
      exact hR _ _ ⟨rfl, hS5⟩
  have L25 : ∀ (t16 : Int) (e20 : Sum Unit Int), slices_Compare___int64_int64.l0 a0 a1 t16 = some e20 → e20 = v1 → ∀ (l19 : List Value) (w17 : World) (hS18 : St w0 Z (fs) w17), Runs Try.prog 44 [.code (cd44 [1, 0, 1, 0, 0]), .inLoop (cd44 [1, 0, 1, 0, 0]), .inBlock 0, .code (cd44 [1, 1])] (fill [some (.slice Aa0 a0.length ca0), some (.slice Aa1 a1.length ca1), none, none, none, none, none, none, none, some (.slice Aa0 a0.length ca0), some (.int .i64 (a0.length : Int)), some (.int .i64 t16), none, none, none, none, none, none, none, none, none, none, none, none, none, none, none, none, none, none, none, none, none, none, none, none] l19) w17 R := by
    refine slices_Compare___int64_int64.l0.partial_correctness a0 a1 (fun t16 e20 => e20 = v1 → ∀ (l19 : List Value) (w17 : World) (hS18 : St w0 Z (fs) w17), Runs Try.prog 44 [.code (cd44 [1, 0, 1, 0, 0]), .inLoop (cd44 [1, 0, 1, 0, 0]), .inBlock 0, .code (cd44 [1, 1])] (fill [some (.slice Aa0 a0.length ca0), some (.slice Aa1 a1.length ca1), none, none, none, none, none, none, none, some (.slice Aa0 a0.length ca0), some (.int .i64 (a0.length : Int)), some (.int .i64 t16), none, none, none, none, none, none, none, none, none, none, none, none, none, none, none, none, none, none, none, none, none, none, none, none] l19) w17 R) ?_
    intro rec24 ih23 t16 e20 hb22 he21 l19 w17 hS18
    have hq26 : ∀ x, Sum.inr x = e20 → x = q0 := fun x hx => hq6 x (hx.trans he21)
    refine sx_split 3 (todo' := [.inRegion (opsOf (cd44 [1, 0, 1, 0, 0, 0])) [], .code (cd44 [1, 0, 1, 0, 0, 1]), .inLoop (cd44 [1, 0, 1, 0, 0]), .inBlock 0, .code (cd44 [1, 1])]) (us := []) (d := 12) (t := (decide (t16 < (a0.length : Int)))) (by kernel_rfl) (fun h27 => ?_) (fun h28 => ?_)
    · skip
      have hp29 := ite_t hb22 h27
      refine sx_run 9 (todo' := [.inRegion (opsOf (cd44 [1, 0, 1, 0, 0, 1, 1, 0, 0, 0])) [1, 2, 3, 4], .code (cd44 [1, 0, 1, 0, 0, 1, 1, 0, 0, 1]), .inBlock 1, .code (cd44 [1, 0, 1, 0, 0, 1, 1, 1]), .inLoop (cd44 [1, 0, 1, 0, 0]), .inBlock 0, .code (cd44 [1, 1])]) (us := [(13, .int .i64 t16)]) (by kernel_rfl) ?_
      obtain ⟨g30, hp31⟩ := ite_some hp29
      obtain ⟨b32, p33, hA34, hc35⟩ := ha0.atF g30.1 g30.2
      refine r_indexAddr (c := (cd44 [1, 0, 1, 0, 0, 1, 1, 0, 0, 0])) (i := 1) (d := (some 14)) (ty := 0) (t := 64) (e := 2) (n := a0.length) (cp := ca0) (sz := 1) (kk := .i64) (x := (.tmp 9)) (y := (.tmp 11)) (b := b32) (o' := p33) (j := t16) (by kernel_rfl) (by kernel_rfl) (slv (by kernel_rfl) hA34) (by kernel_rfl) (by kernel_rfl) (by kernel_rfl) g30.1 g30.2 ?_
      refine r_load (c := (cd44 [1, 0, 1, 0, 0, 1, 1, 0, 0, 0])) (i := 2) (d := (some 15)) (ty := 2) (t := 2) (x := (.tmp 14)) (p := ⟨b32, p33 + t16.toNat * 1, none⟩) (v := .int .i64 (gt a0 t16)) (by kernel_rfl) (by kernel_rfl) (by kernel_rfl) (loads_at 0 (hc35.cells hS18) (by kernel_rfl) (by kernel_rfl)) ?_
      refine sx_split 10 (todo' := [.inRegion (opsOf (cd44 [1, 0, 1, 0, 0, 1, 1, 0, 0, 1, 0, 0])) [], .code (cd44 [1, 0, 1, 0, 0, 1, 1, 0, 0, 1, 0, 1]), .code (cd44 [1, 0, 1, 0, 0, 1, 1, 0, 0, 1, 1]), .inBlock 1, .code (cd44 [1, 0, 1, 0, 0, 1, 1, 1]), .inLoop (cd44 [1, 0, 1, 0, 0]), .inBlock 0, .code (cd44 [1, 1])]) (us := [(5, .int .i64 t16), (6, .int .i64 (gt a0 t16)), (16, .int .i64 t16), (17, .slice Aa1 a1.length ca1), (18, .int .i64 (a1.length : Int))]) (d := 19) (t := (decide (t16 ≥ (a1.length : Int)))) (by kernel_rfl) (fun h36 => ?_) (fun h37 => ?_)
      · skip
        have hp38 := ite_t hp31 h36
        refine sx_run 6 (todo' := [.code (cd44 [1, 0, 1, 0, 0, 1, 1, 0, 0, 1, 0, 1, 0, 1]), .code (cd44 [1, 0, 1, 0, 0, 1, 1, 0, 0, 1, 1]), .inBlock 1, .code (cd44 [1, 0, 1, 0, 0, 1, 1, 1]), .inLoop (cd44 [1, 0, 1, 0, 0]), .inBlock 0, .code (cd44 [1, 1])]) (us := [(4, .int .i64 1)]) (by kernel_rfl) ?_
        refine runs_ret (fn := Try.f44) (v := .int .i64 1) Try.func44 (by kernel_rfl) ?_
        have hr39 := (hq26 _ (Option.some.inj hp38))
        cases hr39
        exact hR _ _ ⟨rfl, hS18⟩
      · skip
        have hp40 := ite_f hp31 h37
        refine sx_run 7 (todo' := [.inRegion (opsOf (cd44 [1, 0, 1, 0, 0, 1, 1, 0, 0, 1, 1, 0])) [2, 3, 4], .code (cd44 [1, 0, 1, 0, 0, 1, 1, 0, 0, 1, 1, 1]), .inBlock 1, .code (cd44 [1, 0, 1, 0, 0, 1, 1, 1]), .inLoop (cd44 [1, 0, 1, 0, 0]), .inBlock 0, .code (cd44 [1, 1])]) (us := [(20, .slice Aa1 a1.length ca1), (21, .int .i64 t16)]) (by kernel_rfl) ?_
        obtain ⟨g41, hp42⟩ := ite_some hp40
        obtain ⟨b43, p44, hA45, hc46⟩ := ha1.atF g41.1 g41.2
        refine r_indexAddr (c := (cd44 [1, 0, 1, 0, 0, 1, 1, 0, 0, 1, 1, 0])) (i := 2) (d := (some 22)) (ty := 0) (t := 64) (e := 2) (n := a1.length) (cp := ca1) (sz := 1) (kk := .i64) (x := (.tmp 20)) (y := (.tmp 21)) (b := b43) (o' := p44) (j := t16) (by kernel_rfl) (by kernel_rfl) (slv (by kernel_rfl) hA45) (by kernel_rfl) (by kernel_rfl) (by kernel_rfl) g41.1 g41.2 ?_
        refine r_load (c := (cd44 [1, 0, 1, 0, 0, 1, 1, 0, 0, 1, 1, 0])) (i := 3) (d := (some 23)) (ty := 2) (t := 2) (x := (.tmp 22)) (p := ⟨b43, p44 + t16.toNat * 1, none⟩) (v := .int .i64 (gt a1 t16)) (by kernel_rfl) (by kernel_rfl) (by kernel_rfl) (loads_at 0 (hc46.cells hS18) (by kernel_rfl) (by kernel_rfl)) ?_
        refine sx_run 6 (todo' := [.inRegion (opsOf (cd44 [1, 0, 1, 0, 0, 1, 1, 0, 0, 1, 1, 1, 0])) [2, 3], .code (cd44 [1, 0, 1, 0, 0, 1, 1, 0, 0, 1, 1, 1, 1]), .inBlock 1, .code (cd44 [1, 0, 1, 0, 0, 1, 1, 1]), .inLoop (cd44 [1, 0, 1, 0, 0]), .inBlock 0, .code (cd44 [1, 1])]) (us := [(7, .int .i64 (gt a1 t16)), (24, .int .i64 (gt a0 t16)), (25, .int .i64 (gt a1 t16))]) (by kernel_rfl) ?_
        obtain ⟨t47, hr48, hp49⟩ := bind_some' hp42
        refine r_call1 (c := (cd44 [1, 0, 1, 0, 0, 1, 1, 0, 0, 1, 1, 1, 0])) (i := 2) (d := (some 26)) (g := 52) (args := #[.int .i64 (gt a0 t16), .int .i64 (gt a1 t16)]) (by kernel_rfl) (by kernel_rfl) (by kernel_rfl) (by kernel_rfl) (cmp_Compare_int64.ok (gt a0 t16) (gt a1 t16) hS18 hr48) ?_
        rintro _ w50 ⟨rfl, hS51⟩
        refine ⟨.int .i64 t47, rfl, ?_⟩
        refine sx_split 6 (todo' := [.inRegion (opsOf (cd44 [1, 0, 1, 0, 0, 1, 1, 0, 0, 1, 1, 1, 1, 0])) [], .code (cd44 [1, 0, 1, 0, 0, 1, 1, 0, 0, 1, 1, 1, 1, 1]), .inBlock 1, .code (cd44 [1, 0, 1, 0, 0, 1, 1, 1]), .inLoop (cd44 [1, 0, 1, 0, 0]), .inBlock 0, .code (cd44 [1, 1])]) (us := [(8, .int .i64 t47), (27, .int .i64 t47)]) (d := 28) (t := (t47 != 0)) (by kernel_rfl) (fun h52 => ?_) (fun h53 => ?_)
        · skip
          have hp54 := ite_t hp49 h52
          refine sx_run 7 (todo' := [.code (cd44 [1, 0, 1, 0, 0, 1, 1, 0, 0, 1, 1, 1, 1, 1, 0, 1]), .inBlock 1, .code (cd44 [1, 0, 1, 0, 0, 1, 1, 1]), .inLoop (cd44 [1, 0, 1, 0, 0]), .inBlock 0, .code (cd44 [1, 1])]) (us := [(29, .int .i64 t47), (4, .int .i64 t47)]) (by kernel_rfl) ?_
          refine runs_ret (fn := Try.f44) (v := .int .i64 t47) Try.func44 (by kernel_rfl) ?_
          have hr55 := (hq26 _ (Option.some.inj hp54))
          cases hr55
          exact hR _ _ ⟨rfl, hS51⟩
        · skip
          have hp56 := ite_f hp49 h53
          refine sx_run 8 (todo' := [.inLoop (cd44 [1, 0, 1, 0, 0]), .inBlock 0, .code (cd44 [1, 1])]) (us := [(30, .int .i64 (IntKind.i64.wrap (t16 + 1))), (11, .int .i64 (IntKind.i64.wrap (t16 + 1)))]) (by kernel_rfl) ?_
          refine sx_run 1 (todo' := [.code (cd44 [1, 0, 1, 0, 0]), .inLoop (cd44 [1, 0, 1, 0, 0]), .inBlock 0, .code (cd44 [1, 1])]) (us := []) (by kernel_rfl) ?_
          refine Runs.fill (m := [some (.slice Aa0 a0.length ca0), some (.slice Aa1 a1.length ca1), none, none, none, none, none, none, none, some (.slice Aa0 a0.length ca0), some (.int .i64 (a0.length : Int)), some (.int .i64 (IntKind.i64.wrap (t16 + 1))), none, none, none, none, none, none, none, none, none, none, none, none, none, none, none, none, none, none, none, none, none, none, none, none]) (by kernel_rfl) ?_
          exact ih23 (IntKind.i64.wrap (t16 + 1)) _ hp56 he21 _ _ hS51
    · skip
      have hp57 := ite_f hb22 h28
      refine sx_run 4 (todo' := [.code (cd44 [1, 1])]) (us := []) (by kernel_rfl) ?_
      refine Runs.fill (m := [some (.slice Aa0 a0.length ca0), some (.slice Aa1 a1.length ca1), none, none, none, none, none, none, none, none, none, none, none, none, none, none, none, none, none, none, none, none, none, none, none, none, none, none, none, none, none, none, none, none, none, none]) (by kernel_rfl) ?_
      exact J7 ((Option.some.inj hp57).trans he21) _ _ hS18
  refine Runs.fill (m := [some (.slice Aa0 a0.length ca0), some (.slice Aa1 a1.length ca1), none, none, none, none, none, none, none, some (.slice Aa0 a0.length ca0), some (.int .i64 (a0.length : Int)), some (.int .i64 0), none, none, none, none, none, none, none, none, none, none, none, none, none, none, none, none, none, none, none, none, none, none, none, none]) (by kernel_rfl) ?_
  exact L25 0 _ hv2 rfl _ _ hS0

noncomputable def cd21 (p : List Nat) : Code := sub (bodyOf Try.f21) p
def state_Compare.f (a0 : api_Final) (a1 : api_Final) : Option Int :=
  (if (decide (a0.N < a1.N)) = true then some ((-1)) else (if (decide (a0.N > a1.N)) = true then some (1) else (slices_Compare___int64_int64.f ((a0.V.toList.take 48).drop 0) ((a1.V.toList.take 48).drop 0) >>= (fun t42 => some (t42)))))
set_option maxHeartbeats 16000000 in
theorem state_Compare.ok (a0 : api_Final) (a1 : api_Final) {w0 : World} {Z : Zm} {fs : List XObj} {w : World} (hS0 : St w0 Z (fs) w) {q0 : Int} (hp0 : state_Compare.f a0 a1 = some q0) :
    Calls Try.prog 21 #[.agg (enc_api_Final a0).toArray, .agg (enc_api_Final a1).toArray] w (fun e w' => e = .returned (.int .i64 q0) ∧ St w0 Z (fs) w') := by
  refine calls_abs ?_; intro R hR
  unfold state_Compare.f at hp0
  refine calls_of_runs (fn := Try.f21) (c := cd21 []) Try.func21 (by kernel_rfl) (al := [.agg (enc_api_Final a0).toArray, .agg (enc_api_Final a1).toArray]) rfl (n := 20) rfl ?_
  refine sx_run 2 (todo' := [.inRegion (opsOf (cd21 [0])) [0, 1, 2], .code (cd21 [1])]) (us := []) (by kernel_rfl) ?_
  refine r_box (c := (cd21 [0])) (i := 0) (d := (some 2)) (ty := 0) (x := (.tmp 0)) (v := .agg (enc_api_Final a0).toArray) (t := 24) (cs := enc_api_Final a0) hS0 (by kernel_rfl) (by kernel_rfl) (by kernel_rfl) (by kernel_rfl) ?_
  intro b1 w2 hS3
  refine r_box (c := (cd21 [0])) (i := 1) (d := (some 3)) (ty := 0) (x := (.tmp 1)) (v := .agg (enc_api_Final a1).toArray) (t := 24) (cs := enc_api_Final a1) hS3 (by kernel_rfl) (by kernel_rfl) (by kernel_rfl) (by kernel_rfl) ?_
  intro b5 w6 hS7
  refine sx_run 7 (todo' := [.inRegion (opsOf (cd21 [1, 0, 0, 0])) [1, 2, 3, 4, 5], .code (cd21 [1, 0, 0, 1]), .inBlock 0, .code (cd21 [1, 1])]) (us := [(4, .int .i64 0), (6, .pointer (some ⟨b1, 0, none⟩))]) (by kernel_rfl) ?_
  refine r_load (c := (cd21 [1, 0, 0, 0])) (i := 1) (d := (some 7)) (ty := 3) (t := 3) (x := (.tmp 6)) (p := ⟨b1, 0, none⟩) (v := .int .i64 a0.N) (by kernel_rfl) (by kernel_rfl) (by kernel_rfl) (loads_at 0 (hS7.blk 1 rfl) (by kernel_rfl) (by kernel_rfl)) ?_
  refine sx_run 1 (todo' := [.inRegion (opsOf (cd21 [1, 0, 0, 0])) [3, 4, 5], .code (cd21 [1, 0, 0, 1]), .inBlock 0, .code (cd21 [1, 1])]) (us := [(8, .pointer (some ⟨b5, 0, none⟩))]) (by kernel_rfl) ?_
  refine r_load (c := (cd21 [1, 0, 0, 0])) (i := 3) (d := (some 9)) (ty := 3) (t := 3) (x := (.tmp 8)) (p := ⟨b5, 0, none⟩) (v := .int .i64 a1.N) (by kernel_rfl) (by kernel_rfl) (by kernel_rfl) (loads_at 0 (hS7.blk 0 rfl) (by kernel_rfl) (by kernel_rfl)) ?_
  refine sx_split 1 (todo' := [.inRegion (opsOf (cd21 [1, 0, 0, 0])) [5], .code (cd21 [1, 0, 0, 1]), .inBlock 0, .code (cd21 [1, 1])]) (us := []) (d := 10) (t := (decide (a0.N < a1.N))) (by kernel_rfl) (fun h9 => ?_) (fun h10 => ?_)
  · skip
    have hp11 := ite_t hp0 h9
    refine sx_run 7 (todo' := [.code (cd21 [1, 0, 0, 1, 0, 1]), .inBlock 0, .code (cd21 [1, 1])]) (us := [(5, .bool true), (4, .int .i64 (-1))]) (by kernel_rfl) ?_
    have hS12 := hS7.drop
    have hS13 := hS12.drop
    refine runs_ret (fn := Try.f21) (v := .int .i64 (-1)) Try.func21 (by kernel_rfl) ?_
    have hr14 := (Option.some.inj hp11)
    cases hr14
    exact hR _ _ ⟨rfl, hS13⟩
  · skip
    have hp15 := ite_f hp0 h10
    refine sx_run 6 (todo' := [.inRegion (opsOf (cd21 [1, 0, 0, 1, 1, 0])) [1, 2, 3, 4, 5], .code (cd21 [1, 0, 0, 1, 1, 1]), .inBlock 0, .code (cd21 [1, 1])]) (us := [(5, .bool false), (12, .pointer (some ⟨b1, 0, none⟩))]) (by kernel_rfl) ?_
    refine r_load (c := (cd21 [1, 0, 0, 1, 1, 0])) (i := 1) (d := (some 13)) (ty := 3) (t := 3) (x := (.tmp 12)) (p := ⟨b1, 0, none⟩) (v := .int .i64 a0.N) (by kernel_rfl) (by kernel_rfl) (by kernel_rfl) (loads_at 0 (hS7.blk 1 rfl) (by kernel_rfl) (by kernel_rfl)) ?_
    refine sx_run 1 (todo' := [.inRegion (opsOf (cd21 [1, 0, 0, 1, 1, 0])) [3, 4, 5], .code (cd21 [1, 0, 0, 1, 1, 1]), .inBlock 0, .code (cd21 [1, 1])]) (us := [(14, .pointer (some ⟨b5, 0, none⟩))]) (by kernel_rfl) ?_
    refine r_load (c := (cd21 [1, 0, 0, 1, 1, 0])) (i := 3) (d := (some 15)) (ty := 3) (t := 3) (x := (.tmp 14)) (p := ⟨b5, 0, none⟩) (v := .int .i64 a1.N) (by kernel_rfl) (by kernel_rfl) (by kernel_rfl) (loads_at 0 (hS7.blk 0 rfl) (by kernel_rfl) (by kernel_rfl)) ?_
    refine sx_split 1 (todo' := [.inRegion (opsOf (cd21 [1, 0, 0, 1, 1, 0])) [5], .code (cd21 [1, 0, 0, 1, 1, 1]), .inBlock 0, .code (cd21 [1, 1])]) (us := []) (d := 16) (t := (decide (a0.N > a1.N))) (by kernel_rfl) (fun h16 => ?_) (fun h17 => ?_)
    · skip
      have hp18 := ite_t hp15 h16
      refine sx_run 7 (todo' := [.code (cd21 [1, 0, 0, 1, 1, 1, 0, 1]), .inBlock 0, .code (cd21 [1, 1])]) (us := [(11, .bool true), (4, .int .i64 1)]) (by kernel_rfl) ?_
      have hS19 := hS7.drop
      have hS20 := hS19.drop
      refine runs_ret (fn := Try.f21) (v := .int .i64 1) Try.func21 (by kernel_rfl) ?_
      have hr21 := (Option.some.inj hp18)
      cases hr21
      exact hR _ _ ⟨rfl, hS20⟩
    · skip
      have hp22 := ite_f hp15 h17
      refine sx_run 6 (todo' := [.code (cd21 [1, 1, 0]), .code (cd21 [1, 1, 1])]) (us := [(11, .bool false)]) (by kernel_rfl) ?_
      have hS23 := hS7.pick1
      obtain ⟨Z24, hz25, hS26, hs27, -⟩ := hS23.lendblk
      obtain ⟨Z28, hz29, hS30, hs31, -⟩ := hS26.lendblk
      refine r_quiet hS30 (c := (cd21 [1, 1, 0])) (id := 5) (by kernel_rfl) (by kernel_rfl) (by kernel_rfl) (is := [0, 1, 2, 3, 4, 5]) (by kernel_rfl) ?_
      refine q_run 1 (is' := [1, 2, 3, 4, 5]) (us := [(17, .pointer (some ⟨b1, 1, none⟩))]) (by kernel_rfl) ?_
      obtain ⟨A32, c33, hr34, hs35⟩ := cutArrZ (zsub_api_Final_V (hs27.mono hz29)) (len_encI .i64) 0 48 (by omega) (by omega) (by omega)
      refine q_val (c := (cd21 [1, 1, 0])) (i := 1) (d := (some 18)) (ty := 64) (op := .slice 22 (.tmp 17) none none none) (v := .slice A32 ((a0.V.toList.take 48).drop 0).length c33) (by kernel_rfl) (by kernel_rfl) (fun w hC o ho _ => x_cutArr_nn (e := 2) (by kernel_rfl)  (by kernel_rfl) (by kernel_rfl) hr34 ho) ?_
      refine q_run 1 (is' := [3, 4, 5]) (us := [(19, .pointer (some ⟨b5, 1, none⟩))]) (by kernel_rfl) ?_
      obtain ⟨A37, c38, hr39, hs40⟩ := cutArrZ (zsub_api_Final_V hs31) (len_encI .i64) 0 48 (by omega) (by omega) (by omega)
      refine q_val (c := (cd21 [1, 1, 0])) (i := 3) (d := (some 20)) (ty := 64) (op := .slice 22 (.tmp 19) none none none) (v := .slice A37 ((a1.V.toList.take 48).drop 0).length c38) (by kernel_rfl) (by kernel_rfl) (fun w hC o ho _ => x_cutArr_nn (e := 2) (by kernel_rfl)  (by kernel_rfl) (by kernel_rfl) hr39 ho) ?_
      obtain ⟨t42, hr43, hp44⟩ := bind_some' hp22
      refine q_call1 (c := (cd21 [1, 1, 0])) (i := 4) (d := (some 21)) (v := .int .i64 t42) (g := 44) (args := #[.slice A32 ((a0.V.toList.take 48).drop 0).length c33, .slice A37 ((a1.V.toList.take 48).drop 0).length c38]) (by kernel_rfl) (by kernel_rfl) (by kernel_rfl) (by kernel_rfl) (fun w hC => by
        refine (slices_Compare___int64_int64.ok ((a0.V.toList.take 48).drop 0) ((a1.V.toList.take 48).drop 0) A32 c33 A37 c38 hC hs35 hs40 hr43).mono ?_
        rintro e w2 ⟨rfl, h2⟩
        exact ⟨rfl, h2⟩) ?_
      refine q_run 1 (is' := []) (us := [(4, .int .i64 t42)]) (by kernel_rfl) ?_
      refine Qs.nil ?_
      intro w45 hS46
      have hS47 := hS46.less (Zm.Le.trans hz25 hz29)
      refine runs_ret (fn := Try.f21) (v := .int .i64 t42) Try.func21 (by kernel_rfl) ?_
      have hr48 := (Option.some.inj hp44)
      cases hr48
      exact hR _ _ ⟨rfl, hS47⟩

noncomputable def cd43 (p : List Nat) : Code := sub (bodyOf Try.f43) p
def slices_Compact___api_Final_api_Final.l1 (a0 : List api_Final) (t16 : Int) (t74 : Int) (t75 : Int) (t76 : List api_Final) : Option (Int × (List api_Final)) :=
  (if (decide (t75 < (((a0.length - t16.toNat) : Nat) : Int))) = true then (if 0 ≤ t75 ∧ t75 < (((a0.length - t16.toNat) : Nat) : Int) ∧ ((t16.toNat : Nat) : Int) + t75 < (t76.length : Int) then (if 0 ≤ (IntKind.i64.wrap (t75 - 1)) ∧ (IntKind.i64.wrap (t75 - 1)) < (((a0.length - t16.toNat) : Nat) : Int) ∧ ((t16.toNat : Nat) : Int) + (IntKind.i64.wrap (t75 - 1)) < (t76.length : Int) then (if (!(decide ((gt t76 (((t16.toNat : Nat) : Int) + t75)) = (gt t76 (((t16.toNat : Nat) : Int) + (IntKind.i64.wrap (t75 - 1))))))) = true then (if 0 ≤ t75 ∧ t75 < (((a0.length - t16.toNat) : Nat) : Int) ∧ ((t16.toNat : Nat) : Int) + t75 < (t76.length : Int) then (if 0 ≤ t74 ∧ t74 < (t76.length : Int) then (slices_Compact___api_Final_api_Final.l1 a0 t16 (IntKind.i64.wrap (t74 + 1)) (IntKind.i64.wrap (t75 + 1)) (setl t76 t74 (gt t76 (((t16.toNat : Nat) : Int) + t75)))) else none) else none) else (slices_Compact___api_Final_api_Final.l1 a0 t16 t74 (IntKind.i64.wrap (t75 + 1)) t76)) else none) else none) else some ((t74, t76)))
 partial_fixpoint
def slices_Compact___api_Final_api_Final.l0 (a0 : List api_Final) (t16 : Int) : Option (Sum Unit (List api_Final)) :=
  (if (decide (t16 < (a0.length : Int))) = true then (if 0 ≤ t16 ∧ t16 < (a0.length : Int) then (if 0 ≤ (IntKind.i64.wrap (t16 - 1)) ∧ (IntKind.i64.wrap (t16 - 1)) < (a0.length : Int) then (if (decide ((gt a0 t16) = (gt a0 (IntKind.i64.wrap (t16 - 1))))) = true then (if 0 ≤ t16 ∧ t16 ≤ ((a0.length : Nat) : Int) then (slices_Compact___api_Final_api_Final.l1 a0 t16 t16 1 a0 >>= (fun (t52, t53) => (if 0 ≤ t52 ∧ t52 ≤ ((t53.length : Nat) : Int) then (if t52.toNat + (t53.length - t52.toNat) ≤ t53.length then (if 0 ≤ t52 ∧ t52 ≤ ((copyv t53 t52.toNat (t53.length - t52.toNat) (List.replicate (t53.length - t52.toNat) (⟨0, (Vector.replicate 48 0)⟩ : api_Final))).length : Int) then (if t52.toNat ≤ (copyv t53 t52.toNat (t53.length - t52.toNat) (List.replicate (t53.length - t52.toNat) (⟨0, (Vector.replicate 48 0)⟩ : api_Final))).length then some (.inr (((copyv t53 t52.toNat (t53.length - t52.toNat) (List.replicate (t53.length - t52.toNat) (⟨0, (Vector.replicate 48 0)⟩ : api_Final))).take t52.toNat))) else none) else none) else none) else none))) else none) else (slices_Compact___api_Final_api_Final.l0 a0 (IntKind.i64.wrap (t16 + 1)))) else none) else none) else some (.inl ()))
 partial_fixpoint
def slices_Compact___api_Final_api_Final.f (a0 : List api_Final) : Option (List api_Final) :=
  (if (decide ((a0.length : Int) < 2)) = true then some (a0) else (slices_Compact___api_Final_api_Final.l0 a0 1 >>= (fun | .inl () => some (a0) | .inr e => some e)))
set_option maxHeartbeats 16000000 in
theorem slices_Compact___api_Final_api_Final.ok (a0 : List api_Final) (Aa0 : Option Addr) (ca0 : Nat) {w0 : World} {Z : Zm} {fs : List XObj} {w : World} (hS0 : St w0 Z (xrow Aa0 ca0 24 49 (a0.flatMap enc_api_Final) :: fs) w) {q0 : List api_Final} (hp0 : slices_Compact___api_Final_api_Final.f a0 = some q0) :
    Calls Try.prog 43 #[.slice Aa0 a0.length ca0] w (fun e w' => ∃ (QA0 : Option Addr) (Qc0 : Nat), e = .returned (.slice QA0 q0.length Qc0) ∧ St w0 Z (xrow QA0 Qc0 24 49 (q0.flatMap enc_api_Final) :: fs) w') := by
  refine calls_abs ?_; intro R hR
  unfold slices_Compact___api_Final_api_Final.f at hp0
  refine calls_of_runs (fn := Try.f43) (c := cd43 []) Try.func43 (by kernel_rfl) (al := [.slice Aa0 a0.length ca0]) rfl (n := 60) rfl ?_
  refine sx_split 10 (todo' := [.inRegion (opsOf (cd43 [1, 0, 0])) [], .code (cd43 [1, 0, 1]), .code (cd43 [1, 1])]) (us := [(2, .slice none 0 0), (6, .slice Aa0 a0.length ca0), (7, .int .i64 (a0.length : Int))]) (d := 8) (t := (decide ((a0.length : Int) < 2))) (by kernel_rfl) (fun h1 => ?_) (fun h2 => ?_)
  · skip
    have hp3 := ite_t hp0 h1
    refine sx_run 7 (todo' := [.code (cd43 [1, 0, 1, 0, 1]), .code (cd43 [1, 1])]) (us := [(9, .slice Aa0 a0.length ca0), (2, .slice Aa0 a0.length ca0)]) (by kernel_rfl) ?_
    refine runs_ret (fn := Try.f43) (v := .slice Aa0 a0.length ca0) Try.func43 (by kernel_rfl) ?_
    have hr4 := (Option.some.inj hp3)
    cases hr4
    exact hR _ _ ⟨Aa0, ca0, rfl, hS0⟩
  · skip
    have hp5 := ite_f hp0 h2
    refine sx_run 10 (todo' := [.code (cd43 [1, 1, 0, 1, 0, 0]), .inLoop (cd43 [1, 1, 0, 1, 0, 0]), .inBlock 0, .code (cd43 [1, 1, 1])]) (us := [(3, .int .i64 1)]) (by kernel_rfl) ?_
    obtain ⟨v6, hv7, hp8⟩ := bind_some' hp5
    have hq11 : ∀ x, Sum.inr x = v6 → x = q0 := by intro x hx; subst hx; simpa using hp8
    have J12 : ∀ (he14 : Sum.inl () = v6) (l13 : List Value) (w9 : World) (hS10 : St w0 Z (xrow Aa0 ca0 24 49 (a0.flatMap enc_api_Final) :: fs) w9), Runs Try.prog 43 [.code (cd43 [1, 1, 1])] (fill [some (.slice Aa0 a0.length ca0), none, none, none, none, none, none, none, none, none, none, none, none, none, none, none, none, none, none, none, none, none, none, none, none, none, none, none, none, none, none, none, none, none, none, none, none, none, none, none, none, none, none, none, none, none, none, none, none, none, none, none, none, none, none, none, none, none, none, none, none] l13) w9 R := by
      intro he14 l13 w9 hS10
      subst he14
      try dsimp only at hp8
      refine sx_run 5 (todo' := [.code (cd43 [1, 1, 1, 1])]) (us := [(60, .slice Aa0 a0.length ca0), (2, .slice Aa0 a0.length ca0)]) (by kernel_rfl) ?_
      refine runs_ret (fn := Try.f43) (v := .slice Aa0 a0.length ca0) Try.func43 (by kernel_rfl) ?_
      have hr15 := (Option.some.inj hp8)
      cases hr15
      exact hR _ _ ⟨Aa0, ca0, rfl, hS10⟩
    have L25 : ∀ (t16 : Int) (e20 : Sum Unit (List api_Final)), slices_Compact___api_Final_api_Final.l0 a0 t16 = some e20 → e20 = v6 → ∀ (l19 : List Value) (w17 : World) (hS18 : St w0 Z (xrow Aa0 ca0 24 49 (a0.flatMap enc_api_Final) :: fs) w17), Runs Try.prog 43 [.code (cd43 [1, 1, 0, 1, 0, 0]), .inLoop (cd43 [1, 1, 0, 1, 0, 0]), .inBlock 0, .code (cd43 [1, 1, 1])] (fill [some (.slice Aa0 a0.length ca0), none, none, some (.int .i64 t16), none, none, none, none, none, none, none, none, none, none, none, none, none, none, none, none, none, none, none, none, none, none, none, none, none, none, none, none, none, none, none, none, none, none, none, none, none, none, none, none, none, none, none, none, none, none, none, none, none, none, none, none, none, none, none, none, none] l19) w17 R := by
      refine slices_Compact___api_Final_api_Final.l0.partial_correctness a0 (fun t16 e20 => e20 = v6 → ∀ (l19 : List Value) (w17 : World) (hS18 : St w0 Z (xrow Aa0 ca0 24 49 (a0.flatMap enc_api_Final) :: fs) w17), Runs Try.prog 43 [.code (cd43 [1, 1, 0, 1, 0, 0]), .inLoop (cd43 [1, 1, 0, 1, 0, 0]), .inBlock 0, .code (cd43 [1, 1, 1])] (fill [some (.slice Aa0 a0.length ca0), none, none, some (.int .i64 t16), none, none, none, none, none, none, none, none, none, none, none, none, none, none, none, none, none, none, none, none, none, none, none, none, none, none, none, none, none, none, none, none, none, none, none, none, none, none, none, none, none, none, none, none, none, none, none, none, none, none, none, none, none, none, none, none, none] l19) w17 R) ?_
      intro rec24 ih23 t16 e20 hb22 he21 l19 w17 hS18
      have hq26 : ∀ x, Sum.inr x = e20 → x = q0 := fun x hx => hq11 x (hx.trans he21)
      refine sx_split 7 (todo' := [.inRegion (opsOf (cd43 [1, 1, 0, 1, 0, 0, 0, 0])) [], .code (cd43 [1, 1, 0, 1, 0, 0, 0, 1]), .code (cd43 [1, 1, 0, 1, 0, 0, 1]), .inLoop (cd43 [1, 1, 0, 1, 0, 0]), .inBlock 0, .code (cd43 [1, 1, 1])]) (us := [(10, .int .i64 t16), (11, .slice Aa0 a0.length ca0), (12, .int .i64 (a0.length : Int))]) (d := 13) (t := (decide (t16 < (a0.length : Int)))) (by kernel_rfl) (fun h27 => ?_) (fun h28 => ?_)
      · skip
        have hp29 := ite_t hb22 h27
        refine sx_run 6 (todo' := [.code (cd43 [1, 1, 0, 1, 0, 0, 1, 0, 0, 0]), .code (cd43 [1, 1, 0, 1, 0, 0, 1, 0, 0, 1]), .inBlock 1, .code (cd43 [1, 1, 0, 1, 0, 0, 1, 1]), .inLoop (cd43 [1, 1, 0, 1, 0, 0]), .inBlock 0, .code (cd43 [1, 1, 1])]) (us := []) (by kernel_rfl) ?_
        refine r_quiet hS18 (c := (cd43 [1, 1, 0, 1, 0, 0, 1, 0, 0, 0])) (id := 6) (by kernel_rfl) (by kernel_rfl) (by kernel_rfl) (is := [0, 1, 2, 3, 4, 5, 6, 7, 8, 9]) (by kernel_rfl) ?_
        refine q_run 2 (is' := [2, 3, 4, 5, 6, 7, 8, 9]) (us := [(16, .slice Aa0 a0.length ca0), (17, .int .i64 t16)]) (by kernel_rfl) ?_
        obtain ⟨g30, hp31⟩ := ite_some hp29
        obtain ⟨b32, p33, hA34, -⟩ := (hS18.row 0 rfl).at_ len_api_Final (by omega) g30.1 g30.2
        refine q_indexAddr (c := (cd43 [1, 1, 0, 1, 0, 0, 1, 0, 0, 0])) (i := 2) (d := (some 18)) (ty := 0) (t := 36) (e := 24) (n := a0.length) (cp := ca0) (sz := 49) (kk := .i64) (x := (.tmp 16)) (y := (.tmp 17)) (b := b32) (o' := p33) (j := t16) (by kernel_rfl) (by kernel_rfl) (slv (by kernel_rfl) hA34) (by kernel_rfl) (by kernel_rfl) (by kernel_rfl) g30.1 g30.2 ?_
        refine q_load (c := (cd43 [1, 1, 0, 1, 0, 0, 1, 0, 0, 0])) (i := 3) (d := (some 19)) (ty := 24) (t := 24) (x := (.tmp 18)) (p := ⟨b32, p33 + t16.toNat * 49, none⟩) (v := .agg (enc_api_Final (gt a0 t16)).toArray) (by kernel_rfl) (by kernel_rfl) (by kernel_rfl) (fun w hC => (loads_agg ((hC.row 0 rfl).at2 hA34 len_api_Final (by omega) g30.1 g30.2) (by kernel_rfl) (lenK (len_api_Final _) (by kernel_rfl)))) ?_
        refine q_run 3 (is' := [7, 8, 9]) (us := [(20, .slice Aa0 a0.length ca0), (21, .int .i64 t16), (22, .int .i64 (IntKind.i64.wrap (t16 - 1)))]) (by kernel_rfl) ?_
        obtain ⟨g36, hp37⟩ := ite_some hp31
        obtain ⟨b38, p39, hA40, -⟩ := (hS18.row 0 rfl).at_ len_api_Final (by omega) g36.1 g36.2
        refine q_indexAddr (c := (cd43 [1, 1, 0, 1, 0, 0, 1, 0, 0, 0])) (i := 7) (d := (some 23)) (ty := 0) (t := 36) (e := 24) (n := a0.length) (cp := ca0) (sz := 49) (kk := .i64) (x := (.tmp 20)) (y := (.tmp 22)) (b := b38) (o' := p39) (j := (IntKind.i64.wrap (t16 - 1))) (by kernel_rfl) (by kernel_rfl) (slv (by kernel_rfl) hA40) (by kernel_rfl) (by kernel_rfl) (by kernel_rfl) g36.1 g36.2 ?_
        refine q_load (c := (cd43 [1, 1, 0, 1, 0, 0, 1, 0, 0, 0])) (i := 8) (d := (some 24)) (ty := 24) (t := 24) (x := (.tmp 23)) (p := ⟨b38, p39 + (IntKind.i64.wrap (t16 - 1)).toNat * 49, none⟩) (v := .agg (enc_api_Final (gt a0 (IntKind.i64.wrap (t16 - 1)))).toArray) (by kernel_rfl) (by kernel_rfl) (by kernel_rfl) (fun w hC => (loads_agg ((hC.row 0 rfl).at2 hA40 len_api_Final (by omega) g36.1 g36.2) (by kernel_rfl) (lenK (len_api_Final _) (by kernel_rfl)))) ?_
        refine q_val (c := (cd43 [1, 1, 0, 1, 0, 0, 1, 0, 0, 0])) (i := 9) (d := (some 25)) (ty := 4) (op := .binOp .eql 24 (.tmp 19) (.tmp 24) 24) (v := .bool (decide ((gt a0 t16) = (gt a0 (IntKind.i64.wrap (t16 - 1)))))) (by kernel_rfl) (by kernel_rfl) (fun w hC o ho _ => x_eql_api_Final (by kernel_rfl) (by kernel_rfl) ho) ?_
        refine q_split (decide ((gt a0 t16) = (gt a0 (IntKind.i64.wrap (t16 - 1))))) (fun h42 => ?_) (fun h43 => ?_)
        · skip
          have hp44 := ite_t hp37 h42
          refine Qs.nil ?_
          intro w45 hS46
          refine sx_run 5 (todo' := [.inRegion (opsOf (cd43 [1, 1, 0, 1, 0, 0, 1, 0, 0, 1, 0, 0])) [2, 3], .code (cd43 [1, 1, 0, 1, 0, 0, 1, 0, 0, 1, 0, 1]), .inBlock 1, .code (cd43 [1, 1, 0, 1, 0, 0, 1, 1]), .inLoop (cd43 [1, 1, 0, 1, 0, 0]), .inBlock 0, .code (cd43 [1, 1, 1])]) (us := [(26, .slice Aa0 a0.length ca0), (27, .int .i64 t16)]) (by kernel_rfl) ?_
          obtain ⟨g47, hp48⟩ := ite_some hp44
          refine r_val (c := (cd43 [1, 1, 0, 1, 0, 0, 1, 0, 0, 1, 0, 0])) (i := 2) (d := (some 28)) (ty := 36) (op := .slice 36 (.tmp 26) (some (.tmp 27)) none none) (v := .slice (vA Aa0 ca0 t16.toNat 49) (a0.length - t16.toNat) (ca0 - t16.toNat)) (by kernel_rfl) (by kernel_rfl) (fun o ho _ => x_cutSl_sn (e := 24) (sz := 49) (A := Aa0) (n := a0.length) (c := ca0) (k := .i64) (by kernel_rfl) (by kernel_rfl) (by kernel_rfl) (by kernel_rfl) g47 rfl ho) ?_
          refine sx_run 9 (todo' := [.code (cd43 [1, 1, 0, 1, 0, 0, 1, 0, 0, 1, 0, 1, 0, 1, 0, 0]), .inLoop (cd43 [1, 1, 0, 1, 0, 0, 1, 0, 0, 1, 0, 1, 0, 1, 0, 0]), .inBlock 2, .code (cd43 [1, 1, 0, 1, 0, 0, 1, 0, 0, 1, 0, 1, 1]), .inBlock 1, .code (cd43 [1, 1, 0, 1, 0, 0, 1, 1]), .inLoop (cd43 [1, 1, 0, 1, 0, 0]), .inBlock 0, .code (cd43 [1, 1, 1])]) (us := [(4, .slice (vA Aa0 ca0 t16.toNat 49) (a0.length - t16.toNat) (ca0 - t16.toNat)), (5, .int .i64 1)]) (by kernel_rfl) ?_
          obtain ⟨v49, hv50, hp51⟩ := bind_some' hp48
          have J56 : ∀ (t52 : Int) (t53 : List api_Final) (he58 : (t52, t53) = v49) (l57 : List Value) (w54 : World) (hS55 : St w0 Z (xrow Aa0 ca0 24 49 (t53.flatMap enc_api_Final) :: fs) w54), Runs Try.prog 43 [.code (cd43 [1, 1, 0, 1, 0, 0, 1, 0, 0, 1, 0, 1, 1]), .inBlock 1, .code (cd43 [1, 1, 0, 1, 0, 0, 1, 1]), .inLoop (cd43 [1, 1, 0, 1, 0, 0]), .inBlock 0, .code (cd43 [1, 1, 1])] (fill [some (.slice Aa0 t53.length ca0), none, none, some (.int .i64 t52), none, none, none, none, none, none, none, none, none, none, none, none, none, none, none, none, none, none, none, none, none, none, none, none, none, none, none, none, none, none, none, none, none, none, none, none, none, none, none, none, none, none, none, none, none, none, none, none, none, none, none, none, none, none, none, none, none] l57) w54 R := by
            intro t52 t53 he58 l57 w54 hS55
            subst he58
            try dsimp only at hp51
            refine sx_run 4 (todo' := [.inRegion (opsOf (cd43 [1, 1, 0, 1, 0, 0, 1, 0, 0, 1, 0, 1, 1, 0])) [2, 3], .code (cd43 [1, 1, 0, 1, 0, 0, 1, 0, 0, 1, 0, 1, 1, 1]), .inBlock 1, .code (cd43 [1, 1, 0, 1, 0, 0, 1, 1]), .inLoop (cd43 [1, 1, 0, 1, 0, 0]), .inBlock 0, .code (cd43 [1, 1, 1])]) (us := [(54, .slice Aa0 t53.length ca0), (55, .int .i64 t52)]) (by kernel_rfl) ?_
            obtain ⟨g59, hp60⟩ := ite_some hp51
            refine r_val (c := (cd43 [1, 1, 0, 1, 0, 0, 1, 0, 0, 1, 0, 1, 1, 0])) (i := 2) (d := (some 56)) (ty := 36) (op := .slice 36 (.tmp 54) (some (.tmp 55)) none none) (v := .slice (vA Aa0 ca0 t52.toNat 49) (t53.length - t52.toNat) (ca0 - t52.toNat)) (by kernel_rfl) (by kernel_rfl) (fun o ho _ => x_cutSl_sn (e := 24) (sz := 49) (A := Aa0) (n := t53.length) (c := ca0) (k := .i64) (by kernel_rfl) (by kernel_rfl) (by kernel_rfl) (by kernel_rfl) g59 rfl ho) ?_
            obtain ⟨g61, hp62⟩ := ite_some hp60
            refine r_clearV (c := (cd43 [1, 1, 0, 1, 0, 0, 1, 0, 0, 1, 0, 1, 1, 0])) (i := 3) (d := none) (ty := 0) (enc := enc_api_Final) (e := 24) (t := 36) (sz := 49) (cp := ca0) (L := t52.toNat) (n := (t53.length - t52.toNat)) (A := Aa0) (xs := t53) (s := (.tmp 56)) (z := .agg (enc_api_Final (⟨0, (Vector.replicate 48 0)⟩ : api_Final)).toArray) (z0 := (⟨0, (Vector.replicate 48 0)⟩ : api_Final)) hS55 (by kernel_rfl) (by kernel_rfl) (by kernel_rfl) (by kernel_rfl) (by kernel_rfl) rfl (by omega) len_api_Final one_api_Final g61 ?_
            intro w63 hS64
            refine Runs.fill (m := [some (.slice Aa0 t53.length ca0), none, none, none, none, none, none, none, none, none, none, none, none, none, none, none, none, none, none, none, none, none, none, none, none, none, none, none, none, none, none, none, none, none, none, none, none, none, none, none, none, none, none, none, none, none, none, none, none, none, none, none, none, none, some (.slice Aa0 t53.length ca0), none, none, none, none, none, none]) (by kernel_rfl) ?_
            refine Runs.refill (m' := [some (.slice Aa0 (copyv t53 t52.toNat (t53.length - t52.toNat) (List.replicate (t53.length - t52.toNat) (⟨0, (Vector.replicate 48 0)⟩ : api_Final))).length ca0), none, none, none, none, none, none, none, none, none, none, none, none, none, none, none, none, none, none, none, none, none, none, none, none, none, none, none, none, none, none, none, none, none, none, none, none, none, none, none, none, none, none, none, none, none, none, none, none, none, none, none, none, none, some (.slice Aa0 (copyv t53 t52.toNat (t53.length - t52.toNat) (List.replicate (t53.length - t52.toNat) (⟨0, (Vector.replicate 48 0)⟩ : api_Final))).length ca0), none, none, none, none, none, none]) (by simp only [copyv_len g61]) ?_
            refine sx_run 5 (todo' := [.inRegion (opsOf (cd43 [1, 1, 0, 1, 0, 0, 1, 0, 0, 1, 0, 1, 1, 1, 0])) [2, 3], .code (cd43 [1, 1, 0, 1, 0, 0, 1, 0, 0, 1, 0, 1, 1, 1, 1]), .inBlock 1, .code (cd43 [1, 1, 0, 1, 0, 0, 1, 1]), .inLoop (cd43 [1, 1, 0, 1, 0, 0]), .inBlock 0, .code (cd43 [1, 1, 1])]) (us := [(57, .slice Aa0 (copyv t53 t52.toNat (t53.length - t52.toNat) (List.replicate (t53.length - t52.toNat) (⟨0, (Vector.replicate 48 0)⟩ : api_Final))).length ca0), (58, .int .i64 t52)]) (by kernel_rfl) ?_
            obtain ⟨g65, hp66⟩ := ite_some hp62
            have hc67 := (hS64.row 0 rfl).cap len_api_Final (by omega)
            have g68 : 0 ≤ t52 ∧ t52 ≤ (ca0 : Int) := by omega
            refine r_val (c := (cd43 [1, 1, 0, 1, 0, 0, 1, 0, 0, 1, 0, 1, 1, 1, 0])) (i := 2) (d := (some 59)) (ty := 36) (op := .slice 36 (.tmp 57) none (some (.tmp 58)) none) (v := .slice Aa0 t52.toNat ca0) (by kernel_rfl) (by kernel_rfl) (fun o ho _ => x_cutSl_nsC (e := 24) (sz := 49) (A := Aa0) (n := (copyv t53 t52.toNat (t53.length - t52.toNat) (List.replicate (t53.length - t52.toNat) (⟨0, (Vector.replicate 48 0)⟩ : api_Final))).length) (c := ca0) (k := .i64) (by kernel_rfl) (by kernel_rfl) (by kernel_rfl) (by kernel_rfl) g68 cut0 ho) ?_
            refine sx_run 2 (todo' := [.code (cd43 [1, 1, 0, 1, 0, 0, 1, 0, 0, 1, 0, 1, 1, 1, 1]), .inBlock 1, .code (cd43 [1, 1, 0, 1, 0, 0, 1, 1]), .inLoop (cd43 [1, 1, 0, 1, 0, 0]), .inBlock 0, .code (cd43 [1, 1, 1])]) (us := [(2, .slice Aa0 t52.toNat ca0)]) (by kernel_rfl) ?_
            obtain ⟨g69, hp70⟩ := ite_some hp66
            have hS71 := hS64.cutrow0 t52.toNat g69 len_api_Final
            refine runs_ret (fn := Try.f43) (v := .slice Aa0 t52.toNat ca0) Try.func43 (by kernel_rfl) ?_
            have hr73 := (hq26 _ (Option.some.inj hp70))
            cases hr73
            exact hR _ _ ⟨Aa0, ca0, (by rw [lenTake g69]), hS71⟩
          have L85 : ∀ (t74 : Int) (t75 : Int) (t76 : List api_Final) (e80 : (Int × (List api_Final))), slices_Compact___api_Final_api_Final.l1 a0 t16 t74 t75 t76 = some e80 → e80 = v49 → ∀ (l79 : List Value) (w77 : World) (hS78 : St w0 Z (xrow Aa0 ca0 24 49 (t76.flatMap enc_api_Final) :: fs) w77), Runs Try.prog 43 [.code (cd43 [1, 1, 0, 1, 0, 0, 1, 0, 0, 1, 0, 1, 0, 1, 0, 0]), .inLoop (cd43 [1, 1, 0, 1, 0, 0, 1, 0, 0, 1, 0, 1, 0, 1, 0, 0]), .inBlock 2, .code (cd43 [1, 1, 0, 1, 0, 0, 1, 0, 0, 1, 0, 1, 1]), .inBlock 1, .code (cd43 [1, 1, 0, 1, 0, 0, 1, 1]), .inLoop (cd43 [1, 1, 0, 1, 0, 0]), .inBlock 0, .code (cd43 [1, 1, 1])] (fill [some (.slice Aa0 t76.length ca0), none, none, some (.int .i64 t74), some (.slice (vA Aa0 ca0 t16.toNat 49) (a0.length - t16.toNat) (ca0 - t16.toNat)), some (.int .i64 t75), none, none, none, none, none, none, none, none, none, none, none, none, none, none, none, none, none, none, none, none, none, none, none, none, none, none, none, none, none, none, none, none, none, none, none, none, none, none, none, none, none, none, none, none, none, none, none, none, none, none, none, none, none, none, none] l79) w77 R := by
            refine slices_Compact___api_Final_api_Final.l1.partial_correctness a0 t16 (fun t74 t75 t76 e80 => e80 = v49 → ∀ (l79 : List Value) (w77 : World) (hS78 : St w0 Z (xrow Aa0 ca0 24 49 (t76.flatMap enc_api_Final) :: fs) w77), Runs Try.prog 43 [.code (cd43 [1, 1, 0, 1, 0, 0, 1, 0, 0, 1, 0, 1, 0, 1, 0, 0]), .inLoop (cd43 [1, 1, 0, 1, 0, 0, 1, 0, 0, 1, 0, 1, 0, 1, 0, 0]), .inBlock 2, .code (cd43 [1, 1, 0, 1, 0, 0, 1, 0, 0, 1, 0, 1, 1]), .inBlock 1, .code (cd43 [1, 1, 0, 1, 0, 0, 1, 1]), .inLoop (cd43 [1, 1, 0, 1, 0, 0]), .inBlock 0, .code (cd43 [1, 1, 1])] (fill [some (.slice Aa0 t76.length ca0), none, none, some (.int .i64 t74), some (.slice (vA Aa0 ca0 t16.toNat 49) (a0.length - t16.toNat) (ca0 - t16.toNat)), some (.int .i64 t75), none, none, none, none, none, none, none, none, none, none, none, none, none, none, none, none, none, none, none, none, none, none, none, none, none, none, none, none, none, none, none, none, none, none, none, none, none, none, none, none, none, none, none, none, none, none, none, none, none, none, none, none, none, none, none] l79) w77 R) ?_
            intro rec84 ih83 t74 t75 t76 e80 hb82 he81 l79 w77 hS78
            refine sx_split 7 (todo' := [.inRegion (opsOf (cd43 [1, 1, 0, 1, 0, 0, 1, 0, 0, 1, 0, 1, 0, 1, 0, 0, 0, 0])) [], .code (cd43 [1, 1, 0, 1, 0, 0, 1, 0, 0, 1, 0, 1, 0, 1, 0, 0, 0, 1]), .code (cd43 [1, 1, 0, 1, 0, 0, 1, 0, 0, 1, 0, 1, 0, 1, 0, 0, 1]), .inLoop (cd43 [1, 1, 0, 1, 0, 0, 1, 0, 0, 1, 0, 1, 0, 1, 0, 0]), .inBlock 2, .code (cd43 [1, 1, 0, 1, 0, 0, 1, 0, 0, 1, 0, 1, 1]), .inBlock 1, .code (cd43 [1, 1, 0, 1, 0, 0, 1, 1]), .inLoop (cd43 [1, 1, 0, 1, 0, 0]), .inBlock 0, .code (cd43 [1, 1, 1])]) (us := [(29, .int .i64 t75), (30, .slice (vA Aa0 ca0 t16.toNat 49) (a0.length - t16.toNat) (ca0 - t16.toNat)), (31, .int .i64 (((a0.length - t16.toNat) : Nat) : Int))]) (d := 32) (t := (decide (t75 < (((a0.length - t16.toNat) : Nat) : Int)))) (by kernel_rfl) (fun h86 => ?_) (fun h87 => ?_)
            · skip
              have hp88 := ite_t hb82 h86
              refine sx_run 6 (todo' := [.code (cd43 [1, 1, 0, 1, 0, 0, 1, 0, 0, 1, 0, 1, 0, 1, 0, 0, 1, 0, 0, 0]), .code (cd43 [1, 1, 0, 1, 0, 0, 1, 0, 0, 1, 0, 1, 0, 1, 0, 0, 1, 0, 0, 1]), .inBlock 3, .code (cd43 [1, 1, 0, 1, 0, 0, 1, 0, 0, 1, 0, 1, 0, 1, 0, 0, 1, 1]), .inLoop (cd43 [1, 1, 0, 1, 0, 0, 1, 0, 0, 1, 0, 1, 0, 1, 0, 0]), .inBlock 2, .code (cd43 [1, 1, 0, 1, 0, 0, 1, 0, 0, 1, 0, 1, 1]), .inBlock 1, .code (cd43 [1, 1, 0, 1, 0, 0, 1, 1]), .inLoop (cd43 [1, 1, 0, 1, 0, 0]), .inBlock 0, .code (cd43 [1, 1, 1])]) (us := []) (by kernel_rfl) ?_
              refine r_quiet hS78 (c := (cd43 [1, 1, 0, 1, 0, 0, 1, 0, 0, 1, 0, 1, 0, 1, 0, 0, 1, 0, 0, 0])) (id := 11) (by kernel_rfl) (by kernel_rfl) (by kernel_rfl) (is := [0, 1, 2, 3, 4, 5, 6, 7, 8, 9]) (by kernel_rfl) ?_
              refine q_run 2 (is' := [2, 3, 4, 5, 6, 7, 8, 9]) (us := [(35, .slice (vA Aa0 ca0 t16.toNat 49) (a0.length - t16.toNat) (ca0 - t16.toNat)), (36, .int .i64 t75)]) (by kernel_rfl) ?_
              obtain ⟨g89, hp90⟩ := ite_some hp88
              obtain ⟨b91, p92, hA93, -⟩ := (hS78.row 0 rfl).at_ len_api_Final (by omega) (i := ((t16.toNat : Nat) : Int) + t75) (by omega) g89.2.2
              have g94 : 0 ≤ t75 ∧ ((t16.toNat : Nat) : Int) + t75 < (t76.length : Int) := ⟨g89.1, g89.2.2⟩
              have hc96 := (hS78.row 0 rfl).cap len_api_Final (by omega)
              have hA95 := vA_at (c := ca0) (sz := 49) (L := t16.toNat) hA93 (by omega)
              refine q_indexAddr (c := (cd43 [1, 1, 0, 1, 0, 0, 1, 0, 0, 1, 0, 1, 0, 1, 0, 0, 1, 0, 0, 0])) (i := 2) (d := (some 37)) (ty := 0) (t := 36) (e := 24) (n := (a0.length - t16.toNat)) (cp := (ca0 - t16.toNat)) (sz := 49) (kk := .i64) (x := (.tmp 35)) (y := (.tmp 36)) (b := b91) (o' := p92 + t16.toNat * 49) (j := t75) (by kernel_rfl) (by kernel_rfl) (slv (by kernel_rfl) hA95) (by kernel_rfl) (by kernel_rfl) (by kernel_rfl) g89.1 g89.2.1 ?_
              refine q_load (c := (cd43 [1, 1, 0, 1, 0, 0, 1, 0, 0, 1, 0, 1, 0, 1, 0, 0, 1, 0, 0, 0])) (i := 3) (d := (some 38)) (ty := 24) (t := 24) (x := (.tmp 37)) (p := ⟨b91, p92 + t16.toNat * 49 + t75.toNat * 49, none⟩) (v := .agg (enc_api_Final (gt t76 (((t16.toNat : Nat) : Int) + t75))).toArray) (by kernel_rfl) (by kernel_rfl) (by kernel_rfl) (fun w hC => (loads_agg ((hC.row 0 rfl).at2v hA93 len_api_Final (by omega) g94.1 g94.2) (by kernel_rfl) (lenK (len_api_Final _) (by kernel_rfl)))) ?_
              refine q_run 3 (is' := [7, 8, 9]) (us := [(39, .slice (vA Aa0 ca0 t16.toNat 49) (a0.length - t16.toNat) (ca0 - t16.toNat)), (40, .int .i64 t75), (41, .int .i64 (IntKind.i64.wrap (t75 - 1)))]) (by kernel_rfl) ?_
              obtain ⟨g97, hp98⟩ := ite_some hp90
              obtain ⟨b99, p100, hA101, -⟩ := (hS78.row 0 rfl).at_ len_api_Final (by omega) (i := ((t16.toNat : Nat) : Int) + (IntKind.i64.wrap (t75 - 1))) (by omega) g97.2.2
              have g102 : 0 ≤ (IntKind.i64.wrap (t75 - 1)) ∧ ((t16.toNat : Nat) : Int) + (IntKind.i64.wrap (t75 - 1)) < (t76.length : Int) := ⟨g97.1, g97.2.2⟩
              have hc104 := (hS78.row 0 rfl).cap len_api_Final (by omega)
              have hA103 := vA_at (c := ca0) (sz := 49) (L := t16.toNat) hA101 (by omega)
              refine q_indexAddr (c := (cd43 [1, 1, 0, 1, 0, 0, 1, 0, 0, 1, 0, 1, 0, 1, 0, 0, 1, 0, 0, 0])) (i := 7) (d := (some 42)) (ty := 0) (t := 36) (e := 24) (n := (a0.length - t16.toNat)) (cp := (ca0 - t16.toNat)) (sz := 49) (kk := .i64) (x := (.tmp 39)) (y := (.tmp 41)) (b := b99) (o' := p100 + t16.toNat * 49) (j := (IntKind.i64.wrap (t75 - 1))) (by kernel_rfl) (by kernel_rfl) (slv (by kernel_rfl) hA103) (by kernel_rfl) (by kernel_rfl) (by kernel_rfl) g97.1 g97.2.1 ?_
              refine q_load (c := (cd43 [1, 1, 0, 1, 0, 0, 1, 0, 0, 1, 0, 1, 0, 1, 0, 0, 1, 0, 0, 0])) (i := 8) (d := (some 43)) (ty := 24) (t := 24) (x := (.tmp 42)) (p := ⟨b99, p100 + t16.toNat * 49 + (IntKind.i64.wrap (t75 - 1)).toNat * 49, none⟩) (v := .agg (enc_api_Final (gt t76 (((t16.toNat : Nat) : Int) + (IntKind.i64.wrap (t75 - 1))))).toArray) (by kernel_rfl) (by kernel_rfl) (by kernel_rfl) (fun w hC => (loads_agg ((hC.row 0 rfl).at2v hA101 len_api_Final (by omega) g102.1 g102.2) (by kernel_rfl) (lenK (len_api_Final _) (by kernel_rfl)))) ?_
              refine q_val (c := (cd43 [1, 1, 0, 1, 0, 0, 1, 0, 0, 1, 0, 1, 0, 1, 0, 0, 1, 0, 0, 0])) (i := 9) (d := (some 44)) (ty := 4) (op := .binOp .neq 24 (.tmp 38) (.tmp 43) 24) (v := .bool (!(decide ((gt t76 (((t16.toNat : Nat) : Int) + t75)) = (gt t76 (((t16.toNat : Nat) : Int) + (IntKind.i64.wrap (t75 - 1)))))))) (by kernel_rfl) (by kernel_rfl) (fun w hC o ho _ => x_neq_api_Final (by kernel_rfl) (by kernel_rfl) ho) ?_
              refine q_split (!(decide ((gt t76 (((t16.toNat : Nat) : Int) + t75)) = (gt t76 (((t16.toNat : Nat) : Int) + (IntKind.i64.wrap (t75 - 1))))))) (fun h105 => ?_) (fun h106 => ?_)
              · skip
                have hp107 := ite_t hp98 h105
                refine Qs.nil ?_
                intro w108 hS109
                refine sx_run 7 (todo' := [.inRegion (opsOf (cd43 [1, 1, 0, 1, 0, 0, 1, 0, 0, 1, 0, 1, 0, 1, 0, 0, 1, 0, 0, 1, 0, 0])) [4, 5, 6, 7], .code (cd43 [1, 1, 0, 1, 0, 0, 1, 0, 0, 1, 0, 1, 0, 1, 0, 0, 1, 0, 0, 1, 0, 1]), .inBlock 3, .code (cd43 [1, 1, 0, 1, 0, 0, 1, 0, 0, 1, 0, 1, 0, 1, 0, 0, 1, 1]), .inLoop (cd43 [1, 1, 0, 1, 0, 0, 1, 0, 0, 1, 0, 1, 0, 1, 0, 0]), .inBlock 2, .code (cd43 [1, 1, 0, 1, 0, 0, 1, 0, 0, 1, 0, 1, 1]), .inBlock 1, .code (cd43 [1, 1, 0, 1, 0, 0, 1, 1]), .inLoop (cd43 [1, 1, 0, 1, 0, 0]), .inBlock 0, .code (cd43 [1, 1, 1])]) (us := [(45, .slice Aa0 t76.length ca0), (46, .int .i64 t74), (47, .slice (vA Aa0 ca0 t16.toNat 49) (a0.length - t16.toNat) (ca0 - t16.toNat)), (48, .int .i64 t75)]) (by kernel_rfl) ?_
                obtain ⟨g110, hp111⟩ := ite_some hp107
                obtain ⟨b112, p113, hA114, -⟩ := (hS109.row 0 rfl).at_ len_api_Final (by omega) (i := ((t16.toNat : Nat) : Int) + t75) (by omega) g110.2.2
                have g115 : 0 ≤ t75 ∧ ((t16.toNat : Nat) : Int) + t75 < (t76.length : Int) := ⟨g110.1, g110.2.2⟩
                have hc117 := (hS109.row 0 rfl).cap len_api_Final (by omega)
                have hA116 := vA_at (c := ca0) (sz := 49) (L := t16.toNat) hA114 (by omega)
                refine r_indexAddr (c := (cd43 [1, 1, 0, 1, 0, 0, 1, 0, 0, 1, 0, 1, 0, 1, 0, 0, 1, 0, 0, 1, 0, 0])) (i := 4) (d := (some 49)) (ty := 0) (t := 36) (e := 24) (n := (a0.length - t16.toNat)) (cp := (ca0 - t16.toNat)) (sz := 49) (kk := .i64) (x := (.tmp 47)) (y := (.tmp 48)) (b := b112) (o' := p113 + t16.toNat * 49) (j := t75) (by kernel_rfl) (by kernel_rfl) (slv (by kernel_rfl) hA116) (by kernel_rfl) (by kernel_rfl) (by kernel_rfl) g110.1 g110.2.1 ?_
                refine r_load (c := (cd43 [1, 1, 0, 1, 0, 0, 1, 0, 0, 1, 0, 1, 0, 1, 0, 0, 1, 0, 0, 1, 0, 0])) (i := 5) (d := (some 50)) (ty := 24) (t := 24) (x := (.tmp 49)) (p := ⟨b112, p113 + t16.toNat * 49 + t75.toNat * 49, none⟩) (v := .agg (enc_api_Final (gt t76 (((t16.toNat : Nat) : Int) + t75))).toArray) (by kernel_rfl) (by kernel_rfl) (by kernel_rfl) (loads_agg ((hS109.row 0 rfl).at2v hA114 len_api_Final (by omega) g115.1 g115.2) (by kernel_rfl) (lenK (len_api_Final _) (by kernel_rfl))) ?_
                obtain ⟨g118, hp119⟩ := ite_some hp111
                obtain ⟨b120, p121, hA122, -⟩ := (hS109.row 0 rfl).at_ len_api_Final (by omega) g118.1 g118.2
                refine r_indexAddr (c := (cd43 [1, 1, 0, 1, 0, 0, 1, 0, 0, 1, 0, 1, 0, 1, 0, 0, 1, 0, 0, 1, 0, 0])) (i := 6) (d := (some 51)) (ty := 0) (t := 36) (e := 24) (n := t76.length) (cp := ca0) (sz := 49) (kk := .i64) (x := (.tmp 45)) (y := (.tmp 46)) (b := b120) (o' := p121) (j := t74) (by kernel_rfl) (by kernel_rfl) (slv (by kernel_rfl) hA122) (by kernel_rfl) (by kernel_rfl) (by kernel_rfl) g118.1 g118.2 ?_
                refine r_storeEl (c := (cd43 [1, 1, 0, 1, 0, 0, 1, 0, 0, 1, 0, 1, 0, 1, 0, 0, 1, 0, 0, 1, 0, 0])) (i := 7) (d := none) (ty := 0) (enc := enc_api_Final) (e := 24) (t := 24) (sz := 49) (cp := ca0) (A := Aa0) (xs := t76) (x := (.tmp 51)) (y := (.tmp 50)) (el := gt t76 t74) (el' := (gt t76 (((t16.toNat : Nat) : Int) + t75))) (j := t74) (off := 0) (b := b120) (p := p121) (v := .agg (enc_api_Final (gt t76 (((t16.toNat : Nat) : Int) + t75))).toArray) (vs := enc_api_Final (gt t76 (((t16.toNat : Nat) : Int) + t75))) (ad := ⟨b120, p121 + t74.toNat * 49, none⟩) hS109 (by kernel_rfl) (by kernel_rfl) (by kernel_rfl) (by simp) (by kernel_rfl) hA122 g118 rfl len_api_Final (by kernel_rfl) (lenK (len_api_Final _) (by kernel_rfl)) (one_api_Final _) (by rw [len_api_Final]; omega) (by rw [len_api_Final]; omega) (over_all ((len_api_Final _).trans (len_api_Final _).symm)) ?_
                intro w124 hS125
                refine Runs.fill (m := [some (.slice Aa0 t76.length ca0), none, none, none, none, none, none, none, none, none, none, none, none, none, none, none, none, none, none, none, none, none, none, none, none, none, none, none, none, none, none, none, none, none, none, none, none, none, none, none, none, none, none, none, none, some (.slice Aa0 t76.length ca0), none, none, none, none, none, none, none, none, none, none, none, none, none, none, none]) (by kernel_rfl) ?_
                refine Runs.refill (m' := [some (.slice Aa0 (setl t76 t74 (gt t76 (((t16.toNat : Nat) : Int) + t75))).length ca0), none, none, none, none, none, none, none, none, none, none, none, none, none, none, none, none, none, none, none, none, none, none, none, none, none, none, none, none, none, none, none, none, none, none, none, none, none, none, none, none, none, none, none, none, some (.slice Aa0 (setl t76 t74 (gt t76 (((t16.toNat : Nat) : Int) + t75))).length ca0), none, none, none, none, none, none, none, none, none, none, none, none, none, none, none]) (by simp only [setl_len]) ?_
                refine sx_run 12 (todo' := [.inLoop (cd43 [1, 1, 0, 1, 0, 0, 1, 0, 0, 1, 0, 1, 0, 1, 0, 0]), .inBlock 2, .code (cd43 [1, 1, 0, 1, 0, 0, 1, 0, 0, 1, 0, 1, 1]), .inBlock 1, .code (cd43 [1, 1, 0, 1, 0, 0, 1, 1]), .inLoop (cd43 [1, 1, 0, 1, 0, 0]), .inBlock 0, .code (cd43 [1, 1, 1])]) (us := [(52, .int .i64 t74), (53, .int .i64 (IntKind.i64.wrap (t74 + 1))), (3, .int .i64 (IntKind.i64.wrap (t74 + 1))), (33, .int .i64 t75), (34, .int .i64 (IntKind.i64.wrap (t75 + 1))), (5, .int .i64 (IntKind.i64.wrap (t75 + 1)))]) (by kernel_rfl) ?_
                refine sx_run 1 (todo' := [.code (cd43 [1, 1, 0, 1, 0, 0, 1, 0, 0, 1, 0, 1, 0, 1, 0, 0]), .inLoop (cd43 [1, 1, 0, 1, 0, 0, 1, 0, 0, 1, 0, 1, 0, 1, 0, 0]), .inBlock 2, .code (cd43 [1, 1, 0, 1, 0, 0, 1, 0, 0, 1, 0, 1, 1]), .inBlock 1, .code (cd43 [1, 1, 0, 1, 0, 0, 1, 1]), .inLoop (cd43 [1, 1, 0, 1, 0, 0]), .inBlock 0, .code (cd43 [1, 1, 1])]) (us := []) (by kernel_rfl) ?_
                refine Runs.fill (m := [some (.slice Aa0 (setl t76 t74 (gt t76 (((t16.toNat : Nat) : Int) + t75))).length ca0), none, none, some (.int .i64 (IntKind.i64.wrap (t74 + 1))), some (.slice (vA Aa0 ca0 t16.toNat 49) (a0.length - t16.toNat) (ca0 - t16.toNat)), some (.int .i64 (IntKind.i64.wrap (t75 + 1))), none, none, none, none, none, none, none, none, none, none, none, none, none, none, none, none, none, none, none, none, none, none, none, none, none, none, none, none, none, none, none, none, none, none, none, none, none, none, none, none, none, none, none, none, none, none, none, none, none, none, none, none, none, none, none]) (by kernel_rfl) ?_
                exact ih83 (IntKind.i64.wrap (t74 + 1)) (IntKind.i64.wrap (t75 + 1)) (setl t76 t74 (gt t76 (((t16.toNat : Nat) : Int) + t75))) _ hp119 he81 _ _ hS125
              · skip
                have hp126 := ite_f hp98 h106
                refine Qs.nil ?_
                intro w127 hS128
                refine sx_run 8 (todo' := [.inLoop (cd43 [1, 1, 0, 1, 0, 0, 1, 0, 0, 1, 0, 1, 0, 1, 0, 0]), .inBlock 2, .code (cd43 [1, 1, 0, 1, 0, 0, 1, 0, 0, 1, 0, 1, 1]), .inBlock 1, .code (cd43 [1, 1, 0, 1, 0, 0, 1, 1]), .inLoop (cd43 [1, 1, 0, 1, 0, 0]), .inBlock 0, .code (cd43 [1, 1, 1])]) (us := [(33, .int .i64 t75), (34, .int .i64 (IntKind.i64.wrap (t75 + 1))), (5, .int .i64 (IntKind.i64.wrap (t75 + 1)))]) (by kernel_rfl) ?_
                refine sx_run 1 (todo' := [.code (cd43 [1, 1, 0, 1, 0, 0, 1, 0, 0, 1, 0, 1, 0, 1, 0, 0]), .inLoop (cd43 [1, 1, 0, 1, 0, 0, 1, 0, 0, 1, 0, 1, 0, 1, 0, 0]), .inBlock 2, .code (cd43 [1, 1, 0, 1, 0, 0, 1, 0, 0, 1, 0, 1, 1]), .inBlock 1, .code (cd43 [1, 1, 0, 1, 0, 0, 1, 1]), .inLoop (cd43 [1, 1, 0, 1, 0, 0]), .inBlock 0, .code (cd43 [1, 1, 1])]) (us := []) (by kernel_rfl) ?_
                refine Runs.fill (m := [some (.slice Aa0 t76.length ca0), none, none, some (.int .i64 t74), some (.slice (vA Aa0 ca0 t16.toNat 49) (a0.length - t16.toNat) (ca0 - t16.toNat)), some (.int .i64 (IntKind.i64.wrap (t75 + 1))), none, none, none, none, none, none, none, none, none, none, none, none, none, none, none, none, none, none, none, none, none, none, none, none, none, none, none, none, none, none, none, none, none, none, none, none, none, none, none, none, none, none, none, none, none, none, none, none, none, none, none, none, none, none, none]) (by kernel_rfl) ?_
                exact ih83 t74 (IntKind.i64.wrap (t75 + 1)) t76 _ hp126 he81 _ _ hS128
            · skip
              have hp129 := ite_f hb82 h87
              refine sx_run 3 (todo' := [.code (cd43 [1, 1, 0, 1, 0, 0, 1, 0, 0, 1, 0, 1, 1]), .inBlock 1, .code (cd43 [1, 1, 0, 1, 0, 0, 1, 1]), .inLoop (cd43 [1, 1, 0, 1, 0, 0]), .inBlock 0, .code (cd43 [1, 1, 1])]) (us := []) (by kernel_rfl) ?_
              refine Runs.fill (m := [some (.slice Aa0 t76.length ca0), none, none, some (.int .i64 t74), none, none, none, none, none, none, none, none, none, none, none, none, none, none, none, none, none, none, none, none, none, none, none, none, none, none, none, none, none, none, none, none, none, none, none, none, none, none, none, none, none, none, none, none, none, none, none, none, none, none, none, none, none, none, none, none, none]) (by kernel_rfl) ?_
              exact J56 t74 t76 ((Option.some.inj hp129).trans he81) _ _ hS78
          refine Runs.fill (m := [some (.slice Aa0 a0.length ca0), none, none, some (.int .i64 t16), some (.slice (vA Aa0 ca0 t16.toNat 49) (a0.length - t16.toNat) (ca0 - t16.toNat)), some (.int .i64 1), none, none, none, none, none, none, none, none, none, none, none, none, none, none, none, none, none, none, none, none, none, none, none, none, none, none, none, none, none, none, none, none, none, none, none, none, none, none, none, none, none, none, none, none, none, none, none, none, none, none, none, none, none, none, none]) (by kernel_rfl) ?_
          exact L85 t16 1 a0 _ hv50 rfl _ _ hS46
        · skip
          have hp130 := ite_f hp37 h43
          refine Qs.nil ?_
          intro w131 hS132
          refine sx_run 8 (todo' := [.inLoop (cd43 [1, 1, 0, 1, 0, 0]), .inBlock 0, .code (cd43 [1, 1, 1])]) (us := [(14, .int .i64 t16), (15, .int .i64 (IntKind.i64.wrap (t16 + 1))), (3, .int .i64 (IntKind.i64.wrap (t16 + 1)))]) (by kernel_rfl) ?_
          refine sx_run 1 (todo' := [.code (cd43 [1, 1, 0, 1, 0, 0]), .inLoop (cd43 [1, 1, 0, 1, 0, 0]), .inBlock 0, .code (cd43 [1, 1, 1])]) (us := []) (by kernel_rfl) ?_
          refine Runs.fill (m := [some (.slice Aa0 a0.length ca0), none, none, some (.int .i64 (IntKind.i64.wrap (t16 + 1))), none, none, none, none, none, none, none, none, none, none, none, none, none, none, none, none, none, none, none, none, none, none, none, none, none, none, none, none, none, none, none, none, none, none, none, none, none, none, none, none, none, none, none, none, none, none, none, none, none, none, none, none, none, none, none, none, none]) (by kernel_rfl) ?_
          exact ih23 (IntKind.i64.wrap (t16 + 1)) _ hp130 he21 _ _ hS132
      · skip
        have hp133 := ite_f hb22 h28
        refine sx_run 3 (todo' := [.code (cd43 [1, 1, 1])]) (us := []) (by kernel_rfl) ?_
        refine Runs.fill (m := [some (.slice Aa0 a0.length ca0), none, none, none, none, none, none, none, none, none, none, none, none, none, none, none, none, none, none, none, none, none, none, none, none, none, none, none, none, none, none, none, none, none, none, none, none, none, none, none, none, none, none, none, none, none, none, none, none, none, none, none, none, none, none, none, none, none, none, none, none]) (by kernel_rfl) ?_
        exact J12 ((Option.some.inj hp133).trans he21) _ _ hS18
    refine Runs.fill (m := [some (.slice Aa0 a0.length ca0), none, none, some (.int .i64 1), none, none, none, none, none, none, none, none, none, none, none, none, none, none, none, none, none, none, none, none, none, none, none, none, none, none, none, none, none, none, none, none, none, none, none, none, none, none, none, none, none, none, none, none, none, none, none, none, none, none, none, none, none, none, none, none, none]) (by kernel_rfl) ?_
    exact L25 1 _ hv7 rfl _ _ hS0

noncomputable def cd18 (p : List Nat) : Code := sub (bodyOf Try.f18) p
def state_Sort.l0 (a0 : List api_Final) (t29 : List api_Final) (t33 : Int) : Option (List api_Final) :=
  (if (decide (t33 < (a0.length : Int))) = true then (if 0 ≤ t33 ∧ t33 < (a0.length : Int) then (state_Check.f (gt a0 t33) >>= (fun t58 => (if (t58 == 0) = true then (if (t29.length + ([(gt a0 t33)] : List api_Final).length) * 392 ≤ 140737488355328 then (state_Sort.l0 a0 (t29 ++ ([(gt a0 t33)] : List api_Final)) (IntKind.i64.wrap (t33 + 1))) else none) else (state_Sort.l0 a0 t29 (IntKind.i64.wrap (t33 + 1)))))) else none) else some (t29))
 partial_fixpoint
def state_Sort.f (a0 : List api_Final) : Option (List api_Final) :=
  (state_Sort.l0 a0 [] 0 >>= (fun t4 => (if t4.length < 4611686018427387904 then (sortO state_Compare.f t4 >>= fun t15 => (slices_Compact___api_Final_api_Final.f t15 >>= (fun t20 => some (t20)))) else none)))
set_option maxHeartbeats 16000000 in
theorem state_Sort.ok (a0 : List api_Final) (Aa0 : Option Addr) (ca0 : Nat) {w0 : World} {Z : Zm} {fs : List XObj} {w : World} (hS0 : St w0 Z (fs) w) (ha0 : SlZ (flat enc_api_Final) 49 Z Aa0 ca0 a0) {q0 : List api_Final} (hp0 : state_Sort.f a0 = some q0) :
    Calls Try.prog 18 #[.slice Aa0 a0.length ca0] w (fun e w' => ∃ (QA0 : Option Addr) (Qc0 : Nat), e = .returned (.slice QA0 q0.length Qc0) ∧ St w0 Z (xrow QA0 Qc0 24 49 (q0.flatMap enc_api_Final) :: fs) w') := by
  refine calls_abs ?_; intro R hR
  unfold state_Sort.f at hp0
  refine calls_of_runs (fn := Try.f18) (c := cd18 []) Try.func18 (by kernel_rfl) (al := [.slice Aa0 a0.length ca0]) rfl (n := 23) rfl ?_
  refine sx_run 17 (todo' := [.code (cd18 [1, 1, 0, 1, 0, 0]), .inLoop (cd18 [1, 1, 0, 1, 0, 0]), .inBlock 0, .code (cd18 [1, 1, 1])]) (us := [(2, .slice none 0 0), (3, .slice none 0 0), (6, .slice Aa0 a0.length ca0), (7, .int .i64 (a0.length : Int)), (8, .int .i64 0)]) (by kernel_rfl) ?_
  obtain ⟨v1, hv2, hp3⟩ := bind_some' hp0
  have J10 : ∀ (t4 : List api_Final) (he12 : t4 = v1) (l11 : List Value) (A5 : Option Addr) (c6 : Nat) (w8 : World) (hS9 : St w0 Z (xrow A5 c6 24 49 (t4.flatMap enc_api_Final) :: fs) w8), Runs Try.prog 18 [.code (cd18 [1, 1, 1])] (fill [none, none, none, some (.slice A5 t4.length c6), none, none, none, none, none, none, none, none, none, none, none, none, none, none, none, none, none, none, none, none] l11) w8 R := by
    intro t4 he12 l11 A5 c6 w8 hS9
    subst he12
    try dsimp only at hp3
    refine sx_run 3 (todo' := [.inRegion (opsOf (cd18 [1, 1, 1, 0])) [1], .code (cd18 [1, 1, 1, 1])]) (us := [(20, .slice A5 t4.length c6)]) (by kernel_rfl) ?_
    obtain ⟨g13, hp14⟩ := ite_some hp3
    obtain ⟨t15, hr16, hp17⟩ := bind_some' hp14
    refine r_call1 (c := (cd18 [1, 1, 1, 0])) (i := 1) (d := (some 21)) (g := 42) (args := #[.slice A5 t4.length c6, .func (.func 21) #[] #[]]) (by kernel_rfl) (by kernel_rfl) (by kernel_rfl) (by kernel_rfl) (sort_calls0 (enc := enc_api_Final) (e := 24) (k := 49) (g := 21) (xs := t4) (ys := t15) (A := A5) (cp := c6) (cmp := state_Compare.f) sort42 (by kernel_rfl) (by kernel_rfl) len_api_Final one_api_Final (by omega) (enters_of Try.func21 (by kernel_rfl) rfl) hS9 (fun x y r W h => (state_Compare.ok x y (St.start0 W) h).mono fun e w' h => ⟨h.1, h.2.fr⟩) g13 hr16) ?_
    rintro _ w18 ⟨rfl, hS19⟩
    refine ⟨.tuple #[], rfl, ?_⟩
    refine Runs.fill (m := [none, none, none, some (.slice A5 t4.length c6), none, none, none, none, none, none, none, none, none, none, none, none, none, none, none, none, some (.slice A5 t4.length c6), none, none, none]) (by kernel_rfl) ?_
    refine Runs.refill (m' := [none, none, none, some (.slice A5 t15.length c6), none, none, none, none, none, none, none, none, none, none, none, none, none, none, none, none, some (.slice A5 t15.length c6), none, none, none]) (by simp only [sortO_len hr16]) ?_
    refine sx_run 4 (todo' := [.inRegion (opsOf (cd18 [1, 1, 1, 1, 0])) [1, 2], .code (cd18 [1, 1, 1, 1, 1])]) (us := [(22, .slice A5 t15.length c6)]) (by kernel_rfl) ?_
    obtain ⟨t20, hr23, hp24⟩ := bind_some' hp17
    refine r_call1 (c := (cd18 [1, 1, 1, 1, 0])) (i := 1) (d := (some 23)) (g := 43) (args := #[.slice A5 t15.length c6]) (by kernel_rfl) (by kernel_rfl) (by kernel_rfl) (by kernel_rfl) (slices_Compact___api_Final_api_Final.ok t15 A5 c6 hS19 hr23) ?_
    rintro _ w26 ⟨Q21, Q22, rfl, hS27⟩
    refine ⟨.slice Q21 t20.length Q22, rfl, ?_⟩
    refine sx_run 2 (todo' := [.code (cd18 [1, 1, 1, 1, 1])]) (us := [(2, .slice Q21 t20.length Q22)]) (by kernel_rfl) ?_
    refine runs_ret (fn := Try.f18) (v := .slice Q21 t20.length Q22) Try.func18 (by kernel_rfl) ?_
    have hr28 := (Option.some.inj hp24)
    cases hr28
    exact hR _ _ ⟨Q21, Q22, rfl, hS27⟩
  have L42 : ∀ (t29 : List api_Final) (t33 : Int) (e37 : (List api_Final)), state_Sort.l0 a0 t29 t33 = some e37 → e37 = v1 → ∀ (l36 : List Value) (A30 : Option Addr) (c31 : Nat) (w34 : World) (hS35 : St w0 Z (xrow A30 c31 24 49 (t29.flatMap enc_api_Final) :: fs) w34), Runs Try.prog 18 [.code (cd18 [1, 1, 0, 1, 0, 0]), .inLoop (cd18 [1, 1, 0, 1, 0, 0]), .inBlock 0, .code (cd18 [1, 1, 1])] (fill [none, none, none, some (.slice A30 t29.length c31), none, none, some (.slice Aa0 a0.length ca0), some (.int .i64 (a0.length : Int)), some (.int .i64 t33), none, none, none, none, none, none, none, none, none, none, none, none, none, none, none] l36) w34 R := by
    refine state_Sort.l0.partial_correctness a0 (fun t29 t33 e37 => e37 = v1 → ∀ (l36 : List Value) (A30 : Option Addr) (c31 : Nat) (w34 : World) (hS35 : St w0 Z (xrow A30 c31 24 49 (t29.flatMap enc_api_Final) :: fs) w34), Runs Try.prog 18 [.code (cd18 [1, 1, 0, 1, 0, 0]), .inLoop (cd18 [1, 1, 0, 1, 0, 0]), .inBlock 0, .code (cd18 [1, 1, 1])] (fill [none, none, none, some (.slice A30 t29.length c31), none, none, some (.slice Aa0 a0.length ca0), some (.int .i64 (a0.length : Int)), some (.int .i64 t33), none, none, none, none, none, none, none, none, none, none, none, none, none, none, none] l36) w34 R) ?_
    intro rec41 ih40 t29 t33 e37 hb39 he38 l36 A30 c31 w34 hS35
    refine sx_split 3 (todo' := [.inRegion (opsOf (cd18 [1, 1, 0, 1, 0, 0, 0])) [], .code (cd18 [1, 1, 0, 1, 0, 0, 1]), .inLoop (cd18 [1, 1, 0, 1, 0, 0]), .inBlock 0, .code (cd18 [1, 1, 1])]) (us := []) (d := 9) (t := (decide (t33 < (a0.length : Int)))) (by kernel_rfl) (fun h43 => ?_) (fun h44 => ?_)
    · skip
      have hp45 := ite_t hb39 h43
      refine sx_run 8 (todo' := [.inRegion (opsOf (cd18 [1, 1, 0, 1, 0, 0, 1, 1, 0, 0, 0])) [0, 1, 2, 3], .code (cd18 [1, 1, 0, 1, 0, 0, 1, 1, 0, 0, 1]), .inBlock 1, .code (cd18 [1, 1, 0, 1, 0, 0, 1, 1, 1]), .inLoop (cd18 [1, 1, 0, 1, 0, 0]), .inBlock 0, .code (cd18 [1, 1, 1])]) (us := []) (by kernel_rfl) ?_
      obtain ⟨g46, hp47⟩ := ite_some hp45
      obtain ⟨b48, p49, hA50, hc51⟩ := ha0.atF g46.1 g46.2
      refine r_indexAddr (c := (cd18 [1, 1, 0, 1, 0, 0, 1, 1, 0, 0, 0])) (i := 0) (d := (some 10)) (ty := 0) (t := 36) (e := 24) (n := a0.length) (cp := ca0) (sz := 49) (kk := .i64) (x := (.tmp 6)) (y := (.tmp 8)) (b := b48) (o' := p49) (j := t33) (by kernel_rfl) (by kernel_rfl) (slv (by kernel_rfl) hA50) (by kernel_rfl) (by kernel_rfl) (by kernel_rfl) g46.1 g46.2 ?_
      refine r_load (c := (cd18 [1, 1, 0, 1, 0, 0, 1, 1, 0, 0, 0])) (i := 1) (d := (some 11)) (ty := 24) (t := 24) (x := (.tmp 10)) (p := ⟨b48, p49 + t33.toNat * 49, none⟩) (v := .agg (enc_api_Final (gt a0 t33)).toArray) (by kernel_rfl) (by kernel_rfl) (by kernel_rfl) (loads_agg (hc51.cells hS35) (by kernel_rfl) (lenK (len_api_Final _) (by kernel_rfl))) ?_
      refine r_alloc (c := (cd18 [1, 1, 0, 1, 0, 0, 1, 1, 0, 0, 0])) (i := 2) (d := (some 5)) (ty := 0) (z := .agg (enc_api_Final (⟨0, (Vector.replicate 48 0)⟩ : api_Final)).toArray) (t := 24) (cs := enc_api_Final (⟨0, (Vector.replicate 48 0)⟩ : api_Final)) hS35 (by kernel_rfl) (by kernel_rfl) (by kernel_rfl) (by kernel_rfl) ?_
      intro b52 w53 hS54
      refine r_store (c := (cd18 [1, 1, 0, 1, 0, 0, 1, 1, 0, 0, 0])) (i := 3) (d := none) (ty := 0) (t := 24) (x := (.tmp 5)) (y := (.tmp 11)) (b := b52) (o := 0) (e := 24) (cs := enc_api_Final (⟨0, (Vector.replicate 48 0)⟩ : api_Final)) (v := .agg (enc_api_Final (gt a0 t33)).toArray) (vs := enc_api_Final (gt a0 t33)) (cs' := enc_api_Final (gt a0 t33)) hS54 (by kernel_rfl) (by kernel_rfl) (by kernel_rfl) (by kernel_rfl) (by kernel_rfl) (lenK (len_api_Final _) (by kernel_rfl)) (one_api_Final _) (by simp only [len_api_Final, List.length_cons, List.length_nil, List.length_append]; omega) (over_all ((len_api_Final _).trans (len_api_Final _).symm)) ?_
      intro w56 hS57
      refine sx_run 3 (todo' := [.inRegion (opsOf (cd18 [1, 1, 0, 1, 0, 0, 1, 1, 0, 0, 1, 0])) [0, 1, 2], .code (cd18 [1, 1, 0, 1, 0, 0, 1, 1, 0, 0, 1, 1]), .inBlock 1, .code (cd18 [1, 1, 0, 1, 0, 0, 1, 1, 1]), .inLoop (cd18 [1, 1, 0, 1, 0, 0]), .inBlock 0, .code (cd18 [1, 1, 1])]) (us := []) (by kernel_rfl) ?_
      refine r_load (c := (cd18 [1, 1, 0, 1, 0, 0, 1, 1, 0, 0, 1, 0])) (i := 0) (d := (some 12)) (ty := 24) (t := 24) (x := (.tmp 5)) (p := ⟨b52, 0, none⟩) (v := .agg (enc_api_Final (gt a0 t33)).toArray) (by kernel_rfl) (by kernel_rfl) (by kernel_rfl) (loads_agg (hS57.blk 0 rfl) (by kernel_rfl) (lenK (len_api_Final _) (by kernel_rfl))) ?_
      obtain ⟨t58, hr59, hp60⟩ := bind_some' hp47
      refine r_call1 (c := (cd18 [1, 1, 0, 1, 0, 0, 1, 1, 0, 0, 1, 0])) (i := 1) (d := (some 13)) (g := 19) (args := #[.agg (enc_api_Final (gt a0 t33)).toArray]) (by kernel_rfl) (by kernel_rfl) (by kernel_rfl) (by kernel_rfl) (state_Check.ok (gt a0 t33) hS57 hr59) ?_
      rintro _ w61 ⟨rfl, hS62⟩
      refine ⟨.int .i64 t58, rfl, ?_⟩
      refine sx_split 1 (todo' := [.inRegion (opsOf (cd18 [1, 1, 0, 1, 0, 0, 1, 1, 0, 0, 1, 0])) [], .code (cd18 [1, 1, 0, 1, 0, 0, 1, 1, 0, 0, 1, 1]), .inBlock 1, .code (cd18 [1, 1, 0, 1, 0, 0, 1, 1, 1]), .inLoop (cd18 [1, 1, 0, 1, 0, 0]), .inBlock 0, .code (cd18 [1, 1, 1])]) (us := []) (d := 14) (t := (t58 == 0)) (by kernel_rfl) (fun h63 => ?_) (fun h64 => ?_)
      · skip
        have hp65 := ite_t hp60 h63
        refine sx_run 4 (todo' := [.inRegion (opsOf (cd18 [1, 1, 0, 1, 0, 0, 1, 1, 0, 0, 1, 1, 0])) [1, 2, 3, 4], .inBlock 1, .code (cd18 [1, 1, 0, 1, 0, 0, 1, 1, 1]), .inLoop (cd18 [1, 1, 0, 1, 0, 0]), .inBlock 0, .code (cd18 [1, 1, 1])]) (us := [(15, .slice A30 t29.length c31)]) (by kernel_rfl) ?_
        refine r_load (c := (cd18 [1, 1, 0, 1, 0, 0, 1, 1, 0, 0, 1, 1, 0])) (i := 1) (d := (some 16)) (ty := 24) (t := 24) (x := (.tmp 5)) (p := ⟨b52, 0, none⟩) (v := .agg (enc_api_Final (gt a0 t33)).toArray) (by kernel_rfl) (by kernel_rfl) (by kernel_rfl) (loads_agg (hS62.blk 0 rfl) (by kernel_rfl) (lenK (len_api_Final _) (by kernel_rfl))) ?_
        refine r_lit (c := (cd18 [1, 1, 0, 1, 0, 0, 1, 1, 0, 0, 1, 1, 0])) (i := 2) (d := (some 17)) (ty := 36) (t := 36) (e := 24) (sz := 49) (n := 1) (parts := #[(0, (.tmp 16))]) (vs := [(0, .agg (enc_api_Final (gt a0 t33)).toArray)]) (z := zeroOf Try.prog 24) (cs' := ([(gt a0 t33)] : List api_Final).flatMap enc_api_Final) hS62 (by kernel_rfl) (by kernel_rfl) (by kernel_rfl) (by kernel_rfl) (by kernel_rfl) (by decide) (by decide) (by kernel_rfl) rfl (Parts.cons (c := enc_api_Final (gt a0 t33)) (by kernel_rfl) (len_api_Final _) Parts.nil) rfl ?_
        intro b67 w68 hS69
        have hS70 := hS69.pick2
        obtain ⟨g71, hp72⟩ := ite_some hp65
        refine r_append (c := (cd18 [1, 1, 0, 1, 0, 0, 1, 1, 0, 0, 1, 1, 0])) (i := 3) (d := (some 18)) (ty := 36) (enc := enc_api_Final) (e := 24) (u := 24) (t := 36) (t2 := 36) (sz := 49) (cp := c31) (A := A30) (bytes := 392) (xs := t29) (ys := ([(gt a0 t33)] : List api_Final)) (s := (.tmp 15)) (x := (.tmp 17)) (xv := .slice (some ⟨b67, 0, none⟩) ([(gt a0 t33)] : List api_Final).length 1) (info := infoOf Try.prog 24) (z := zeroOf Try.prog 24) (ycs := ([(gt a0 t33)] : List api_Final).flatMap enc_api_Final) hS70 (by kernel_rfl) (by kernel_rfl) (by kernel_rfl) (by kernel_rfl) (by kernel_rfl) (.inl (by kernel_rfl)) (by kernel_rfl) (by kernel_rfl) (by kernel_rfl) (by kernel_rfl) (by kernel_rfl) (by omega) len_api_Final one_api_Final (src_row (hS70.row 1 rfl) (by omega) len_api_Final) rfl g71 (by omega) ?_
        intro A73 c74 w75 hS76
        refine sx_run 7 (todo' := [.inLoop (cd18 [1, 1, 0, 1, 0, 0]), .inBlock 0, .code (cd18 [1, 1, 1])]) (us := [(3, .slice A73 (t29 ++ ([(gt a0 t33)] : List api_Final)).length c74), (19, .int .i64 (IntKind.i64.wrap (t33 + 1))), (8, .int .i64 (IntKind.i64.wrap (t33 + 1)))]) (by kernel_rfl) ?_
        have hS78 := hS76.pick1
        have hS79 := hS78.drop
        have hS80 := hS79.pick1
        have hS81 := hS80.drop
        refine sx_run 1 (todo' := [.code (cd18 [1, 1, 0, 1, 0, 0]), .inLoop (cd18 [1, 1, 0, 1, 0, 0]), .inBlock 0, .code (cd18 [1, 1, 1])]) (us := []) (by kernel_rfl) ?_
        refine Runs.fill (m := [none, none, none, some (.slice A73 (t29 ++ ([(gt a0 t33)] : List api_Final)).length c74), none, none, some (.slice Aa0 a0.length ca0), some (.int .i64 (a0.length : Int)), some (.int .i64 (IntKind.i64.wrap (t33 + 1))), none, none, none, none, none, none, none, none, none, none, none, none, none, none, none]) (by kernel_rfl) ?_
        exact ih40 (t29 ++ ([(gt a0 t33)] : List api_Final)) (IntKind.i64.wrap (t33 + 1)) _ hp72 he38 _ A73 c74 _ hS81
      · skip
        have hp82 := ite_f hp60 h64
        refine sx_run 8 (todo' := [.inLoop (cd18 [1, 1, 0, 1, 0, 0]), .inBlock 0, .code (cd18 [1, 1, 1])]) (us := [(19, .int .i64 (IntKind.i64.wrap (t33 + 1))), (8, .int .i64 (IntKind.i64.wrap (t33 + 1)))]) (by kernel_rfl) ?_
        have hS83 := hS62.drop
        refine sx_run 1 (todo' := [.code (cd18 [1, 1, 0, 1, 0, 0]), .inLoop (cd18 [1, 1, 0, 1, 0, 0]), .inBlock 0, .code (cd18 [1, 1, 1])]) (us := []) (by kernel_rfl) ?_
        refine Runs.fill (m := [none, none, none, some (.slice A30 t29.length c31), none, none, some (.slice Aa0 a0.length ca0), some (.int .i64 (a0.length : Int)), some (.int .i64 (IntKind.i64.wrap (t33 + 1))), none, none, none, none, none, none, none, none, none, none, none, none, none, none, none]) (by kernel_rfl) ?_
        exact ih40 t29 (IntKind.i64.wrap (t33 + 1)) _ hp82 he38 _ A30 c31 _ hS83
    · skip
      have hp84 := ite_f hb39 h44
      refine sx_run 4 (todo' := [.code (cd18 [1, 1, 1])]) (us := []) (by kernel_rfl) ?_
      refine Runs.fill (m := [none, none, none, some (.slice A30 t29.length c31), none, none, none, none, none, none, none, none, none, none, none, none, none, none, none, none, none, none, none, none]) (by kernel_rfl) ?_
      exact J10 t29 ((Option.some.inj hp84).trans he38) _ A30 c31 _ hS35
  have hS86 := hS0.nilrow none 24 49
  refine Runs.fill (m := [none, none, none, some (.slice none 0 0), none, none, some (.slice Aa0 a0.length ca0), some (.int .i64 (a0.length : Int)), some (.int .i64 0), none, none, none, none, none, none, none, none, none, none, none, none, none, none, none]) (by kernel_rfl) ?_
  exact L42 [] 0 _ hv2 rfl _ none 0 _ hS86

noncomputable def cd20 (p : List Nat) : Code := sub (bodyOf Try.f20) p
def weirref10_Check.l0 (a0 : api_Final) (t27 : Int) : Option (Sum Unit Int) :=
  (if (decide (t27 < 48)) = true then (if 0 ≤ t27 ∧ t27 < 48 then (if ((vget a0.V t27) != 0) = true then some (.inr (4)) else (weirref10_Check.l0 a0 (IntKind.i64.wrap (t27 + 1)))) else none) else some (.inl ()))
 partial_fixpoint
def weirref10_Check.f (a0 : api_Final) : Option Int :=
  (if (decide (a0.N < 0)) = true then some (4) else (if (decide (a0.N > 48)) = true then some (4) else (weirref10_Check.l0 a0 a0.N >>= (fun | .inl () => some (0) | .inr e => some e))))
set_option maxHeartbeats 16000000 in
theorem weirref10_Check.ok (a0 : api_Final) {w0 : World} {Z : Zm} {fs : List XObj} {w : World} (hS0 : St w0 Z (fs) w) {q0 : Int} (hp0 : weirref10_Check.f a0 = some q0) :
    Calls Try.prog 20 #[.agg (enc_api_Final a0).toArray] w (fun e w' => e = .returned (.int .i64 q0) ∧ St w0 Z (fs) w') := by
  refine calls_abs ?_; intro R hR
  unfold weirref10_Check.f at hp0
  refine calls_of_runs (fn := Try.f20) (c := cd20 []) Try.func20 (by kernel_rfl) (al := [.agg (enc_api_Final a0).toArray]) rfl (n := 22) rfl ?_
  refine sx_run 2 (todo' := [.inRegion (opsOf (cd20 [0])) [0, 1], .code (cd20 [1])]) (us := []) (by kernel_rfl) ?_
  refine r_box (c := (cd20 [0])) (i := 0) (d := (some 1)) (ty := 0) (x := (.tmp 0)) (v := .agg (enc_api_Final a0).toArray) (t := 24) (cs := enc_api_Final a0) hS0 (by kernel_rfl) (by kernel_rfl) (by kernel_rfl) (by kernel_rfl) ?_
  intro b1 w2 hS3
  refine sx_run 6 (todo' := [.inRegion (opsOf (cd20 [1, 0, 0])) [1, 2, 3, 4, 5, 6, 7], .code (cd20 [1, 0, 1]), .code (cd20 [1, 1])]) (us := [(2, .int .i64 0), (4, .pointer (some ⟨b1, 0, none⟩))]) (by kernel_rfl) ?_
  refine r_load (c := (cd20 [1, 0, 0])) (i := 1) (d := (some 5)) (ty := 3) (t := 3) (x := (.tmp 4)) (p := ⟨b1, 0, none⟩) (v := .int .i64 a0.N) (by kernel_rfl) (by kernel_rfl) (by kernel_rfl) (loads_at 0 (hS3.blk 0 rfl) (by kernel_rfl) (by kernel_rfl)) ?_
  refine sx_split 1 (todo' := [.inRegion (opsOf (cd20 [1, 0, 0])) [3, 4, 5, 6, 7], .code (cd20 [1, 0, 1]), .code (cd20 [1, 1])]) (us := []) (d := 6) (t := (decide (a0.N < 0))) (by kernel_rfl) (fun h5 => ?_) (fun h6 => ?_)
  · skip
    have hp7 := ite_t hp0 h5
    refine sx_run 11 (todo' := [.code (cd20 [1, 0, 1, 0, 1]), .code (cd20 [1, 1])]) (us := [(7, .bool true), (8, undef), (9, undef), (10, undef), (11, .bool true), (2, .int .i64 4)]) (by kernel_rfl) ?_
    have hS8 := hS3.drop
    refine runs_ret (fn := Try.f20) (v := .int .i64 4) Try.func20 (by kernel_rfl) ?_
    have hr9 := (Option.some.inj hp7)
    cases hr9
    exact hR _ _ ⟨rfl, hS8⟩
  · skip
    have hp10 := ite_f hp0 h6
    refine sx_run 2 (todo' := [.inRegion (opsOf (cd20 [1, 0, 0])) [5, 6, 7], .code (cd20 [1, 0, 1]), .code (cd20 [1, 1])]) (us := [(7, .bool false), (8, .pointer (some ⟨b1, 0, none⟩))]) (by kernel_rfl) ?_
    refine r_load (c := (cd20 [1, 0, 0])) (i := 5) (d := (some 9)) (ty := 3) (t := 3) (x := (.tmp 8)) (p := ⟨b1, 0, none⟩) (v := .int .i64 a0.N) (by kernel_rfl) (by kernel_rfl) (by kernel_rfl) (loads_at 0 (hS3.blk 0 rfl) (by kernel_rfl) (by kernel_rfl)) ?_
    refine sx_split 1 (todo' := [.inRegion (opsOf (cd20 [1, 0, 0])) [7], .code (cd20 [1, 0, 1]), .code (cd20 [1, 1])]) (us := []) (d := 10) (t := (decide (a0.N > 48))) (by kernel_rfl) (fun h11 => ?_) (fun h12 => ?_)
    · skip
      have hp13 := ite_t hp10 h11
      refine sx_run 7 (todo' := [.code (cd20 [1, 0, 1, 0, 1]), .code (cd20 [1, 1])]) (us := [(11, .bool true), (2, .int .i64 4)]) (by kernel_rfl) ?_
      have hS14 := hS3.drop
      refine runs_ret (fn := Try.f20) (v := .int .i64 4) Try.func20 (by kernel_rfl) ?_
      have hr15 := (Option.some.inj hp13)
      cases hr15
      exact hR _ _ ⟨rfl, hS14⟩
    · skip
      have hp16 := ite_f hp10 h12
      refine sx_run 8 (todo' := [.inRegion (opsOf (cd20 [1, 1, 0, 0])) [1, 2], .code (cd20 [1, 1, 0, 1]), .code (cd20 [1, 1, 1])]) (us := [(11, .bool false), (12, .pointer (some ⟨b1, 0, none⟩))]) (by kernel_rfl) ?_
      refine r_load (c := (cd20 [1, 1, 0, 0])) (i := 1) (d := (some 13)) (ty := 3) (t := 3) (x := (.tmp 12)) (p := ⟨b1, 0, none⟩) (v := .int .i64 a0.N) (by kernel_rfl) (by kernel_rfl) (by kernel_rfl) (loads_at 0 (hS3.blk 0 rfl) (by kernel_rfl) (by kernel_rfl)) ?_
      refine sx_run 4 (todo' := [.code (cd20 [1, 1, 0, 1, 0, 0]), .inLoop (cd20 [1, 1, 0, 1, 0, 0]), .inBlock 0, .code (cd20 [1, 1, 1])]) (us := [(3, .int .i64 a0.N)]) (by kernel_rfl) ?_
      obtain ⟨v17, hv18, hp19⟩ := bind_some' hp16
      have hq22 : ∀ x, Sum.inr x = v17 → x = q0 := by intro x hx; subst hx; simpa using hp19
      have J23 : ∀ (he25 : Sum.inl () = v17) (l24 : List Value) (w20 : World) (hS21 : St w0 Z (fs) w20), Runs Try.prog 20 [.code (cd20 [1, 1, 1])] (fill [none, none, none, none, none, none, none, none, none, none, none, none, none, none, none, none, none, none, none, none, none, none, none] l24) w20 R := by
        intro he25 l24 w20 hS21
        subst he25
        try dsimp only at hp19
        refine sx_run 4 (todo' := [.code (cd20 [1, 1, 1, 1])]) (us := [(2, .int .i64 0)]) (by kernel_rfl) ?_
        refine runs_ret (fn := Try.f20) (v := .int .i64 0) Try.func20 (by kernel_rfl) ?_
        have hr26 := (Option.some.inj hp19)
        cases hr26
        exact hR _ _ ⟨rfl, hS21⟩
      have L36 : ∀ (t27 : Int) (e31 : Sum Unit Int), weirref10_Check.l0 a0 t27 = some e31 → e31 = v17 → ∀ (l30 : List Value) (w28 : World) (hS29 : St w0 Z (xblk b1 24 (enc_api_Final a0) :: fs) w28), Runs Try.prog 20 [.code (cd20 [1, 1, 0, 1, 0, 0]), .inLoop (cd20 [1, 1, 0, 1, 0, 0]), .inBlock 0, .code (cd20 [1, 1, 1])] (fill [none, some (.pointer (some ⟨b1, 0, none⟩)), none, some (.int .i64 t27), none, none, none, none, none, none, none, none, none, none, none, none, none, none, none, none, none, none, none] l30) w28 R := by
        refine weirref10_Check.l0.partial_correctness a0 (fun t27 e31 => e31 = v17 → ∀ (l30 : List Value) (w28 : World) (hS29 : St w0 Z (xblk b1 24 (enc_api_Final a0) :: fs) w28), Runs Try.prog 20 [.code (cd20 [1, 1, 0, 1, 0, 0]), .inLoop (cd20 [1, 1, 0, 1, 0, 0]), .inBlock 0, .code (cd20 [1, 1, 1])] (fill [none, some (.pointer (some ⟨b1, 0, none⟩)), none, some (.int .i64 t27), none, none, none, none, none, none, none, none, none, none, none, none, none, none, none, none, none, none, none] l30) w28 R) ?_
        intro rec35 ih34 t27 e31 hb33 he32 l30 w28 hS29
        have hq37 : ∀ x, Sum.inr x = e31 → x = q0 := fun x hx => hq22 x (hx.trans he32)
        refine sx_split 5 (todo' := [.inRegion (opsOf (cd20 [1, 1, 0, 1, 0, 0, 0, 0])) [], .code (cd20 [1, 1, 0, 1, 0, 0, 0, 1]), .code (cd20 [1, 1, 0, 1, 0, 0, 1]), .inLoop (cd20 [1, 1, 0, 1, 0, 0]), .inBlock 0, .code (cd20 [1, 1, 1])]) (us := [(14, .int .i64 t27)]) (d := 15) (t := (decide (t27 < 48))) (by kernel_rfl) (fun h38 => ?_) (fun h39 => ?_)
        · skip
          have hp40 := ite_t hb33 h38
          refine sx_run 9 (todo' := [.inRegion (opsOf (cd20 [1, 1, 0, 1, 0, 0, 1, 0, 0, 0])) [2, 3, 4], .code (cd20 [1, 1, 0, 1, 0, 0, 1, 0, 0, 1]), .inBlock 1, .code (cd20 [1, 1, 0, 1, 0, 0, 1, 1]), .inLoop (cd20 [1, 1, 0, 1, 0, 0]), .inBlock 0, .code (cd20 [1, 1, 1])]) (us := [(18, .int .i64 t27), (19, .pointer (some ⟨b1, 1, none⟩))]) (by kernel_rfl) ?_
          obtain ⟨g41, hp42⟩ := ite_some hp40
          refine r_indexArr (c := (cd20 [1, 1, 0, 1, 0, 0, 1, 0, 0, 0])) (i := 2) (d := (some 20)) (ty := 0) (t := 22) (e := 2) (sz := 1) (kk := .i64) (x := (.tmp 19)) (y := (.tmp 18)) (b := b1) (o' := 1) (n := 48) (j := t27) (by kernel_rfl) (by kernel_rfl) (by kernel_rfl) (by kernel_rfl) (by kernel_rfl) (by kernel_rfl) g41.1 g41.2 ?_
          refine r_load (c := (cd20 [1, 1, 0, 1, 0, 0, 1, 0, 0, 0])) (i := 3) (d := (some 21)) (ty := 2) (t := 2) (x := (.tmp 20)) (p := ⟨b1, 1 + t27.toNat * 1, none⟩) (v := .int .i64 (vget a0.V t27)) (by kernel_rfl) (by kernel_rfl) (by kernel_rfl) (loads_at 0 (cells_vget (sub_api_Final_V (hS29.blk 0 rfl)) (len_encI .i64) g41.1 g41.2) (by kernel_rfl) (by kernel_rfl)) ?_
          refine sx_split 1 (todo' := [.inRegion (opsOf (cd20 [1, 1, 0, 1, 0, 0, 1, 0, 0, 0])) [], .code (cd20 [1, 1, 0, 1, 0, 0, 1, 0, 0, 1]), .inBlock 1, .code (cd20 [1, 1, 0, 1, 0, 0, 1, 1]), .inLoop (cd20 [1, 1, 0, 1, 0, 0]), .inBlock 0, .code (cd20 [1, 1, 1])]) (us := []) (d := 22) (t := ((vget a0.V t27) != 0)) (by kernel_rfl) (fun h43 => ?_) (fun h44 => ?_)
          · skip
            have hp45 := ite_t hp42 h43
            refine sx_run 6 (todo' := [.code (cd20 [1, 1, 0, 1, 0, 0, 1, 0, 0, 1, 0, 1]), .inBlock 1, .code (cd20 [1, 1, 0, 1, 0, 0, 1, 1]), .inLoop (cd20 [1, 1, 0, 1, 0, 0]), .inBlock 0, .code (cd20 [1, 1, 1])]) (us := [(2, .int .i64 4)]) (by kernel_rfl) ?_
            have hS46 := hS29.drop
            refine runs_ret (fn := Try.f20) (v := .int .i64 4) Try.func20 (by kernel_rfl) ?_
            have hr47 := (hq37 _ (Option.some.inj hp45))
            cases hr47
            exact hR _ _ ⟨rfl, hS46⟩
          · skip
            have hp48 := ite_f hp42 h44
            refine sx_run 9 (todo' := [.inLoop (cd20 [1, 1, 0, 1, 0, 0]), .inBlock 0, .code (cd20 [1, 1, 1])]) (us := [(16, .int .i64 t27), (17, .int .i64 (IntKind.i64.wrap (t27 + 1))), (3, .int .i64 (IntKind.i64.wrap (t27 + 1)))]) (by kernel_rfl) ?_
            refine sx_run 1 (todo' := [.code (cd20 [1, 1, 0, 1, 0, 0]), .inLoop (cd20 [1, 1, 0, 1, 0, 0]), .inBlock 0, .code (cd20 [1, 1, 1])]) (us := []) (by kernel_rfl) ?_
            refine Runs.fill (m := [none, some (.pointer (some ⟨b1, 0, none⟩)), none, some (.int .i64 (IntKind.i64.wrap (t27 + 1))), none, none, none, none, none, none, none, none, none, none, none, none, none, none, none, none, none, none, none]) (by kernel_rfl) ?_
            exact ih34 (IntKind.i64.wrap (t27 + 1)) _ hp48 he32 _ _ hS29
        · skip
          have hp49 := ite_f hb33 h39
          refine sx_run 3 (todo' := [.code (cd20 [1, 1, 1])]) (us := []) (by kernel_rfl) ?_
          have hS50 := hS29.drop
          refine Runs.fill (m := [none, none, none, none, none, none, none, none, none, none, none, none, none, none, none, none, none, none, none, none, none, none, none]) (by kernel_rfl) ?_
          exact J23 ((Option.some.inj hp49).trans he32) _ _ hS50
      refine Runs.fill (m := [none, some (.pointer (some ⟨b1, 0, none⟩)), none, some (.int .i64 a0.N), none, none, none, none, none, none, none, none, none, none, none, none, none, none, none, none, none, none, none]) (by kernel_rfl) ?_
      exact L36 a0.N _ hv18 rfl _ _ hS3

noncomputable def cd22 (p : List Nat) : Code := sub (bodyOf Try.f22) p
def weirref10_Compare.l0 (a0 : api_Final) (a1 : api_Final) (t33 : Int) : Option (Sum Unit Int) :=
  (if (decide (t33 < 48)) = true then (if 0 ≤ t33 ∧ t33 < 48 then (if 0 ≤ t33 ∧ t33 < 48 then (if (decide ((vget a0.V t33) < (vget a1.V t33))) = true then some (.inr ((-1))) else (if 0 ≤ t33 ∧ t33 < 48 then (if 0 ≤ t33 ∧ t33 < 48 then (if (decide ((vget a0.V t33) > (vget a1.V t33))) = true then some (.inr (1)) else (weirref10_Compare.l0 a0 a1 (IntKind.i64.wrap (t33 + 1)))) else none) else none)) else none) else none) else some (.inl ()))
 partial_fixpoint
def weirref10_Compare.f (a0 : api_Final) (a1 : api_Final) : Option Int :=
  (if (a0.N != a1.N) = true then (if (decide (a0.N < a1.N)) = true then some ((-1)) else some (1)) else (weirref10_Compare.l0 a0 a1 0 >>= (fun | .inl () => some (0) | .inr e => some e)))
set_option maxHeartbeats 16000000 in
theorem weirref10_Compare.ok (a0 : api_Final) (a1 : api_Final) {w0 : World} {Z : Zm} {fs : List XObj} {w : World} (hS0 : St w0 Z (fs) w) {q0 : Int} (hp0 : weirref10_Compare.f a0 a1 = some q0) :
    Calls Try.prog 22 #[.agg (enc_api_Final a0).toArray, .agg (enc_api_Final a1).toArray] w (fun e w' => e = .returned (.int .i64 q0) ∧ St w0 Z (fs) w') := by
  refine calls_abs ?_; intro R hR
  unfold weirref10_Compare.f at hp0
  refine calls_of_runs (fn := Try.f22) (c := cd22 []) Try.func22 (by kernel_rfl) (al := [.agg (enc_api_Final a0).toArray, .agg (enc_api_Final a1).toArray]) rfl (n := 36) rfl ?_
  refine sx_run 2 (todo' := [.inRegion (opsOf (cd22 [0])) [0, 1, 2], .code (cd22 [1])]) (us := []) (by kernel_rfl) ?_
  refine r_box (c := (cd22 [0])) (i := 0) (d := (some 2)) (ty := 0) (x := (.tmp 0)) (v := .agg (enc_api_Final a0).toArray) (t := 24) (cs := enc_api_Final a0) hS0 (by kernel_rfl) (by kernel_rfl) (by kernel_rfl) (by kernel_rfl) ?_
  intro b1 w2 hS3
  refine r_box (c := (cd22 [0])) (i := 1) (d := (some 3)) (ty := 0) (x := (.tmp 1)) (v := .agg (enc_api_Final a1).toArray) (t := 24) (cs := enc_api_Final a1) hS3 (by kernel_rfl) (by kernel_rfl) (by kernel_rfl) (by kernel_rfl) ?_
  intro b5 w6 hS7
  refine sx_run 6 (todo' := [.inRegion (opsOf (cd22 [1, 0, 0])) [1, 2, 3, 4], .code (cd22 [1, 0, 1]), .code (cd22 [1, 1])]) (us := [(4, .int .i64 0), (6, .pointer (some ⟨b1, 0, none⟩))]) (by kernel_rfl) ?_
  refine r_load (c := (cd22 [1, 0, 0])) (i := 1) (d := (some 7)) (ty := 3) (t := 3) (x := (.tmp 6)) (p := ⟨b1, 0, none⟩) (v := .int .i64 a0.N) (by kernel_rfl) (by kernel_rfl) (by kernel_rfl) (loads_at 0 (hS7.blk 1 rfl) (by kernel_rfl) (by kernel_rfl)) ?_
  refine sx_run 1 (todo' := [.inRegion (opsOf (cd22 [1, 0, 0])) [3, 4], .code (cd22 [1, 0, 1]), .code (cd22 [1, 1])]) (us := [(8, .pointer (some ⟨b5, 0, none⟩))]) (by kernel_rfl) ?_
  refine r_load (c := (cd22 [1, 0, 0])) (i := 3) (d := (some 9)) (ty := 3) (t := 3) (x := (.tmp 8)) (p := ⟨b5, 0, none⟩) (v := .int .i64 a1.N) (by kernel_rfl) (by kernel_rfl) (by kernel_rfl) (loads_at 0 (hS7.blk 0 rfl) (by kernel_rfl) (by kernel_rfl)) ?_
  refine sx_split 1 (todo' := [.inRegion (opsOf (cd22 [1, 0, 0])) [], .code (cd22 [1, 0, 1]), .code (cd22 [1, 1])]) (us := []) (d := 10) (t := (a0.N != a1.N)) (by kernel_rfl) (fun h9 => ?_) (fun h10 => ?_)
  · skip
    have hp11 := ite_t hp0 h9
    refine sx_run 6 (todo' := [.inRegion (opsOf (cd22 [1, 0, 1, 0, 0, 0])) [1, 2, 3, 4], .code (cd22 [1, 0, 1, 0, 0, 1]), .code (cd22 [1, 0, 1, 0, 1]), .code (cd22 [1, 1])]) (us := [(11, .pointer (some ⟨b1, 0, none⟩))]) (by kernel_rfl) ?_
    refine r_load (c := (cd22 [1, 0, 1, 0, 0, 0])) (i := 1) (d := (some 12)) (ty := 3) (t := 3) (x := (.tmp 11)) (p := ⟨b1, 0, none⟩) (v := .int .i64 a0.N) (by kernel_rfl) (by kernel_rfl) (by kernel_rfl) (loads_at 0 (hS7.blk 1 rfl) (by kernel_rfl) (by kernel_rfl)) ?_
    refine sx_run 1 (todo' := [.inRegion (opsOf (cd22 [1, 0, 1, 0, 0, 0])) [3, 4], .code (cd22 [1, 0, 1, 0, 0, 1]), .code (cd22 [1, 0, 1, 0, 1]), .code (cd22 [1, 1])]) (us := [(13, .pointer (some ⟨b5, 0, none⟩))]) (by kernel_rfl) ?_
    refine r_load (c := (cd22 [1, 0, 1, 0, 0, 0])) (i := 3) (d := (some 14)) (ty := 3) (t := 3) (x := (.tmp 13)) (p := ⟨b5, 0, none⟩) (v := .int .i64 a1.N) (by kernel_rfl) (by kernel_rfl) (by kernel_rfl) (loads_at 0 (hS7.blk 0 rfl) (by kernel_rfl) (by kernel_rfl)) ?_
    refine sx_split 1 (todo' := [.inRegion (opsOf (cd22 [1, 0, 1, 0, 0, 0])) [], .code (cd22 [1, 0, 1, 0, 0, 1]), .code (cd22 [1, 0, 1, 0, 1]), .code (cd22 [1, 1])]) (us := []) (d := 15) (t := (decide (a0.N < a1.N))) (by kernel_rfl) (fun h12 => ?_) (fun h13 => ?_)
    · skip
      have hp14 := ite_t hp11 h12
      refine sx_run 6 (todo' := [.code (cd22 [1, 0, 1, 0, 0, 1, 0, 1]), .code (cd22 [1, 0, 1, 0, 1]), .code (cd22 [1, 1])]) (us := [(4, .int .i64 (-1))]) (by kernel_rfl) ?_
      have hS15 := hS7.drop
      have hS16 := hS15.drop
      refine runs_ret (fn := Try.f22) (v := .int .i64 (-1)) Try.func22 (by kernel_rfl) ?_
      have hr17 := (Option.some.inj hp14)
      cases hr17
      exact hR _ _ ⟨rfl, hS16⟩
    · skip
      have hp18 := ite_f hp11 h13
      refine sx_run 7 (todo' := [.code (cd22 [1, 0, 1, 0, 1, 1]), .code (cd22 [1, 1])]) (us := [(4, .int .i64 1)]) (by kernel_rfl) ?_
      have hS19 := hS7.drop
      have hS20 := hS19.drop
      refine runs_ret (fn := Try.f22) (v := .int .i64 1) Try.func22 (by kernel_rfl) ?_
      have hr21 := (Option.some.inj hp18)
      cases hr21
      exact hR _ _ ⟨rfl, hS20⟩
  · skip
    have hp22 := ite_f hp0 h10
    refine sx_run 10 (todo' := [.code (cd22 [1, 1, 0, 1, 0, 0]), .inLoop (cd22 [1, 1, 0, 1, 0, 0]), .inBlock 0, .code (cd22 [1, 1, 1])]) (us := [(5, .int .i64 0)]) (by kernel_rfl) ?_
    obtain ⟨v23, hv24, hp25⟩ := bind_some' hp22
    have hq28 : ∀ x, Sum.inr x = v23 → x = q0 := by intro x hx; subst hx; simpa using hp25
    have J29 : ∀ (he31 : Sum.inl () = v23) (l30 : List Value) (w26 : World) (hS27 : St w0 Z (fs) w26), Runs Try.prog 22 [.code (cd22 [1, 1, 1])] (fill [none, none, none, none, none, none, none, none, none, none, none, none, none, none, none, none, none, none, none, none, none, none, none, none, none, none, none, none, none, none, none, none, none, none, none, none, none, none] l30) w26 R := by
      intro he31 l30 w26 hS27
      subst he31
      try dsimp only at hp25
      refine sx_run 4 (todo' := [.code (cd22 [1, 1, 1, 1])]) (us := [(4, .int .i64 0)]) (by kernel_rfl) ?_
      refine runs_ret (fn := Try.f22) (v := .int .i64 0) Try.func22 (by kernel_rfl) ?_
      have hr32 := (Option.some.inj hp25)
      cases hr32
      exact hR _ _ ⟨rfl, hS27⟩
    have L42 : ∀ (t33 : Int) (e37 : Sum Unit Int), weirref10_Compare.l0 a0 a1 t33 = some e37 → e37 = v23 → ∀ (l36 : List Value) (w34 : World) (hS35 : St w0 Z (xblk b1 24 (enc_api_Final a0) :: xblk b5 24 (enc_api_Final a1) :: fs) w34), Runs Try.prog 22 [.code (cd22 [1, 1, 0, 1, 0, 0]), .inLoop (cd22 [1, 1, 0, 1, 0, 0]), .inBlock 0, .code (cd22 [1, 1, 1])] (fill [none, none, some (.pointer (some ⟨b1, 0, none⟩)), some (.pointer (some ⟨b5, 0, none⟩)), none, some (.int .i64 t33), none, none, none, none, none, none, none, none, none, none, none, none, none, none, none, none, none, none, none, none, none, none, none, none, none, none, none, none, none, none, none, none] l36) w34 R := by
      refine weirref10_Compare.l0.partial_correctness a0 a1 (fun t33 e37 => e37 = v23 → ∀ (l36 : List Value) (w34 : World) (hS35 : St w0 Z (xblk b1 24 (enc_api_Final a0) :: xblk b5 24 (enc_api_Final a1) :: fs) w34), Runs Try.prog 22 [.code (cd22 [1, 1, 0, 1, 0, 0]), .inLoop (cd22 [1, 1, 0, 1, 0, 0]), .inBlock 0, .code (cd22 [1, 1, 1])] (fill [none, none, some (.pointer (some ⟨b1, 0, none⟩)), some (.pointer (some ⟨b5, 0, none⟩)), none, some (.int .i64 t33), none, none, none, none, none, none, none, none, none, none, none, none, none, none, none, none, none, none, none, none, none, none, none, none, none, none, none, none, none, none, none, none] l36) w34 R) ?_
      intro rec41 ih40 t33 e37 hb39 he38 l36 w34 hS35
      have hq43 : ∀ x, Sum.inr x = e37 → x = q0 := fun x hx => hq28 x (hx.trans he38)
      refine sx_split 5 (todo' := [.inRegion (opsOf (cd22 [1, 1, 0, 1, 0, 0, 0, 0])) [], .code (cd22 [1, 1, 0, 1, 0, 0, 0, 1]), .code (cd22 [1, 1, 0, 1, 0, 0, 1]), .inLoop (cd22 [1, 1, 0, 1, 0, 0]), .inBlock 0, .code (cd22 [1, 1, 1])]) (us := [(16, .int .i64 t33)]) (d := 17) (t := (decide (t33 < 48))) (by kernel_rfl) (fun h44 => ?_) (fun h45 => ?_)
      · skip
        have hp46 := ite_t hb39 h44
        refine sx_run 7 (todo' := [.code (cd22 [1, 1, 0, 1, 0, 0, 1, 0, 0, 0, 0]), .code (cd22 [1, 1, 0, 1, 0, 0, 1, 0, 0, 0, 1]), .code (cd22 [1, 1, 0, 1, 0, 0, 1, 0, 0, 1]), .inBlock 1, .code (cd22 [1, 1, 0, 1, 0, 0, 1, 1]), .inLoop (cd22 [1, 1, 0, 1, 0, 0]), .inBlock 0, .code (cd22 [1, 1, 1])]) (us := []) (by kernel_rfl) ?_
        refine r_quiet hS35 (c := (cd22 [1, 1, 0, 1, 0, 0, 1, 0, 0, 0, 0])) (id := 8) (by kernel_rfl) (by kernel_rfl) (by kernel_rfl) (is := [0, 1, 2, 3, 4, 5, 6, 7, 8]) (by kernel_rfl) ?_
        refine q_run 2 (is' := [2, 3, 4, 5, 6, 7, 8]) (us := [(20, .int .i64 t33), (21, .pointer (some ⟨b1, 1, none⟩))]) (by kernel_rfl) ?_
        obtain ⟨g47, hp48⟩ := ite_some hp46
        refine q_indexArr (c := (cd22 [1, 1, 0, 1, 0, 0, 1, 0, 0, 0, 0])) (i := 2) (d := (some 22)) (ty := 0) (t := 22) (e := 2) (sz := 1) (kk := .i64) (x := (.tmp 21)) (y := (.tmp 20)) (b := b1) (o' := 1) (n := 48) (j := t33) (by kernel_rfl) (by kernel_rfl) (by kernel_rfl) (by kernel_rfl) (by kernel_rfl) (by kernel_rfl) g47.1 g47.2 ?_
        refine q_load (c := (cd22 [1, 1, 0, 1, 0, 0, 1, 0, 0, 0, 0])) (i := 3) (d := (some 23)) (ty := 2) (t := 2) (x := (.tmp 22)) (p := ⟨b1, 1 + t33.toNat * 1, none⟩) (v := .int .i64 (vget a0.V t33)) (by kernel_rfl) (by kernel_rfl) (by kernel_rfl) (fun w hC => (loads_at 0 (cells_vget (sub_api_Final_V (hC.blk 0 rfl)) (len_encI .i64) g47.1 g47.2) (by kernel_rfl) (by kernel_rfl))) ?_
        refine q_run 2 (is' := [6, 7, 8]) (us := [(24, .int .i64 t33), (25, .pointer (some ⟨b5, 1, none⟩))]) (by kernel_rfl) ?_
        obtain ⟨g49, hp50⟩ := ite_some hp48
        refine q_indexArr (c := (cd22 [1, 1, 0, 1, 0, 0, 1, 0, 0, 0, 0])) (i := 6) (d := (some 26)) (ty := 0) (t := 22) (e := 2) (sz := 1) (kk := .i64) (x := (.tmp 25)) (y := (.tmp 24)) (b := b5) (o' := 1) (n := 48) (j := t33) (by kernel_rfl) (by kernel_rfl) (by kernel_rfl) (by kernel_rfl) (by kernel_rfl) (by kernel_rfl) g49.1 g49.2 ?_
        refine q_load (c := (cd22 [1, 1, 0, 1, 0, 0, 1, 0, 0, 0, 0])) (i := 7) (d := (some 27)) (ty := 2) (t := 2) (x := (.tmp 26)) (p := ⟨b5, 1 + t33.toNat * 1, none⟩) (v := .int .i64 (vget a1.V t33)) (by kernel_rfl) (by kernel_rfl) (by kernel_rfl) (fun w hC => (loads_at 0 (cells_vget (sub_api_Final_V (hC.blk 1 rfl)) (len_encI .i64) g49.1 g49.2) (by kernel_rfl) (by kernel_rfl))) ?_
        refine q_splitr 1 (is' := []) (us := []) (d := 28) (t := (decide ((vget a0.V t33) < (vget a1.V t33)))) (by kernel_rfl) (fun h51 => ?_) (fun h52 => ?_)
        · skip
          have hp53 := ite_t hp50 h51
          refine Qs.nil ?_
          intro w54 hS55
          refine sx_run 5 (todo' := [.code (cd22 [1, 1, 0, 1, 0, 0, 1, 0, 0, 0, 1, 0, 1]), .code (cd22 [1, 1, 0, 1, 0, 0, 1, 0, 0, 1]), .inBlock 1, .code (cd22 [1, 1, 0, 1, 0, 0, 1, 1]), .inLoop (cd22 [1, 1, 0, 1, 0, 0]), .inBlock 0, .code (cd22 [1, 1, 1])]) (us := [(4, .int .i64 (-1))]) (by kernel_rfl) ?_
          have hS56 := hS55.drop
          have hS57 := hS56.drop
          refine runs_ret (fn := Try.f22) (v := .int .i64 (-1)) Try.func22 (by kernel_rfl) ?_
          have hr58 := (hq43 _ (Option.some.inj hp53))
          cases hr58
          exact hR _ _ ⟨rfl, hS57⟩
        · skip
          have hp59 := ite_f hp50 h52
          refine Qs.nil ?_
          intro w60 hS61
          refine sx_run 3 (todo' := [.code (cd22 [1, 1, 0, 1, 0, 0, 1, 0, 0, 1, 0]), .code (cd22 [1, 1, 0, 1, 0, 0, 1, 0, 0, 1, 1]), .inBlock 1, .code (cd22 [1, 1, 0, 1, 0, 0, 1, 1]), .inLoop (cd22 [1, 1, 0, 1, 0, 0]), .inBlock 0, .code (cd22 [1, 1, 1])]) (us := []) (by kernel_rfl) ?_
          refine r_quiet hS61 (c := (cd22 [1, 1, 0, 1, 0, 0, 1, 0, 0, 1, 0])) (id := 10) (by kernel_rfl) (by kernel_rfl) (by kernel_rfl) (is := [0, 1, 2, 3, 4, 5, 6, 7, 8]) (by kernel_rfl) ?_
          refine q_run 2 (is' := [2, 3, 4, 5, 6, 7, 8]) (us := [(29, .int .i64 t33), (30, .pointer (some ⟨b1, 1, none⟩))]) (by kernel_rfl) ?_
          obtain ⟨g62, hp63⟩ := ite_some hp59
          refine q_indexArr (c := (cd22 [1, 1, 0, 1, 0, 0, 1, 0, 0, 1, 0])) (i := 2) (d := (some 31)) (ty := 0) (t := 22) (e := 2) (sz := 1) (kk := .i64) (x := (.tmp 30)) (y := (.tmp 29)) (b := b1) (o' := 1) (n := 48) (j := t33) (by kernel_rfl) (by kernel_rfl) (by kernel_rfl) (by kernel_rfl) (by kernel_rfl) (by kernel_rfl) g62.1 g62.2 ?_
          refine q_load (c := (cd22 [1, 1, 0, 1, 0, 0, 1, 0, 0, 1, 0])) (i := 3) (d := (some 32)) (ty := 2) (t := 2) (x := (.tmp 31)) (p := ⟨b1, 1 + t33.toNat * 1, none⟩) (v := .int .i64 (vget a0.V t33)) (by kernel_rfl) (by kernel_rfl) (by kernel_rfl) (fun w hC => (loads_at 0 (cells_vget (sub_api_Final_V (hC.blk 0 rfl)) (len_encI .i64) g62.1 g62.2) (by kernel_rfl) (by kernel_rfl))) ?_
          refine q_run 2 (is' := [6, 7, 8]) (us := [(33, .int .i64 t33), (34, .pointer (some ⟨b5, 1, none⟩))]) (by kernel_rfl) ?_
          obtain ⟨g64, hp65⟩ := ite_some hp63
          refine q_indexArr (c := (cd22 [1, 1, 0, 1, 0, 0, 1, 0, 0, 1, 0])) (i := 6) (d := (some 35)) (ty := 0) (t := 22) (e := 2) (sz := 1) (kk := .i64) (x := (.tmp 34)) (y := (.tmp 33)) (b := b5) (o' := 1) (n := 48) (j := t33) (by kernel_rfl) (by kernel_rfl) (by kernel_rfl) (by kernel_rfl) (by kernel_rfl) (by kernel_rfl) g64.1 g64.2 ?_
          refine q_load (c := (cd22 [1, 1, 0, 1, 0, 0, 1, 0, 0, 1, 0])) (i := 7) (d := (some 36)) (ty := 2) (t := 2) (x := (.tmp 35)) (p := ⟨b5, 1 + t33.toNat * 1, none⟩) (v := .int .i64 (vget a1.V t33)) (by kernel_rfl) (by kernel_rfl) (by kernel_rfl) (fun w hC => (loads_at 0 (cells_vget (sub_api_Final_V (hC.blk 1 rfl)) (len_encI .i64) g64.1 g64.2) (by kernel_rfl) (by kernel_rfl))) ?_
          refine q_splitr 1 (is' := []) (us := []) (d := 37) (t := (decide ((vget a0.V t33) > (vget a1.V t33)))) (by kernel_rfl) (fun h66 => ?_) (fun h67 => ?_)
          · skip
            have hp68 := ite_t hp65 h66
            refine Qs.nil ?_
            intro w69 hS70
            refine sx_run 5 (todo' := [.code (cd22 [1, 1, 0, 1, 0, 0, 1, 0, 0, 1, 1, 0, 1]), .inBlock 1, .code (cd22 [1, 1, 0, 1, 0, 0, 1, 1]), .inLoop (cd22 [1, 1, 0, 1, 0, 0]), .inBlock 0, .code (cd22 [1, 1, 1])]) (us := [(4, .int .i64 1)]) (by kernel_rfl) ?_
            have hS71 := hS70.drop
            have hS72 := hS71.drop
            refine runs_ret (fn := Try.f22) (v := .int .i64 1) Try.func22 (by kernel_rfl) ?_
            have hr73 := (hq43 _ (Option.some.inj hp68))
            cases hr73
            exact hR _ _ ⟨rfl, hS72⟩
          · skip
            have hp74 := ite_f hp65 h67
            refine Qs.nil ?_
            intro w75 hS76
            refine sx_run 8 (todo' := [.inLoop (cd22 [1, 1, 0, 1, 0, 0]), .inBlock 0, .code (cd22 [1, 1, 1])]) (us := [(18, .int .i64 t33), (19, .int .i64 (IntKind.i64.wrap (t33 + 1))), (5, .int .i64 (IntKind.i64.wrap (t33 + 1)))]) (by kernel_rfl) ?_
            refine sx_run 1 (todo' := [.code (cd22 [1, 1, 0, 1, 0, 0]), .inLoop (cd22 [1, 1, 0, 1, 0, 0]), .inBlock 0, .code (cd22 [1, 1, 1])]) (us := []) (by kernel_rfl) ?_
            refine Runs.fill (m := [none, none, some (.pointer (some ⟨b1, 0, none⟩)), some (.pointer (some ⟨b5, 0, none⟩)), none, some (.int .i64 (IntKind.i64.wrap (t33 + 1))), none, none, none, none, none, none, none, none, none, none, none, none, none, none, none, none, none, none, none, none, none, none, none, none, none, none, none, none, none, none, none, none]) (by kernel_rfl) ?_
            exact ih40 (IntKind.i64.wrap (t33 + 1)) _ hp74 he38 _ _ hS76
      · skip
        have hp77 := ite_f hb39 h45
        refine sx_run 3 (todo' := [.code (cd22 [1, 1, 1])]) (us := []) (by kernel_rfl) ?_
        have hS78 := hS35.drop
        have hS79 := hS78.drop
        refine Runs.fill (m := [none, none, none, none, none, none, none, none, none, none, none, none, none, none, none, none, none, none, none, none, none, none, none, none, none, none, none, none, none, none, none, none, none, none, none, none, none, none]) (by kernel_rfl) ?_
        exact J29 ((Option.some.inj hp77).trans he38) _ _ hS79
    have hS80 := hS7.pick1
    refine Runs.fill (m := [none, none, some (.pointer (some ⟨b1, 0, none⟩)), some (.pointer (some ⟨b5, 0, none⟩)), none, some (.int .i64 0), none, none, none, none, none, none, none, none, none, none, none, none, none, none, none, none, none, none, none, none, none, none, none, none, none, none, none, none, none, none, none, none]) (by kernel_rfl) ?_
    exact L42 0 _ hv24 rfl _ _ hS80

noncomputable def cd14 (p : List Nat) : Code := sub (bodyOf Try.f14) p
def weirref10_Sort.l1 (a0 : List api_Final) (t14 : List api_Final) (t18 : Int) (t173 : Int) : Option Int :=
  (if (decide (t173 > 0)) = true then (if 0 ≤ (IntKind.i64.wrap (t173 - 1)) ∧ (IntKind.i64.wrap (t173 - 1)) < (t14.length : Int) then (if 0 ≤ t18 ∧ t18 < (a0.length : Int) then (weirref10_Compare.f (gt t14 (IntKind.i64.wrap (t173 - 1))) (gt a0 t18) >>= (fun t198 => (if (decide (t198 > 0)) = true then (weirref10_Sort.l1 a0 t14 t18 (IntKind.i64.wrap (t173 - 1))) else some (t173)))) else none) else none) else some (t173))
 partial_fixpoint
def weirref10_Sort.l0 (a0 : List api_Final) (t14 : List api_Final) (t18 : Int) : Option (List api_Final) :=
  (if (decide (t18 < (a0.length : Int))) = true then (if 0 ≤ t18 ∧ t18 < (a0.length : Int) then (weirref10_Check.f (gt a0 t18) >>= (fun t37 => (if (t37 != 0) = true then (weirref10_Sort.l0 a0 t14 (IntKind.i64.wrap (t18 + 1))) else (weirref10_Sort.l1 a0 t14 t18 (t14.length : Int) >>= (fun t49 => (if (decide (t49 > 0)) = true then (if 0 ≤ (IntKind.i64.wrap (t49 - 1)) ∧ (IntKind.i64.wrap (t49 - 1)) < (t14.length : Int) then (if 0 ≤ t18 ∧ t18 < (a0.length : Int) then (if (decide ((gt t14 (IntKind.i64.wrap (t49 - 1))) = (gt a0 t18))) = true then (weirref10_Sort.l0 a0 t14 (IntKind.i64.wrap (t18 + 1))) else (if (t14.length + ([(⟨0, (Vector.replicate 48 0)⟩ : api_Final)] : List api_Final).length) * 392 ≤ 140737488355328 then (if 0 ≤ (IntKind.i64.wrap (t49 + 1)) ∧ (IntKind.i64.wrap (t49 + 1)) ≤ ((t14 ++ ([(⟨0, (Vector.replicate 48 0)⟩ : api_Final)] : List api_Final)).length : Int) then (if 0 ≤ t49 ∧ t49 ≤ ((t14 ++ ([(⟨0, (Vector.replicate 48 0)⟩ : api_Final)] : List api_Final)).length : Int) then (if ((IntKind.i64.wrap (t49 + 1)).toNat) + ((t14 ++ ([(⟨0, (Vector.replicate 48 0)⟩ : api_Final)] : List api_Final)).length - (IntKind.i64.wrap (t49 + 1)).toNat) ≤ (t14 ++ ([(⟨0, (Vector.replicate 48 0)⟩ : api_Final)] : List api_Final)).length ∧ t49.toNat + ((t14 ++ ([(⟨0, (Vector.replicate 48 0)⟩ : api_Final)] : List api_Final)).length - t49.toNat) ≤ (t14 ++ ([(⟨0, (Vector.replicate 48 0)⟩ : api_Final)] : List api_Final)).length then (if 0 ≤ t18 ∧ t18 < (a0.length : Int) then (if 0 ≤ t49 ∧ t49 < ((copyv (t14 ++ ([(⟨0, (Vector.replicate 48 0)⟩ : api_Final)] : List api_Final)) ((IntKind.i64.wrap (t49 + 1)).toNat) ((t14 ++ ([(⟨0, (Vector.replicate 48 0)⟩ : api_Final)] : List api_Final)).length - (IntKind.i64.wrap (t49 + 1)).toNat) (((t14 ++ ([(⟨0, (Vector.replicate 48 0)⟩ : api_Final)] : List api_Final)).drop t49.toNat).take ((t14 ++ ([(⟨0, (Vector.replicate 48 0)⟩ : api_Final)] : List api_Final)).length - t49.toNat))).length : Int) then (weirref10_Sort.l0 a0 (setl (copyv (t14 ++ ([(⟨0, (Vector.replicate 48 0)⟩ : api_Final)] : List api_Final)) ((IntKind.i64.wrap (t49 + 1)).toNat) ((t14 ++ ([(⟨0, (Vector.replicate 48 0)⟩ : api_Final)] : List api_Final)).length - (IntKind.i64.wrap (t49 + 1)).toNat) (((t14 ++ ([(⟨0, (Vector.replicate 48 0)⟩ : api_Final)] : List api_Final)).drop t49.toNat).take ((t14 ++ ([(⟨0, (Vector.replicate 48 0)⟩ : api_Final)] : List api_Final)).length - t49.toNat))) t49 (gt a0 t18)) (IntKind.i64.wrap (t18 + 1))) else none) else none) else none) else none) else none) else none)) else none) else none) else (if (t14.length + ([(⟨0, (Vector.replicate 48 0)⟩ : api_Final)] : List api_Final).length) * 392 ≤ 140737488355328 then (if 0 ≤ (IntKind.i64.wrap (t49 + 1)) ∧ (IntKind.i64.wrap (t49 + 1)) ≤ ((t14 ++ ([(⟨0, (Vector.replicate 48 0)⟩ : api_Final)] : List api_Final)).length : Int) then (if 0 ≤ t49 ∧ t49 ≤ ((t14 ++ ([(⟨0, (Vector.replicate 48 0)⟩ : api_Final)] : List api_Final)).length : Int) then (if ((IntKind.i64.wrap (t49 + 1)).toNat) + ((t14 ++ ([(⟨0, (Vector.replicate 48 0)⟩ : api_Final)] : List api_Final)).length - (IntKind.i64.wrap (t49 + 1)).toNat) ≤ (t14 ++ ([(⟨0, (Vector.replicate 48 0)⟩ : api_Final)] : List api_Final)).length ∧ t49.toNat + ((t14 ++ ([(⟨0, (Vector.replicate 48 0)⟩ : api_Final)] : List api_Final)).length - t49.toNat) ≤ (t14 ++ ([(⟨0, (Vector.replicate 48 0)⟩ : api_Final)] : List api_Final)).length then (if 0 ≤ t18 ∧ t18 < (a0.length : Int) then (if 0 ≤ t49 ∧ t49 < ((copyv (t14 ++ ([(⟨0, (Vector.replicate 48 0)⟩ : api_Final)] : List api_Final)) ((IntKind.i64.wrap (t49 + 1)).toNat) ((t14 ++ ([(⟨0, (Vector.replicate 48 0)⟩ : api_Final)] : List api_Final)).length - (IntKind.i64.wrap (t49 + 1)).toNat) (((t14 ++ ([(⟨0, (Vector.replicate 48 0)⟩ : api_Final)] : List api_Final)).drop t49.toNat).take ((t14 ++ ([(⟨0, (Vector.replicate 48 0)⟩ : api_Final)] : List api_Final)).length - t49.toNat))).length : Int) then (weirref10_Sort.l0 a0 (setl (copyv (t14 ++ ([(⟨0, (Vector.replicate 48 0)⟩ : api_Final)] : List api_Final)) ((IntKind.i64.wrap (t49 + 1)).toNat) ((t14 ++ ([(⟨0, (Vector.replicate 48 0)⟩ : api_Final)] : List api_Final)).length - (IntKind.i64.wrap (t49 + 1)).toNat) (((t14 ++ ([(⟨0, (Vector.replicate 48 0)⟩ : api_Final)] : List api_Final)).drop t49.toNat).take ((t14 ++ ([(⟨0, (Vector.replicate 48 0)⟩ : api_Final)] : List api_Final)).length - t49.toNat))) t49 (gt a0 t18)) (IntKind.i64.wrap (t18 + 1))) else none) else none) else none) else none) else none) else none))))))) else none) else some (t14))
 partial_fixpoint
def weirref10_Sort.f (a0 : List api_Final) : Option (List api_Final) :=
  (weirref10_Sort.l0 a0 [] 0 >>= (fun t4 => some (t4)))
set_option maxHeartbeats 16000000 in
theorem weirref10_Sort.ok (a0 : List api_Final) (Aa0 : Option Addr) (ca0 : Nat) {w0 : World} {Z : Zm} {fs : List XObj} {w : World} (hS0 : St w0 Z (fs) w) (ha0 : SlZ (flat enc_api_Final) 49 Z Aa0 ca0 a0) {q0 : List api_Final} (hp0 : weirref10_Sort.f a0 = some q0) :
    Calls Try.prog 14 #[.slice Aa0 a0.length ca0] w (fun e w' => ∃ (QA0 : Option Addr) (Qc0 : Nat), e = .returned (.slice QA0 q0.length Qc0) ∧ St w0 Z (xrow QA0 Qc0 24 49 (q0.flatMap enc_api_Final) :: fs) w') := by
  refine calls_abs ?_; intro R hR
  unfold weirref10_Sort.f at hp0
  refine calls_of_runs (fn := Try.f14) (c := cd14 []) Try.func14 (by kernel_rfl) (al := [.slice Aa0 a0.length ca0]) rfl (n := 70) rfl ?_
  refine sx_run 15 (todo' := [.code (cd14 [1, 1, 0, 1, 0, 0]), .inLoop (cd14 [1, 1, 0, 1, 0, 0]), .inBlock 0, .code (cd14 [1, 1, 1])]) (us := [(2, .slice none 0 0), (3, .slice none 0 0), (4, .int .i64 0)]) (by kernel_rfl) ?_
  obtain ⟨v1, hv2, hp3⟩ := bind_some' hp0
  have J10 : ∀ (t4 : List api_Final) (he12 : t4 = v1) (l11 : List Value) (A5 : Option Addr) (c6 : Nat) (w8 : World) (hS9 : St w0 Z (xrow A5 c6 24 49 (t4.flatMap enc_api_Final) :: fs) w8), Runs Try.prog 14 [.code (cd14 [1, 1, 1])] (fill [none, none, none, some (.slice A5 t4.length c6), none, none, none, none, none, none, none, none, none, none, none, none, none, none, none, none, none, none, none, none, none, none, none, none, none, none, none, none, none, none, none, none, none, none, none, none, none, none, none, none, none, none, none, none, none, none, none, none, none, none, none, none, none, none, none, none, none, none, none, none, none, none, none, none, none, none, none] l11) w8 R := by
    intro t4 he12 l11 A5 c6 w8 hS9
    subst he12
    try dsimp only at hp3
    refine sx_run 5 (todo' := [.code (cd14 [1, 1, 1, 1])]) (us := [(70, .slice A5 t4.length c6), (2, .slice A5 t4.length c6)]) (by kernel_rfl) ?_
    refine runs_ret (fn := Try.f14) (v := .slice A5 t4.length c6) Try.func14 (by kernel_rfl) ?_
    have hr13 := (Option.some.inj hp3)
    cases hr13
    exact hR _ _ ⟨A5, c6, rfl, hS9⟩
  have L27 : ∀ (t14 : List api_Final) (t18 : Int) (e22 : (List api_Final)), weirref10_Sort.l0 a0 t14 t18 = some e22 → e22 = v1 → ∀ (l21 : List Value) (A15 : Option Addr) (c16 : Nat) (w19 : World) (hS20 : St w0 Z (xrow A15 c16 24 49 (t14.flatMap enc_api_Final) :: fs) w19), Runs Try.prog 14 [.code (cd14 [1, 1, 0, 1, 0, 0]), .inLoop (cd14 [1, 1, 0, 1, 0, 0]), .inBlock 0, .code (cd14 [1, 1, 1])] (fill [some (.slice Aa0 a0.length ca0), none, none, some (.slice A15 t14.length c16), some (.int .i64 t18), none, none, none, none, none, none, none, none, none, none, none, none, none, none, none, none, none, none, none, none, none, none, none, none, none, none, none, none, none, none, none, none, none, none, none, none, none, none, none, none, none, none, none, none, none, none, none, none, none, none, none, none, none, none, none, none, none, none, none, none, none, none, none, none, none, none] l21) w19 R := by
    refine weirref10_Sort.l0.partial_correctness a0 (fun t14 t18 e22 => e22 = v1 → ∀ (l21 : List Value) (A15 : Option Addr) (c16 : Nat) (w19 : World) (hS20 : St w0 Z (xrow A15 c16 24 49 (t14.flatMap enc_api_Final) :: fs) w19), Runs Try.prog 14 [.code (cd14 [1, 1, 0, 1, 0, 0]), .inLoop (cd14 [1, 1, 0, 1, 0, 0]), .inBlock 0, .code (cd14 [1, 1, 1])] (fill [some (.slice Aa0 a0.length ca0), none, none, some (.slice A15 t14.length c16), some (.int .i64 t18), none, none, none, none, none, none, none, none, none, none, none, none, none, none, none, none, none, none, none, none, none, none, none, none, none, none, none, none, none, none, none, none, none, none, none, none, none, none, none, none, none, none, none, none, none, none, none, none, none, none, none, none, none, none, none, none, none, none, none, none, none, none, none, none, none, none] l21) w19 R) ?_
    intro rec26 ih25 t14 t18 e22 hb24 he23 l21 A15 c16 w19 hS20
    refine sx_split 7 (todo' := [.inRegion (opsOf (cd14 [1, 1, 0, 1, 0, 0, 0, 0])) [], .code (cd14 [1, 1, 0, 1, 0, 0, 0, 1]), .code (cd14 [1, 1, 0, 1, 0, 0, 1]), .inLoop (cd14 [1, 1, 0, 1, 0, 0]), .inBlock 0, .code (cd14 [1, 1, 1])]) (us := [(6, .int .i64 t18), (7, .slice Aa0 a0.length ca0), (8, .int .i64 (a0.length : Int))]) (d := 9) (t := (decide (t18 < (a0.length : Int)))) (by kernel_rfl) (fun h28 => ?_) (fun h29 => ?_)
    · skip
      have hp30 := ite_t hb24 h28
      refine sx_run 10 (todo' := [.inRegion (opsOf (cd14 [1, 1, 0, 1, 0, 0, 1, 0, 0, 0, 0])) [2, 3, 4, 5], .code (cd14 [1, 1, 0, 1, 0, 0, 1, 0, 0, 0, 1]), .code (cd14 [1, 1, 0, 1, 0, 0, 1, 0, 0, 1]), .inBlock 1, .code (cd14 [1, 1, 0, 1, 0, 0, 1, 1]), .inLoop (cd14 [1, 1, 0, 1, 0, 0]), .inBlock 0, .code (cd14 [1, 1, 1])]) (us := [(12, .slice Aa0 a0.length ca0), (13, .int .i64 t18)]) (by kernel_rfl) ?_
      obtain ⟨g31, hp32⟩ := ite_some hp30
      obtain ⟨b33, p34, hA35, hc36⟩ := ha0.atF g31.1 g31.2
      refine r_indexAddr (c := (cd14 [1, 1, 0, 1, 0, 0, 1, 0, 0, 0, 0])) (i := 2) (d := (some 14)) (ty := 0) (t := 36) (e := 24) (n := a0.length) (cp := ca0) (sz := 49) (kk := .i64) (x := (.tmp 12)) (y := (.tmp 13)) (b := b33) (o' := p34) (j := t18) (by kernel_rfl) (by kernel_rfl) (slv (by kernel_rfl) hA35) (by kernel_rfl) (by kernel_rfl) (by kernel_rfl) g31.1 g31.2 ?_
      refine r_load (c := (cd14 [1, 1, 0, 1, 0, 0, 1, 0, 0, 0, 0])) (i := 3) (d := (some 15)) (ty := 24) (t := 24) (x := (.tmp 14)) (p := ⟨b33, p34 + t18.toNat * 49, none⟩) (v := .agg (enc_api_Final (gt a0 t18)).toArray) (by kernel_rfl) (by kernel_rfl) (by kernel_rfl) (loads_agg (hc36.cells hS20) (by kernel_rfl) (lenK (len_api_Final _) (by kernel_rfl))) ?_
      obtain ⟨t37, hr38, hp39⟩ := bind_some' hp32
      refine r_call1 (c := (cd14 [1, 1, 0, 1, 0, 0, 1, 0, 0, 0, 0])) (i := 4) (d := (some 16)) (g := 20) (args := #[.agg (enc_api_Final (gt a0 t18)).toArray]) (by kernel_rfl) (by kernel_rfl) (by kernel_rfl) (by kernel_rfl) (weirref10_Check.ok (gt a0 t18) hS20 hr38) ?_
      rintro _ w40 ⟨rfl, hS41⟩
      refine ⟨.int .i64 t37, rfl, ?_⟩
      refine sx_split 1 (todo' := [.inRegion (opsOf (cd14 [1, 1, 0, 1, 0, 0, 1, 0, 0, 0, 0])) [], .code (cd14 [1, 1, 0, 1, 0, 0, 1, 0, 0, 0, 1]), .code (cd14 [1, 1, 0, 1, 0, 0, 1, 0, 0, 1]), .inBlock 1, .code (cd14 [1, 1, 0, 1, 0, 0, 1, 1]), .inLoop (cd14 [1, 1, 0, 1, 0, 0]), .inBlock 0, .code (cd14 [1, 1, 1])]) (us := []) (d := 17) (t := (t37 != 0)) (by kernel_rfl) (fun h42 => ?_) (fun h43 => ?_)
      · skip
        have hp44 := ite_t hp39 h42
        refine sx_run 8 (todo' := [.inLoop (cd14 [1, 1, 0, 1, 0, 0]), .inBlock 0, .code (cd14 [1, 1, 1])]) (us := [(10, .int .i64 t18), (11, .int .i64 (IntKind.i64.wrap (t18 + 1))), (4, .int .i64 (IntKind.i64.wrap (t18 + 1)))]) (by kernel_rfl) ?_
        refine sx_run 1 (todo' := [.code (cd14 [1, 1, 0, 1, 0, 0]), .inLoop (cd14 [1, 1, 0, 1, 0, 0]), .inBlock 0, .code (cd14 [1, 1, 1])]) (us := []) (by kernel_rfl) ?_
        refine Runs.fill (m := [some (.slice Aa0 a0.length ca0), none, none, some (.slice A15 t14.length c16), some (.int .i64 (IntKind.i64.wrap (t18 + 1))), none, none, none, none, none, none, none, none, none, none, none, none, none, none, none, none, none, none, none, none, none, none, none, none, none, none, none, none, none, none, none, none, none, none, none, none, none, none, none, none, none, none, none, none, none, none, none, none, none, none, none, none, none, none, none, none, none, none, none, none, none, none, none, none, none, none]) (by kernel_rfl) ?_
        exact ih25 t14 (IntKind.i64.wrap (t18 + 1)) _ hp44 he23 _ A15 c16 _ hS41
      · skip
        have hp45 := ite_f hp39 h43
        refine sx_run 12 (todo' := [.code (cd14 [1, 1, 0, 1, 0, 0, 1, 0, 0, 1, 1, 0, 0, 0]), .inLoop (cd14 [1, 1, 0, 1, 0, 0, 1, 0, 0, 1, 1, 0, 0, 0]), .inBlock 2, .code (cd14 [1, 1, 0, 1, 0, 0, 1, 0, 0, 1, 1, 1]), .inBlock 1, .code (cd14 [1, 1, 0, 1, 0, 0, 1, 1]), .inLoop (cd14 [1, 1, 0, 1, 0, 0]), .inBlock 0, .code (cd14 [1, 1, 1])]) (us := [(18, .slice A15 t14.length c16), (19, .int .i64 (t14.length : Int)), (5, .int .i64 (t14.length : Int))]) (by kernel_rfl) ?_
        obtain ⟨v46, hv47, hp48⟩ := bind_some' hp45
        have J52 : ∀ (t49 : Int) (he54 : t49 = v46) (l53 : List Value) (w50 : World) (hS51 : St w0 Z (xrow A15 c16 24 49 (t14.flatMap enc_api_Final) :: fs) w50), Runs Try.prog 14 [.code (cd14 [1, 1, 0, 1, 0, 0, 1, 0, 0, 1, 1, 1]), .inBlock 1, .code (cd14 [1, 1, 0, 1, 0, 0, 1, 1]), .inLoop (cd14 [1, 1, 0, 1, 0, 0]), .inBlock 0, .code (cd14 [1, 1, 1])] (fill [some (.slice Aa0 a0.length ca0), none, none, some (.slice A15 t14.length c16), some (.int .i64 t18), some (.int .i64 t49), none, none, none, none, none, none, none, none, none, none, none, none, none, none, none, none, none, none, none, none, none, none, none, none, none, none, none, none, none, none, none, none, none, none, none, none, none, none, none, none, none, none, none, none, none, none, none, none, none, none, none, none, none, none, none, none, none, none, none, none, none, none, none, none, none] l53) w50 R := by
          intro t49 he54 l53 w50 hS51
          subst he54
          try dsimp only at hp48
          refine sx_run 2 (todo' := [.code (cd14 [1, 1, 0, 1, 0, 0, 1, 0, 0, 1, 1, 1, 0, 0]), .code (cd14 [1, 1, 0, 1, 0, 0, 1, 0, 0, 1, 1, 1, 0, 1]), .code (cd14 [1, 1, 0, 1, 0, 0, 1, 0, 0, 1, 1, 1, 1]), .inBlock 1, .code (cd14 [1, 1, 0, 1, 0, 0, 1, 1]), .inLoop (cd14 [1, 1, 0, 1, 0, 0]), .inBlock 0, .code (cd14 [1, 1, 1])]) (us := []) (by kernel_rfl) ?_
          refine r_quiet hS51 (c := (cd14 [1, 1, 0, 1, 0, 0, 1, 0, 0, 1, 1, 1, 0, 0])) (id := 9) (by kernel_rfl) (by kernel_rfl) (by kernel_rfl) (is := [0, 1, 2, 3, 4, 5, 6, 7, 8, 9, 10, 11, 12, 13]) (by kernel_rfl) ?_
          refine q_splitr 2 (is' := [2, 3, 4, 5, 6, 7, 8, 9, 10, 11, 12, 13]) (us := [(37, .int .i64 t49)]) (d := 38) (t := (decide (t49 > 0))) (by kernel_rfl) (fun h55 => ?_) (fun h56 => ?_)
          · skip
            have hp57 := ite_t hp48 h55
            refine q_run 4 (is' := [6, 7, 8, 9, 10, 11, 12, 13]) (us := [(39, .bool true), (40, .slice A15 t14.length c16), (41, .int .i64 t49), (42, .int .i64 (IntKind.i64.wrap (t49 - 1)))]) (by kernel_rfl) ?_
            obtain ⟨g58, hp59⟩ := ite_some hp57
            obtain ⟨b60, p61, hA62, -⟩ := (hS51.row 0 rfl).at_ len_api_Final (by omega) g58.1 g58.2
            refine q_indexAddr (c := (cd14 [1, 1, 0, 1, 0, 0, 1, 0, 0, 1, 1, 1, 0, 0])) (i := 6) (d := (some 43)) (ty := 0) (t := 36) (e := 24) (n := t14.length) (cp := c16) (sz := 49) (kk := .i64) (x := (.tmp 40)) (y := (.tmp 42)) (b := b60) (o' := p61) (j := (IntKind.i64.wrap (t49 - 1))) (by kernel_rfl) (by kernel_rfl) (slv (by kernel_rfl) hA62) (by kernel_rfl) (by kernel_rfl) (by kernel_rfl) g58.1 g58.2 ?_
            refine q_load (c := (cd14 [1, 1, 0, 1, 0, 0, 1, 0, 0, 1, 1, 1, 0, 0])) (i := 7) (d := (some 44)) (ty := 24) (t := 24) (x := (.tmp 43)) (p := ⟨b60, p61 + (IntKind.i64.wrap (t49 - 1)).toNat * 49, none⟩) (v := .agg (enc_api_Final (gt t14 (IntKind.i64.wrap (t49 - 1)))).toArray) (by kernel_rfl) (by kernel_rfl) (by kernel_rfl) (fun w hC => (loads_agg ((hC.row 0 rfl).at2 hA62 len_api_Final (by omega) g58.1 g58.2) (by kernel_rfl) (lenK (len_api_Final _) (by kernel_rfl)))) ?_
            refine q_run 2 (is' := [10, 11, 12, 13]) (us := [(45, .slice Aa0 a0.length ca0), (46, .int .i64 t18)]) (by kernel_rfl) ?_
            obtain ⟨g64, hp65⟩ := ite_some hp59
            obtain ⟨b66, p67, hA68, hc69⟩ := ha0.atF g64.1 g64.2
            refine q_indexAddr (c := (cd14 [1, 1, 0, 1, 0, 0, 1, 0, 0, 1, 1, 1, 0, 0])) (i := 10) (d := (some 47)) (ty := 0) (t := 36) (e := 24) (n := a0.length) (cp := ca0) (sz := 49) (kk := .i64) (x := (.tmp 45)) (y := (.tmp 46)) (b := b66) (o' := p67) (j := t18) (by kernel_rfl) (by kernel_rfl) (slv (by kernel_rfl) hA68) (by kernel_rfl) (by kernel_rfl) (by kernel_rfl) g64.1 g64.2 ?_
            refine q_load (c := (cd14 [1, 1, 0, 1, 0, 0, 1, 0, 0, 1, 1, 1, 0, 0])) (i := 11) (d := (some 48)) (ty := 24) (t := 24) (x := (.tmp 47)) (p := ⟨b66, p67 + t18.toNat * 49, none⟩) (v := .agg (enc_api_Final (gt a0 t18)).toArray) (by kernel_rfl) (by kernel_rfl) (by kernel_rfl) (fun w hC => (loads_agg (hc69.cells hC) (by kernel_rfl) (lenK (len_api_Final _) (by kernel_rfl)))) ?_
            refine q_val (c := (cd14 [1, 1, 0, 1, 0, 0, 1, 0, 0, 1, 1, 1, 0, 0])) (i := 12) (d := (some 49)) (ty := 4) (op := .binOp .eql 24 (.tmp 44) (.tmp 48) 24) (v := .bool (decide ((gt t14 (IntKind.i64.wrap (t49 - 1))) = (gt a0 t18)))) (by kernel_rfl) (by kernel_rfl) (fun w hC o ho _ => x_eql_api_Final (by kernel_rfl) (by kernel_rfl) ho) ?_
            refine q_split (decide ((gt t14 (IntKind.i64.wrap (t49 - 1))) = (gt a0 t18))) (fun h70 => ?_) (fun h71 => ?_)
            · skip
              have hp72 := ite_t hp65 h70
              refine q_run 1 (is' := []) (us := [(50, .bool true)]) (by kernel_rfl) ?_
              refine Qs.nil ?_
              intro w73 hS74
              refine sx_run 7 (todo' := [.inLoop (cd14 [1, 1, 0, 1, 0, 0]), .inBlock 0, .code (cd14 [1, 1, 1])]) (us := [(10, .int .i64 t18), (11, .int .i64 (IntKind.i64.wrap (t18 + 1))), (4, .int .i64 (IntKind.i64.wrap (t18 + 1)))]) (by kernel_rfl) ?_
              refine sx_run 1 (todo' := [.code (cd14 [1, 1, 0, 1, 0, 0]), .inLoop (cd14 [1, 1, 0, 1, 0, 0]), .inBlock 0, .code (cd14 [1, 1, 1])]) (us := []) (by kernel_rfl) ?_
              refine Runs.fill (m := [some (.slice Aa0 a0.length ca0), none, none, some (.slice A15 t14.length c16), some (.int .i64 (IntKind.i64.wrap (t18 + 1))), none, none, none, none, none, none, none, none, none, none, none, none, none, none, none, none, none, none, none, none, none, none, none, none, none, none, none, none, none, none, none, none, none, none, none, none, none, none, none, none, none, none, none, none, none, none, none, none, none, none, none, none, none, none, none, none, none, none, none, none, none, none, none, none, none, none]) (by kernel_rfl) ?_
              exact ih25 t14 (IntKind.i64.wrap (t18 + 1)) _ hp72 he23 _ A15 c16 _ hS74
            · skip
              have hp75 := ite_f hp65 h71
              refine q_run 1 (is' := []) (us := [(50, .bool false)]) (by kernel_rfl) ?_
              refine Qs.nil ?_
              intro w76 hS77
              refine sx_run 6 (todo' := [.inRegion (opsOf (cd14 [1, 1, 0, 1, 0, 0, 1, 0, 0, 1, 1, 1, 1, 0])) [2, 3, 4], .code (cd14 [1, 1, 0, 1, 0, 0, 1, 0, 0, 1, 1, 1, 1, 1]), .inBlock 1, .code (cd14 [1, 1, 0, 1, 0, 0, 1, 1]), .inLoop (cd14 [1, 1, 0, 1, 0, 0]), .inBlock 0, .code (cd14 [1, 1, 1])]) (us := [(51, .slice A15 t14.length c16), (52, .agg (enc_api_Final (⟨0, (Vector.replicate 48 0)⟩ : api_Final)).toArray)]) (by kernel_rfl) ?_
              refine r_lit (c := (cd14 [1, 1, 0, 1, 0, 0, 1, 0, 0, 1, 1, 1, 1, 0])) (i := 2) (d := (some 53)) (ty := 36) (t := 36) (e := 24) (sz := 49) (n := 1) (parts := #[(0, (.tmp 52))]) (vs := [(0, .agg (enc_api_Final (⟨0, (Vector.replicate 48 0)⟩ : api_Final)).toArray)]) (z := zeroOf Try.prog 24) (cs' := ([(⟨0, (Vector.replicate 48 0)⟩ : api_Final)] : List api_Final).flatMap enc_api_Final) hS77 (by kernel_rfl) (by kernel_rfl) (by kernel_rfl) (by kernel_rfl) (by kernel_rfl) (by decide) (by decide) (by kernel_rfl) rfl (Parts.cons (c := enc_api_Final (⟨0, (Vector.replicate 48 0)⟩ : api_Final)) (by kernel_rfl) (len_api_Final _) Parts.nil) rfl ?_
              intro b79 w80 hS81
              have hS82 := hS81.pick1
              obtain ⟨g83, hp84⟩ := ite_some hp75
              refine r_append (c := (cd14 [1, 1, 0, 1, 0, 0, 1, 0, 0, 1, 1, 1, 1, 0])) (i := 3) (d := (some 54)) (ty := 36) (enc := enc_api_Final) (e := 24) (u := 24) (t := 36) (t2 := 36) (sz := 49) (cp := c16) (A := A15) (bytes := 392) (xs := t14) (ys := ([(⟨0, (Vector.replicate 48 0)⟩ : api_Final)] : List api_Final)) (s := (.tmp 51)) (x := (.tmp 53)) (xv := .slice (some ⟨b79, 0, none⟩) ([(⟨0, (Vector.replicate 48 0)⟩ : api_Final)] : List api_Final).length 1) (info := infoOf Try.prog 24) (z := zeroOf Try.prog 24) (ycs := ([(⟨0, (Vector.replicate 48 0)⟩ : api_Final)] : List api_Final).flatMap enc_api_Final) hS82 (by kernel_rfl) (by kernel_rfl) (by kernel_rfl) (by kernel_rfl) (by kernel_rfl) (.inl (by kernel_rfl)) (by kernel_rfl) (by kernel_rfl) (by kernel_rfl) (by kernel_rfl) (by kernel_rfl) (by omega) len_api_Final one_api_Final (src_row (hS82.row 1 rfl) (by omega) len_api_Final) rfl g83 (by omega) ?_
              intro A85 c86 w87 hS88
              refine sx_run 3 (todo' := [.code (cd14 [1, 1, 0, 1, 0, 0, 1, 0, 0, 1, 1, 1, 1, 1, 0]), .code (cd14 [1, 1, 0, 1, 0, 0, 1, 0, 0, 1, 1, 1, 1, 1, 1]), .inBlock 1, .code (cd14 [1, 1, 0, 1, 0, 0, 1, 1]), .inLoop (cd14 [1, 1, 0, 1, 0, 0]), .inBlock 0, .code (cd14 [1, 1, 1])]) (us := [(3, .slice A85 (t14 ++ ([(⟨0, (Vector.replicate 48 0)⟩ : api_Final)] : List api_Final)).length c86)]) (by kernel_rfl) ?_
              obtain ⟨g90, hp91⟩ := ite_some hp84
              obtain ⟨g97, hp98⟩ := ite_some hp91
              obtain ⟨g104, hp105⟩ := ite_some hp98
              refine r_drawnF (X := Unit) (c := (cd14 [1, 1, 0, 1, 0, 0, 1, 0, 0, 1, 1, 1, 1, 1, 0])) (id := 11) (C0 := fun w' => St w0 Z (xrow A85 c86 24 49 ((t14 ++ ([(⟨0, (Vector.replicate 48 0)⟩ : api_Final)] : List api_Final)).flatMap enc_api_Final) :: xrow (some ⟨b79, 0, none⟩) 1 24 49 (([(⟨0, (Vector.replicate 48 0)⟩ : api_Final)] : List api_Final).flatMap enc_api_Final) :: fs) w') (C1 := fun _ w' => St w0 Z (xrow A85 c86 24 49 ((copyv (t14 ++ ([(⟨0, (Vector.replicate 48 0)⟩ : api_Final)] : List api_Final)) ((IntKind.i64.wrap (t49 + 1)).toNat) ((t14 ++ ([(⟨0, (Vector.replicate 48 0)⟩ : api_Final)] : List api_Final)).length - (IntKind.i64.wrap (t49 + 1)).toNat) (((t14 ++ ([(⟨0, (Vector.replicate 48 0)⟩ : api_Final)] : List api_Final)).drop t49.toNat).take ((t14 ++ ([(⟨0, (Vector.replicate 48 0)⟩ : api_Final)] : List api_Final)).length - t49.toNat))).flatMap enc_api_Final) :: xrow (some ⟨b79, 0, none⟩) 1 24 49 (([(⟨0, (Vector.replicate 48 0)⟩ : api_Final)] : List api_Final).flatMap enc_api_Final) :: fs) w') (vs := [.slice A85 (t14 ++ ([(⟨0, (Vector.replicate 48 0)⟩ : api_Final)] : List api_Final)).length c86, .int .i64 t49, .int .i64 (IntKind.i64.wrap (t49 + 1)), .slice (vA A85 c86 ((IntKind.i64.wrap (t49 + 1)).toNat) 49) ((t14 ++ ([(⟨0, (Vector.replicate 48 0)⟩ : api_Final)] : List api_Final)).length - (IntKind.i64.wrap (t49 + 1)).toNat) (c86 - ((IntKind.i64.wrap (t49 + 1)).toNat)), .slice A85 (t14 ++ ([(⟨0, (Vector.replicate 48 0)⟩ : api_Final)] : List api_Final)).length c86, .int .i64 t49, .slice (vA A85 c86 t49.toNat 49) ((t14 ++ ([(⟨0, (Vector.replicate 48 0)⟩ : api_Final)] : List api_Final)).length - t49.toNat) (c86 - t49.toNat), undef]) (vx := fun _ => [.slice A85 (t14 ++ ([(⟨0, (Vector.replicate 48 0)⟩ : api_Final)] : List api_Final)).length c86, .int .i64 t49, .int .i64 (IntKind.i64.wrap (t49 + 1)), .slice (vA A85 c86 ((IntKind.i64.wrap (t49 + 1)).toNat) 49) ((t14 ++ ([(⟨0, (Vector.replicate 48 0)⟩ : api_Final)] : List api_Final)).length - (IntKind.i64.wrap (t49 + 1)).toNat) (c86 - ((IntKind.i64.wrap (t49 + 1)).toNat)), .slice A85 (t14 ++ ([(⟨0, (Vector.replicate 48 0)⟩ : api_Final)] : List api_Final)).length c86, .int .i64 t49, .slice (vA A85 c86 t49.toNat 49) ((t14 ++ ([(⟨0, (Vector.replicate 48 0)⟩ : api_Final)] : List api_Final)).length - t49.toNat) (c86 - t49.toNat), .int .i64 ((min (((t14 ++ ([(⟨0, (Vector.replicate 48 0)⟩ : api_Final)] : List api_Final)).drop t49.toNat).take ((t14 ++ ([(⟨0, (Vector.replicate 48 0)⟩ : api_Final)] : List api_Final)).length - t49.toNat)).length ((t14 ++ ([(⟨0, (Vector.replicate 48 0)⟩ : api_Final)] : List api_Final)).length - (IntKind.i64.wrap (t49 + 1)).toNat) : Nat) : Int)]) 7 8 [7] [] (by kernel_rfl) (by kernel_rfl) (by kernel_rfl) (by decide) (by kernel_rfl) (by kernel_rfl) (by kernel_rfl) rfl ?_ (fun _ => ⟨rfl, rfl⟩) hS88.drew ?_ ?_ ?_ ?_ ?_
              · intro _u i hi hd
                match i, hi, hd with
                | 0, _, _ => exact rfl
                | 1, _, _ => exact rfl
                | 2, _, _ => exact rfl
                | 3, _, _ => exact rfl
                | 4, _, _ => exact rfl
                | 5, _, _ => exact rfl
                | 6, _, _ => exact rfl
                | 7, _, hd => exact absurd hd (by decide)
                | i + 8, hi, _ => exact absurd hi (by omega)
              · intro i hi hd w hC
                match i, hi, hd with
                | 0, _, _ => exact does_pure (v := .slice A85 (t14 ++ ([(⟨0, (Vector.replicate 48 0)⟩ : api_Final)] : List api_Final)).length c86) (by kernel_rfl) rfl hC
                | 1, _, _ => exact does_pure (v := .int .i64 t49) (by kernel_rfl) rfl hC
                | 2, _, _ => exact does_pure (v := .int .i64 (IntKind.i64.wrap (t49 + 1))) (by kernel_rfl) rfl hC
                | 3, _, _ => exact does_run (x_cutSl_sn (t := 36) (x := (.tmp 55)) (lo := (.tmp 57)) (e := 24) (sz := 49) (A := A85) (n := (t14 ++ ([(⟨0, (Vector.replicate 48 0)⟩ : api_Final)] : List api_Final)).length) (c := c86) (k := .i64) (by kernel_rfl) (by kernel_rfl) (by kernel_rfl) (by kernel_rfl) g90 rfl (by kernel_rfl)) rfl hC
                | 4, _, _ => exact does_pure (v := .slice A85 (t14 ++ ([(⟨0, (Vector.replicate 48 0)⟩ : api_Final)] : List api_Final)).length c86) (by kernel_rfl) rfl hC
                | 5, _, _ => exact does_pure (v := .int .i64 t49) (by kernel_rfl) rfl hC
                | 6, _, _ => exact does_run (x_cutSl_sn (t := 36) (x := (.tmp 59)) (lo := (.tmp 60)) (e := 24) (sz := 49) (A := A85) (n := (t14 ++ ([(⟨0, (Vector.replicate 48 0)⟩ : api_Final)] : List api_Final)).length) (c := c86) (k := .i64) (by kernel_rfl) (by kernel_rfl) (by kernel_rfl) (by kernel_rfl) g97 rfl (by kernel_rfl)) rfl hC
                | 7, _, hd => exact absurd hd (by decide)
                | i + 8, hi, _ => exact absurd hi (by omega)
              · intro i hi hd _u w hC
                match i, hi, hd with
                | 0, _, _ => exact does_pure (v := .slice A85 (t14 ++ ([(⟨0, (Vector.replicate 48 0)⟩ : api_Final)] : List api_Final)).length c86) (by kernel_rfl) rfl hC
                | 1, _, _ => exact does_pure (v := .int .i64 t49) (by kernel_rfl) rfl hC
                | 2, _, _ => exact does_pure (v := .int .i64 (IntKind.i64.wrap (t49 + 1))) (by kernel_rfl) rfl hC
                | 3, _, _ => exact does_run (x_cutSl_sn (t := 36) (x := (.tmp 55)) (lo := (.tmp 57)) (e := 24) (sz := 49) (A := A85) (n := (t14 ++ ([(⟨0, (Vector.replicate 48 0)⟩ : api_Final)] : List api_Final)).length) (c := c86) (k := .i64) (by kernel_rfl) (by kernel_rfl) (by kernel_rfl) (by kernel_rfl) g90 rfl (by kernel_rfl)) rfl hC
                | 4, _, _ => exact does_pure (v := .slice A85 (t14 ++ ([(⟨0, (Vector.replicate 48 0)⟩ : api_Final)] : List api_Final)).length c86) (by kernel_rfl) rfl hC
                | 5, _, _ => exact does_pure (v := .int .i64 t49) (by kernel_rfl) rfl hC
                | 6, _, _ => exact does_run (x_cutSl_sn (t := 36) (x := (.tmp 59)) (lo := (.tmp 60)) (e := 24) (sz := 49) (A := A85) (n := (t14 ++ ([(⟨0, (Vector.replicate 48 0)⟩ : api_Final)] : List api_Final)).length) (c := c86) (k := .i64) (by kernel_rfl) (by kernel_rfl) (by kernel_rfl) (by kernel_rfl) g97 rfl (by kernel_rfl)) rfl hC
                | 7, _, hd => exact absurd hd (by decide)
                | i + 8, hi, _ => exact absurd hi (by omega)
              · intro w hC
                exact does_copyV (ux := ()) (enc := enc_api_Final) (e := 24) (t := 36) (t2 := 36) (sz := 49) (cp := c86) (L := ((IntKind.i64.wrap (t49 + 1)).toNat)) (n := ((t14 ++ ([(⟨0, (Vector.replicate 48 0)⟩ : api_Final)] : List api_Final)).length - (IntKind.i64.wrap (t49 + 1)).toNat)) (A := A85) (xs := (t14 ++ ([(⟨0, (Vector.replicate 48 0)⟩ : api_Final)] : List api_Final))) (ys := (((t14 ++ ([(⟨0, (Vector.replicate 48 0)⟩ : api_Final)] : List api_Final)).drop t49.toNat).take ((t14 ++ ([(⟨0, (Vector.replicate 48 0)⟩ : api_Final)] : List api_Final)).length - t49.toNat))) (s := (.tmp 58)) (x := (.tmp 61)) (xv := .slice (vA A85 c86 t49.toNat 49) ((t14 ++ ([(⟨0, (Vector.replicate 48 0)⟩ : api_Final)] : List api_Final)).length - t49.toNat) (c86 - t49.toNat)) hC (by kernel_rfl) (by kernel_rfl) (by kernel_rfl) (by kernel_rfl) (by kernel_rfl) (by omega) len_api_Final one_api_Final (by omega) (src_rowV' (L := t49.toNat) (n := ((t14 ++ ([(⟨0, (Vector.replicate 48 0)⟩ : api_Final)] : List api_Final)).length - t49.toNat)) (hC.row 0 rfl) (by omega) len_api_Final (by omega)) rfl (fun _ h => h)
              · intro i hi hd hne _u w hC
                match i, hi, hd, hne with
                | 0, _, hd, _ => exact absurd hd (by decide)
                | 1, _, hd, _ => exact absurd hd (by decide)
                | 2, _, hd, _ => exact absurd hd (by decide)
                | 3, _, hd, _ => exact absurd hd (by decide)
                | 4, _, hd, _ => exact absurd hd (by decide)
                | 5, _, hd, _ => exact absurd hd (by decide)
                | 6, _, hd, _ => exact absurd hd (by decide)
                | 7, _, _, hne => exact absurd rfl hne
                | i + 8, hi, _, _ => exact absurd hi (by omega)
              intro _u w106 hS107
              refine Runs.fill (m := [none, none, none, some (.slice A85 (t14 ++ ([(⟨0, (Vector.replicate 48 0)⟩ : api_Final)] : List api_Final)).length c86), none, none, none, none, none, none, none, none, none, none, none, none, none, none, none, none, none, none, none, none, none, none, none, none, none, none, none, none, none, none, none, none, none, none, none, none, none, none, none, none, none, none, none, none, none, none, none, none, none, none, some (.slice A85 (t14 ++ ([(⟨0, (Vector.replicate 48 0)⟩ : api_Final)] : List api_Final)).length c86), some (.slice A85 (t14 ++ ([(⟨0, (Vector.replicate 48 0)⟩ : api_Final)] : List api_Final)).length c86), none, none, none, some (.slice A85 (t14 ++ ([(⟨0, (Vector.replicate 48 0)⟩ : api_Final)] : List api_Final)).length c86), none, none, none, none, none, none, none, none, none, none, none]) (by kernel_rfl) ?_
              refine Runs.refill (m' := [none, none, none, some (.slice A85 (copyv (t14 ++ ([(⟨0, (Vector.replicate 48 0)⟩ : api_Final)] : List api_Final)) ((IntKind.i64.wrap (t49 + 1)).toNat) ((t14 ++ ([(⟨0, (Vector.replicate 48 0)⟩ : api_Final)] : List api_Final)).length - (IntKind.i64.wrap (t49 + 1)).toNat) (((t14 ++ ([(⟨0, (Vector.replicate 48 0)⟩ : api_Final)] : List api_Final)).drop t49.toNat).take ((t14 ++ ([(⟨0, (Vector.replicate 48 0)⟩ : api_Final)] : List api_Final)).length - t49.toNat))).length c86), none, none, none, none, none, none, none, none, none, none, none, none, none, none, none, none, none, none, none, none, none, none, none, none, none, none, none, none, none, none, none, none, none, none, none, none, none, none, none, none, none, none, none, none, none, none, none, none, none, none, some (.slice A85 (copyv (t14 ++ ([(⟨0, (Vector.replicate 48 0)⟩ : api_Final)] : List api_Final)) ((IntKind.i64.wrap (t49 + 1)).toNat) ((t14 ++ ([(⟨0, (Vector.replicate 48 0)⟩ : api_Final)] : List api_Final)).length - (IntKind.i64.wrap (t49 + 1)).toNat) (((t14 ++ ([(⟨0, (Vector.replicate 48 0)⟩ : api_Final)] : List api_Final)).drop t49.toNat).take ((t14 ++ ([(⟨0, (Vector.replicate 48 0)⟩ : api_Final)] : List api_Final)).length - t49.toNat))).length c86), some (.slice A85 (copyv (t14 ++ ([(⟨0, (Vector.replicate 48 0)⟩ : api_Final)] : List api_Final)) ((IntKind.i64.wrap (t49 + 1)).toNat) ((t14 ++ ([(⟨0, (Vector.replicate 48 0)⟩ : api_Final)] : List api_Final)).length - (IntKind.i64.wrap (t49 + 1)).toNat) (((t14 ++ ([(⟨0, (Vector.replicate 48 0)⟩ : api_Final)] : List api_Final)).drop t49.toNat).take ((t14 ++ ([(⟨0, (Vector.replicate 48 0)⟩ : api_Final)] : List api_Final)).length - t49.toNat))).length c86), none, none, none, some (.slice A85 (copyv (t14 ++ ([(⟨0, (Vector.replicate 48 0)⟩ : api_Final)] : List api_Final)) ((IntKind.i64.wrap (t49 + 1)).toNat) ((t14 ++ ([(⟨0, (Vector.replicate 48 0)⟩ : api_Final)] : List api_Final)).length - (IntKind.i64.wrap (t49 + 1)).toNat) (((t14 ++ ([(⟨0, (Vector.replicate 48 0)⟩ : api_Final)] : List api_Final)).drop t49.toNat).take ((t14 ++ ([(⟨0, (Vector.replicate 48 0)⟩ : api_Final)] : List api_Final)).length - t49.toNat))).length c86), none, none, none, none, none, none, none, none, none, none, none]) (by simp only [copyv_len (show ((IntKind.i64.wrap (t49 + 1)).toNat) + ((t14 ++ ([(⟨0, (Vector.replicate 48 0)⟩ : api_Final)] : List api_Final)).length - (IntKind.i64.wrap (t49 + 1)).toNat) ≤ (t14 ++ ([(⟨0, (Vector.replicate 48 0)⟩ : api_Final)] : List api_Final)).length from by omega)]) ?_
              refine sx_run 5 (todo' := [.inRegion (opsOf (cd14 [1, 1, 0, 1, 0, 0, 1, 0, 0, 1, 1, 1, 1, 1, 1])) [4, 5, 6, 7], .inBlock 1, .code (cd14 [1, 1, 0, 1, 0, 0, 1, 1]), .inLoop (cd14 [1, 1, 0, 1, 0, 0]), .inBlock 0, .code (cd14 [1, 1, 1])]) (us := [(63, .slice A85 (copyv (t14 ++ ([(⟨0, (Vector.replicate 48 0)⟩ : api_Final)] : List api_Final)) ((IntKind.i64.wrap (t49 + 1)).toNat) ((t14 ++ ([(⟨0, (Vector.replicate 48 0)⟩ : api_Final)] : List api_Final)).length - (IntKind.i64.wrap (t49 + 1)).toNat) (((t14 ++ ([(⟨0, (Vector.replicate 48 0)⟩ : api_Final)] : List api_Final)).drop t49.toNat).take ((t14 ++ ([(⟨0, (Vector.replicate 48 0)⟩ : api_Final)] : List api_Final)).length - t49.toNat))).length c86), (64, .int .i64 t49), (65, .slice Aa0 a0.length ca0), (66, .int .i64 t18)]) (by kernel_rfl) ?_
              obtain ⟨g108, hp109⟩ := ite_some hp105
              obtain ⟨b110, p111, hA112, hc113⟩ := ha0.atF g108.1 g108.2
              refine r_indexAddr (c := (cd14 [1, 1, 0, 1, 0, 0, 1, 0, 0, 1, 1, 1, 1, 1, 1])) (i := 4) (d := (some 67)) (ty := 0) (t := 36) (e := 24) (n := a0.length) (cp := ca0) (sz := 49) (kk := .i64) (x := (.tmp 65)) (y := (.tmp 66)) (b := b110) (o' := p111) (j := t18) (by kernel_rfl) (by kernel_rfl) (slv (by kernel_rfl) hA112) (by kernel_rfl) (by kernel_rfl) (by kernel_rfl) g108.1 g108.2 ?_
              refine r_load (c := (cd14 [1, 1, 0, 1, 0, 0, 1, 0, 0, 1, 1, 1, 1, 1, 1])) (i := 5) (d := (some 68)) (ty := 24) (t := 24) (x := (.tmp 67)) (p := ⟨b110, p111 + t18.toNat * 49, none⟩) (v := .agg (enc_api_Final (gt a0 t18)).toArray) (by kernel_rfl) (by kernel_rfl) (by kernel_rfl) (loads_agg (hc113.cells hS107) (by kernel_rfl) (lenK (len_api_Final _) (by kernel_rfl))) ?_
              obtain ⟨g114, hp115⟩ := ite_some hp109
              obtain ⟨b116, p117, hA118, -⟩ := (hS107.row 0 rfl).at_ len_api_Final (by omega) g114.1 g114.2
              refine r_indexAddr (c := (cd14 [1, 1, 0, 1, 0, 0, 1, 0, 0, 1, 1, 1, 1, 1, 1])) (i := 6) (d := (some 69)) (ty := 0) (t := 36) (e := 24) (n := (copyv (t14 ++ ([(⟨0, (Vector.replicate 48 0)⟩ : api_Final)] : List api_Final)) ((IntKind.i64.wrap (t49 + 1)).toNat) ((t14 ++ ([(⟨0, (Vector.replicate 48 0)⟩ : api_Final)] : List api_Final)).length - (IntKind.i64.wrap (t49 + 1)).toNat) (((t14 ++ ([(⟨0, (Vector.replicate 48 0)⟩ : api_Final)] : List api_Final)).drop t49.toNat).take ((t14 ++ ([(⟨0, (Vector.replicate 48 0)⟩ : api_Final)] : List api_Final)).length - t49.toNat))).length) (cp := c86) (sz := 49) (kk := .i64) (x := (.tmp 63)) (y := (.tmp 64)) (b := b116) (o' := p117) (j := t49) (by kernel_rfl) (by kernel_rfl) (slv (by kernel_rfl) hA118) (by kernel_rfl) (by kernel_rfl) (by kernel_rfl) g114.1 g114.2 ?_
              refine r_storeEl (c := (cd14 [1, 1, 0, 1, 0, 0, 1, 0, 0, 1, 1, 1, 1, 1, 1])) (i := 7) (d := none) (ty := 0) (enc := enc_api_Final) (e := 24) (t := 24) (sz := 49) (cp := c86) (A := A85) (xs := (copyv (t14 ++ ([(⟨0, (Vector.replicate 48 0)⟩ : api_Final)] : List api_Final)) ((IntKind.i64.wrap (t49 + 1)).toNat) ((t14 ++ ([(⟨0, (Vector.replicate 48 0)⟩ : api_Final)] : List api_Final)).length - (IntKind.i64.wrap (t49 + 1)).toNat) (((t14 ++ ([(⟨0, (Vector.replicate 48 0)⟩ : api_Final)] : List api_Final)).drop t49.toNat).take ((t14 ++ ([(⟨0, (Vector.replicate 48 0)⟩ : api_Final)] : List api_Final)).length - t49.toNat)))) (x := (.tmp 69)) (y := (.tmp 68)) (el := gt (copyv (t14 ++ ([(⟨0, (Vector.replicate 48 0)⟩ : api_Final)] : List api_Final)) ((IntKind.i64.wrap (t49 + 1)).toNat) ((t14 ++ ([(⟨0, (Vector.replicate 48 0)⟩ : api_Final)] : List api_Final)).length - (IntKind.i64.wrap (t49 + 1)).toNat) (((t14 ++ ([(⟨0, (Vector.replicate 48 0)⟩ : api_Final)] : List api_Final)).drop t49.toNat).take ((t14 ++ ([(⟨0, (Vector.replicate 48 0)⟩ : api_Final)] : List api_Final)).length - t49.toNat))) t49) (el' := (gt a0 t18)) (j := t49) (off := 0) (b := b116) (p := p117) (v := .agg (enc_api_Final (gt a0 t18)).toArray) (vs := enc_api_Final (gt a0 t18)) (ad := ⟨b116, p117 + t49.toNat * 49, none⟩) hS107 (by kernel_rfl) (by kernel_rfl) (by kernel_rfl) (by simp) (by kernel_rfl) hA118 g114 rfl len_api_Final (by kernel_rfl) (lenK (len_api_Final _) (by kernel_rfl)) (one_api_Final _) (by rw [len_api_Final]; omega) (by rw [len_api_Final]; omega) (over_all ((len_api_Final _).trans (len_api_Final _).symm)) ?_
              intro w120 hS121
              refine Runs.fill (m := [none, none, none, some (.slice A85 (copyv (t14 ++ ([(⟨0, (Vector.replicate 48 0)⟩ : api_Final)] : List api_Final)) ((IntKind.i64.wrap (t49 + 1)).toNat) ((t14 ++ ([(⟨0, (Vector.replicate 48 0)⟩ : api_Final)] : List api_Final)).length - (IntKind.i64.wrap (t49 + 1)).toNat) (((t14 ++ ([(⟨0, (Vector.replicate 48 0)⟩ : api_Final)] : List api_Final)).drop t49.toNat).take ((t14 ++ ([(⟨0, (Vector.replicate 48 0)⟩ : api_Final)] : List api_Final)).length - t49.toNat))).length c86), none, none, none, none, none, none, none, none, none, none, none, none, none, none, none, none, none, none, none, none, none, none, none, none, none, none, none, none, none, none, none, none, none, none, none, none, none, none, none, none, none, none, none, none, none, none, none, none, none, none, some (.slice A85 (copyv (t14 ++ ([(⟨0, (Vector.replicate 48 0)⟩ : api_Final)] : List api_Final)) ((IntKind.i64.wrap (t49 + 1)).toNat) ((t14 ++ ([(⟨0, (Vector.replicate 48 0)⟩ : api_Final)] : List api_Final)).length - (IntKind.i64.wrap (t49 + 1)).toNat) (((t14 ++ ([(⟨0, (Vector.replicate 48 0)⟩ : api_Final)] : List api_Final)).drop t49.toNat).take ((t14 ++ ([(⟨0, (Vector.replicate 48 0)⟩ : api_Final)] : List api_Final)).length - t49.toNat))).length c86), some (.slice A85 (copyv (t14 ++ ([(⟨0, (Vector.replicate 48 0)⟩ : api_Final)] : List api_Final)) ((IntKind.i64.wrap (t49 + 1)).toNat) ((t14 ++ ([(⟨0, (Vector.replicate 48 0)⟩ : api_Final)] : List api_Final)).length - (IntKind.i64.wrap (t49 + 1)).toNat) (((t14 ++ ([(⟨0, (Vector.replicate 48 0)⟩ : api_Final)] : List api_Final)).drop t49.toNat).take ((t14 ++ ([(⟨0, (Vector.replicate 48 0)⟩ : api_Final)] : List api_Final)).length - t49.toNat))).length c86), none, none, none, some (.slice A85 (copyv (t14 ++ ([(⟨0, (Vector.replicate 48 0)⟩ : api_Final)] : List api_Final)) ((IntKind.i64.wrap (t49 + 1)).toNat) ((t14 ++ ([(⟨0, (Vector.replicate 48 0)⟩ : api_Final)] : List api_Final)).length - (IntKind.i64.wrap (t49 + 1)).toNat) (((t14 ++ ([(⟨0, (Vector.replicate 48 0)⟩ : api_Final)] : List api_Final)).drop t49.toNat).take ((t14 ++ ([(⟨0, (Vector.replicate 48 0)⟩ : api_Final)] : List api_Final)).length - t49.toNat))).length c86), none, none, none, some (.slice A85 (copyv (t14 ++ ([(⟨0, (Vector.replicate 48 0)⟩ : api_Final)] : List api_Final)) ((IntKind.i64.wrap (t49 + 1)).toNat) ((t14 ++ ([(⟨0, (Vector.replicate 48 0)⟩ : api_Final)] : List api_Final)).length - (IntKind.i64.wrap (t49 + 1)).toNat) (((t14 ++ ([(⟨0, (Vector.replicate 48 0)⟩ : api_Final)] : List api_Final)).drop t49.toNat).take ((t14 ++ ([(⟨0, (Vector.replicate 48 0)⟩ : api_Final)] : List api_Final)).length - t49.toNat))).length c86), none, none, none, none, none, none, none]) (by kernel_rfl) ?_
              refine Runs.refill (m' := [none, none, none, some (.slice A85 (setl (copyv (t14 ++ ([(⟨0, (Vector.replicate 48 0)⟩ : api_Final)] : List api_Final)) ((IntKind.i64.wrap (t49 + 1)).toNat) ((t14 ++ ([(⟨0, (Vector.replicate 48 0)⟩ : api_Final)] : List api_Final)).length - (IntKind.i64.wrap (t49 + 1)).toNat) (((t14 ++ ([(⟨0, (Vector.replicate 48 0)⟩ : api_Final)] : List api_Final)).drop t49.toNat).take ((t14 ++ ([(⟨0, (Vector.replicate 48 0)⟩ : api_Final)] : List api_Final)).length - t49.toNat))) t49 (gt a0 t18)).length c86), none, none, none, none, none, none, none, none, none, none, none, none, none, none, none, none, none, none, none, none, none, none, none, none, none, none, none, none, none, none, none, none, none, none, none, none, none, none, none, none, none, none, none, none, none, none, none, none, none, none, some (.slice A85 (setl (copyv (t14 ++ ([(⟨0, (Vector.replicate 48 0)⟩ : api_Final)] : List api_Final)) ((IntKind.i64.wrap (t49 + 1)).toNat) ((t14 ++ ([(⟨0, (Vector.replicate 48 0)⟩ : api_Final)] : List api_Final)).length - (IntKind.i64.wrap (t49 + 1)).toNat) (((t14 ++ ([(⟨0, (Vector.replicate 48 0)⟩ : api_Final)] : List api_Final)).drop t49.toNat).take ((t14 ++ ([(⟨0, (Vector.replicate 48 0)⟩ : api_Final)] : List api_Final)).length - t49.toNat))) t49 (gt a0 t18)).length c86), some (.slice A85 (setl (copyv (t14 ++ ([(⟨0, (Vector.replicate 48 0)⟩ : api_Final)] : List api_Final)) ((IntKind.i64.wrap (t49 + 1)).toNat) ((t14 ++ ([(⟨0, (Vector.replicate 48 0)⟩ : api_Final)] : List api_Final)).length - (IntKind.i64.wrap (t49 + 1)).toNat) (((t14 ++ ([(⟨0, (Vector.replicate 48 0)⟩ : api_Final)] : List api_Final)).drop t49.toNat).take ((t14 ++ ([(⟨0, (Vector.replicate 48 0)⟩ : api_Final)] : List api_Final)).length - t49.toNat))) t49 (gt a0 t18)).length c86), none, none, none, some (.slice A85 (setl (copyv (t14 ++ ([(⟨0, (Vector.replicate 48 0)⟩ : api_Final)] : List api_Final)) ((IntKind.i64.wrap (t49 + 1)).toNat) ((t14 ++ ([(⟨0, (Vector.replicate 48 0)⟩ : api_Final)] : List api_Final)).length - (IntKind.i64.wrap (t49 + 1)).toNat) (((t14 ++ ([(⟨0, (Vector.replicate 48 0)⟩ : api_Final)] : List api_Final)).drop t49.toNat).take ((t14 ++ ([(⟨0, (Vector.replicate 48 0)⟩ : api_Final)] : List api_Final)).length - t49.toNat))) t49 (gt a0 t18)).length c86), none, none, none, some (.slice A85 (setl (copyv (t14 ++ ([(⟨0, (Vector.replicate 48 0)⟩ : api_Final)] : List api_Final)) ((IntKind.i64.wrap (t49 + 1)).toNat) ((t14 ++ ([(⟨0, (Vector.replicate 48 0)⟩ : api_Final)] : List api_Final)).length - (IntKind.i64.wrap (t49 + 1)).toNat) (((t14 ++ ([(⟨0, (Vector.replicate 48 0)⟩ : api_Final)] : List api_Final)).drop t49.toNat).take ((t14 ++ ([(⟨0, (Vector.replicate 48 0)⟩ : api_Final)] : List api_Final)).length - t49.toNat))) t49 (gt a0 t18)).length c86), none, none, none, none, none, none, none]) (by simp only [setl_len]) ?_
              refine sx_run 7 (todo' := [.inLoop (cd14 [1, 1, 0, 1, 0, 0]), .inBlock 0, .code (cd14 [1, 1, 1])]) (us := [(10, .int .i64 t18), (11, .int .i64 (IntKind.i64.wrap (t18 + 1))), (4, .int .i64 (IntKind.i64.wrap (t18 + 1)))]) (by kernel_rfl) ?_
              have hS122 := hS121.pick1
              have hS123 := hS122.drop
              refine sx_run 1 (todo' := [.code (cd14 [1, 1, 0, 1, 0, 0]), .inLoop (cd14 [1, 1, 0, 1, 0, 0]), .inBlock 0, .code (cd14 [1, 1, 1])]) (us := []) (by kernel_rfl) ?_
              refine Runs.fill (m := [some (.slice Aa0 a0.length ca0), none, none, some (.slice A85 (setl (copyv (t14 ++ ([(⟨0, (Vector.replicate 48 0)⟩ : api_Final)] : List api_Final)) ((IntKind.i64.wrap (t49 + 1)).toNat) ((t14 ++ ([(⟨0, (Vector.replicate 48 0)⟩ : api_Final)] : List api_Final)).length - (IntKind.i64.wrap (t49 + 1)).toNat) (((t14 ++ ([(⟨0, (Vector.replicate 48 0)⟩ : api_Final)] : List api_Final)).drop t49.toNat).take ((t14 ++ ([(⟨0, (Vector.replicate 48 0)⟩ : api_Final)] : List api_Final)).length - t49.toNat))) t49 (gt a0 t18)).length c86), some (.int .i64 (IntKind.i64.wrap (t18 + 1))), none, none, none, none, none, none, none, none, none, none, none, none, none, none, none, none, none, none, none, none, none, none, none, none, none, none, none, none, none, none, none, none, none, none, none, none, none, none, none, none, none, none, none, none, none, none, none, none, none, none, none, none, none, none, none, none, none, none, none, none, none, none, none, none, none, none]) (by kernel_rfl) ?_
              exact ih25 (setl (copyv (t14 ++ ([(⟨0, (Vector.replicate 48 0)⟩ : api_Final)] : List api_Final)) ((IntKind.i64.wrap (t49 + 1)).toNat) ((t14 ++ ([(⟨0, (Vector.replicate 48 0)⟩ : api_Final)] : List api_Final)).length - (IntKind.i64.wrap (t49 + 1)).toNat) (((t14 ++ ([(⟨0, (Vector.replicate 48 0)⟩ : api_Final)] : List api_Final)).drop t49.toNat).take ((t14 ++ ([(⟨0, (Vector.replicate 48 0)⟩ : api_Final)] : List api_Final)).length - t49.toNat))) t49 (gt a0 t18)) (IntKind.i64.wrap (t18 + 1)) _ hp115 he23 _ A85 c86 _ hS123
          · skip
            have hp124 := ite_f hp48 h56
            refine q_run 12 (is' := []) (us := [(39, .bool false), (40, undef), (41, undef), (42, undef), (43, undef), (44, undef), (45, undef), (46, undef), (47, undef), (48, undef), (49, undef), (50, .bool false)]) (by kernel_rfl) ?_
            refine Qs.nil ?_
            intro w125 hS126
            refine sx_run 6 (todo' := [.inRegion (opsOf (cd14 [1, 1, 0, 1, 0, 0, 1, 0, 0, 1, 1, 1, 1, 0])) [2, 3, 4], .code (cd14 [1, 1, 0, 1, 0, 0, 1, 0, 0, 1, 1, 1, 1, 1]), .inBlock 1, .code (cd14 [1, 1, 0, 1, 0, 0, 1, 1]), .inLoop (cd14 [1, 1, 0, 1, 0, 0]), .inBlock 0, .code (cd14 [1, 1, 1])]) (us := [(51, .slice A15 t14.length c16), (52, .agg (enc_api_Final (⟨0, (Vector.replicate 48 0)⟩ : api_Final)).toArray)]) (by kernel_rfl) ?_
            refine r_lit (c := (cd14 [1, 1, 0, 1, 0, 0, 1, 0, 0, 1, 1, 1, 1, 0])) (i := 2) (d := (some 53)) (ty := 36) (t := 36) (e := 24) (sz := 49) (n := 1) (parts := #[(0, (.tmp 52))]) (vs := [(0, .agg (enc_api_Final (⟨0, (Vector.replicate 48 0)⟩ : api_Final)).toArray)]) (z := zeroOf Try.prog 24) (cs' := ([(⟨0, (Vector.replicate 48 0)⟩ : api_Final)] : List api_Final).flatMap enc_api_Final) hS126 (by kernel_rfl) (by kernel_rfl) (by kernel_rfl) (by kernel_rfl) (by kernel_rfl) (by decide) (by decide) (by kernel_rfl) rfl (Parts.cons (c := enc_api_Final (⟨0, (Vector.replicate 48 0)⟩ : api_Final)) (by kernel_rfl) (len_api_Final _) Parts.nil) rfl ?_
            intro b128 w129 hS130
            have hS131 := hS130.pick1
            obtain ⟨g132, hp133⟩ := ite_some hp124
            refine r_append (c := (cd14 [1, 1, 0, 1, 0, 0, 1, 0, 0, 1, 1, 1, 1, 0])) (i := 3) (d := (some 54)) (ty := 36) (enc := enc_api_Final) (e := 24) (u := 24) (t := 36) (t2 := 36) (sz := 49) (cp := c16) (A := A15) (bytes := 392) (xs := t14) (ys := ([(⟨0, (Vector.replicate 48 0)⟩ : api_Final)] : List api_Final)) (s := (.tmp 51)) (x := (.tmp 53)) (xv := .slice (some ⟨b128, 0, none⟩) ([(⟨0, (Vector.replicate 48 0)⟩ : api_Final)] : List api_Final).length 1) (info := infoOf Try.prog 24) (z := zeroOf Try.prog 24) (ycs := ([(⟨0, (Vector.replicate 48 0)⟩ : api_Final)] : List api_Final).flatMap enc_api_Final) hS131 (by kernel_rfl) (by kernel_rfl) (by kernel_rfl) (by kernel_rfl) (by kernel_rfl) (.inl (by kernel_rfl)) (by kernel_rfl) (by kernel_rfl) (by kernel_rfl) (by kernel_rfl) (by kernel_rfl) (by omega) len_api_Final one_api_Final (src_row (hS131.row 1 rfl) (by omega) len_api_Final) rfl g132 (by omega) ?_
            intro A134 c135 w136 hS137
            refine sx_run 3 (todo' := [.code (cd14 [1, 1, 0, 1, 0, 0, 1, 0, 0, 1, 1, 1, 1, 1, 0]), .code (cd14 [1, 1, 0, 1, 0, 0, 1, 0, 0, 1, 1, 1, 1, 1, 1]), .inBlock 1, .code (cd14 [1, 1, 0, 1, 0, 0, 1, 1]), .inLoop (cd14 [1, 1, 0, 1, 0, 0]), .inBlock 0, .code (cd14 [1, 1, 1])]) (us := [(3, .slice A134 (t14 ++ ([(⟨0, (Vector.replicate 48 0)⟩ : api_Final)] : List api_Final)).length c135)]) (by kernel_rfl) ?_
            obtain ⟨g139, hp140⟩ := ite_some hp133
            obtain ⟨g146, hp147⟩ := ite_some hp140
            obtain ⟨g153, hp154⟩ := ite_some hp147
            refine r_drawnF (X := Unit) (c := (cd14 [1, 1, 0, 1, 0, 0, 1, 0, 0, 1, 1, 1, 1, 1, 0])) (id := 11) (C0 := fun w' => St w0 Z (xrow A134 c135 24 49 ((t14 ++ ([(⟨0, (Vector.replicate 48 0)⟩ : api_Final)] : List api_Final)).flatMap enc_api_Final) :: xrow (some ⟨b128, 0, none⟩) 1 24 49 (([(⟨0, (Vector.replicate 48 0)⟩ : api_Final)] : List api_Final).flatMap enc_api_Final) :: fs) w') (C1 := fun _ w' => St w0 Z (xrow A134 c135 24 49 ((copyv (t14 ++ ([(⟨0, (Vector.replicate 48 0)⟩ : api_Final)] : List api_Final)) ((IntKind.i64.wrap (t49 + 1)).toNat) ((t14 ++ ([(⟨0, (Vector.replicate 48 0)⟩ : api_Final)] : List api_Final)).length - (IntKind.i64.wrap (t49 + 1)).toNat) (((t14 ++ ([(⟨0, (Vector.replicate 48 0)⟩ : api_Final)] : List api_Final)).drop t49.toNat).take ((t14 ++ ([(⟨0, (Vector.replicate 48 0)⟩ : api_Final)] : List api_Final)).length - t49.toNat))).flatMap enc_api_Final) :: xrow (some ⟨b128, 0, none⟩) 1 24 49 (([(⟨0, (Vector.replicate 48 0)⟩ : api_Final)] : List api_Final).flatMap enc_api_Final) :: fs) w') (vs := [.slice A134 (t14 ++ ([(⟨0, (Vector.replicate 48 0)⟩ : api_Final)] : List api_Final)).length c135, .int .i64 t49, .int .i64 (IntKind.i64.wrap (t49 + 1)), .slice (vA A134 c135 ((IntKind.i64.wrap (t49 + 1)).toNat) 49) ((t14 ++ ([(⟨0, (Vector.replicate 48 0)⟩ : api_Final)] : List api_Final)).length - (IntKind.i64.wrap (t49 + 1)).toNat) (c135 - ((IntKind.i64.wrap (t49 + 1)).toNat)), .slice A134 (t14 ++ ([(⟨0, (Vector.replicate 48 0)⟩ : api_Final)] : List api_Final)).length c135, .int .i64 t49, .slice (vA A134 c135 t49.toNat 49) ((t14 ++ ([(⟨0, (Vector.replicate 48 0)⟩ : api_Final)] : List api_Final)).length - t49.toNat) (c135 - t49.toNat), undef]) (vx := fun _ => [.slice A134 (t14 ++ ([(⟨0, (Vector.replicate 48 0)⟩ : api_Final)] : List api_Final)).length c135, .int .i64 t49, .int .i64 (IntKind.i64.wrap (t49 + 1)), .slice (vA A134 c135 ((IntKind.i64.wrap (t49 + 1)).toNat) 49) ((t14 ++ ([(⟨0, (Vector.replicate 48 0)⟩ : api_Final)] : List api_Final)).length - (IntKind.i64.wrap (t49 + 1)).toNat) (c135 - ((IntKind.i64.wrap (t49 + 1)).toNat)), .slice A134 (t14 ++ ([(⟨0, (Vector.replicate 48 0)⟩ : api_Final)] : List api_Final)).length c135, .int .i64 t49, .slice (vA A134 c135 t49.toNat 49) ((t14 ++ ([(⟨0, (Vector.replicate 48 0)⟩ : api_Final)] : List api_Final)).length - t49.toNat) (c135 - t49.toNat), .int .i64 ((min (((t14 ++ ([(⟨0, (Vector.replicate 48 0)⟩ : api_Final)] : List api_Final)).drop t49.toNat).take ((t14 ++ ([(⟨0, (Vector.replicate 48 0)⟩ : api_Final)] : List api_Final)).length - t49.toNat)).length ((t14 ++ ([(⟨0, (Vector.replicate 48 0)⟩ : api_Final)] : List api_Final)).length - (IntKind.i64.wrap (t49 + 1)).toNat) : Nat) : Int)]) 7 8 [7] [] (by kernel_rfl) (by kernel_rfl) (by kernel_rfl) (by decide) (by kernel_rfl) (by kernel_rfl) (by kernel_rfl) rfl ?_ (fun _ => ⟨rfl, rfl⟩) hS137.drew ?_ ?_ ?_ ?_ ?_
            · intro _u i hi hd
              match i, hi, hd with
              | 0, _, _ => exact rfl
              | 1, _, _ => exact rfl
              | 2, _, _ => exact rfl
              | 3, _, _ => exact rfl
              | 4, _, _ => exact rfl
              | 5, _, _ => exact rfl
              | 6, _, _ => exact rfl
              | 7, _, hd => exact absurd hd (by decide)
              | i + 8, hi, _ => exact absurd hi (by omega)
            · intro i hi hd w hC
              match i, hi, hd with
              | 0, _, _ => exact does_pure (v := .slice A134 (t14 ++ ([(⟨0, (Vector.replicate 48 0)⟩ : api_Final)] : List api_Final)).length c135) (by kernel_rfl) rfl hC
              | 1, _, _ => exact does_pure (v := .int .i64 t49) (by kernel_rfl) rfl hC
              | 2, _, _ => exact does_pure (v := .int .i64 (IntKind.i64.wrap (t49 + 1))) (by kernel_rfl) rfl hC
              | 3, _, _ => exact does_run (x_cutSl_sn (t := 36) (x := (.tmp 55)) (lo := (.tmp 57)) (e := 24) (sz := 49) (A := A134) (n := (t14 ++ ([(⟨0, (Vector.replicate 48 0)⟩ : api_Final)] : List api_Final)).length) (c := c135) (k := .i64) (by kernel_rfl) (by kernel_rfl) (by kernel_rfl) (by kernel_rfl) g139 rfl (by kernel_rfl)) rfl hC
              | 4, _, _ => exact does_pure (v := .slice A134 (t14 ++ ([(⟨0, (Vector.replicate 48 0)⟩ : api_Final)] : List api_Final)).length c135) (by kernel_rfl) rfl hC
              | 5, _, _ => exact does_pure (v := .int .i64 t49) (by kernel_rfl) rfl hC
              | 6, _, _ => exact does_run (x_cutSl_sn (t := 36) (x := (.tmp 59)) (lo := (.tmp 60)) (e := 24) (sz := 49) (A := A134) (n := (t14 ++ ([(⟨0, (Vector.replicate 48 0)⟩ : api_Final)] : List api_Final)).length) (c := c135) (k := .i64) (by kernel_rfl) (by kernel_rfl) (by kernel_rfl) (by kernel_rfl) g146 rfl (by kernel_rfl)) rfl hC
              | 7, _, hd => exact absurd hd (by decide)
              | i + 8, hi, _ => exact absurd hi (by omega)
            · intro i hi hd _u w hC
              match i, hi, hd with
              | 0, _, _ => exact does_pure (v := .slice A134 (t14 ++ ([(⟨0, (Vector.replicate 48 0)⟩ : api_Final)] : List api_Final)).length c135) (by kernel_rfl) rfl hC
              | 1, _, _ => exact does_pure (v := .int .i64 t49) (by kernel_rfl) rfl hC
              | 2, _, _ => exact does_pure (v := .int .i64 (IntKind.i64.wrap (t49 + 1))) (by kernel_rfl) rfl hC
              | 3, _, _ => exact does_run (x_cutSl_sn (t := 36) (x := (.tmp 55)) (lo := (.tmp 57)) (e := 24) (sz := 49) (A := A134) (n := (t14 ++ ([(⟨0, (Vector.replicate 48 0)⟩ : api_Final)] : List api_Final)).length) (c := c135) (k := .i64) (by kernel_rfl) (by kernel_rfl) (by kernel_rfl) (by kernel_rfl) g139 rfl (by kernel_rfl)) rfl hC
              | 4, _, _ => exact does_pure (v := .slice A134 (t14 ++ ([(⟨0, (Vector.replicate 48 0)⟩ : api_Final)] : List api_Final)).length c135) (by kernel_rfl) rfl hC
              | 5, _, _ => exact does_pure (v := .int .i64 t49) (by kernel_rfl) rfl hC
              | 6, _, _ => exact does_run (x_cutSl_sn (t := 36) (x := (.tmp 59)) (lo := (.tmp 60)) (e := 24) (sz := 49) (A := A134) (n := (t14 ++ ([(⟨0, (Vector.replicate 48 0)⟩ : api_Final)] : List api_Final)).length) (c := c135) (k := .i64) (by kernel_rfl) (by kernel_rfl) (by kernel_rfl) (by kernel_rfl) g146 rfl (by kernel_rfl)) rfl hC
              | 7, _, hd => exact absurd hd (by decide)
              | i + 8, hi, _ => exact absurd hi (by omega)
            · intro w hC
              exact does_copyV (ux := ()) (enc := enc_api_Final) (e := 24) (t := 36) (t2 := 36) (sz := 49) (cp := c135) (L := ((IntKind.i64.wrap (t49 + 1)).toNat)) (n := ((t14 ++ ([(⟨0, (Vector.replicate 48 0)⟩ : api_Final)] : List api_Final)).length - (IntKind.i64.wrap (t49 + 1)).toNat)) (A := A134) (xs := (t14 ++ ([(⟨0, (Vector.replicate 48 0)⟩ : api_Final)] : List api_Final))) (ys := (((t14 ++ ([(⟨0, (Vector.replicate 48 0)⟩ : api_Final)] : List api_Final)).drop t49.toNat).take ((t14 ++ ([(⟨0, (Vector.replicate 48 0)⟩ : api_Final)] : List api_Final)).length - t49.toNat))) (s := (.tmp 58)) (x := (.tmp 61)) (xv := .slice (vA A134 c135 t49.toNat 49) ((t14 ++ ([(⟨0, (Vector.replicate 48 0)⟩ : api_Final)] : List api_Final)).length - t49.toNat) (c135 - t49.toNat)) hC (by kernel_rfl) (by kernel_rfl) (by kernel_rfl) (by kernel_rfl) (by kernel_rfl) (by omega) len_api_Final one_api_Final (by omega) (src_rowV' (L := t49.toNat) (n := ((t14 ++ ([(⟨0, (Vector.replicate 48 0)⟩ : api_Final)] : List api_Final)).length - t49.toNat)) (hC.row 0 rfl) (by omega) len_api_Final (by omega)) rfl (fun _ h => h)
            · intro i hi hd hne _u w hC
              match i, hi, hd, hne with
              | 0, _, hd, _ => exact absurd hd (by decide)
              | 1, _, hd, _ => exact absurd hd (by decide)
              | 2, _, hd, _ => exact absurd hd (by decide)
              | 3, _, hd, _ => exact absurd hd (by decide)
              | 4, _, hd, _ => exact absurd hd (by decide)
              | 5, _, hd, _ => exact absurd hd (by decide)
              | 6, _, hd, _ => exact absurd hd (by decide)
              | 7, _, _, hne => exact absurd rfl hne
              | i + 8, hi, _, _ => exact absurd hi (by omega)
            intro _u w155 hS156
            refine Runs.fill (m := [none, none, none, some (.slice A134 (t14 ++ ([(⟨0, (Vector.replicate 48 0)⟩ : api_Final)] : List api_Final)).length c135), none, none, none, none, none, none, none, none, none, none, none, none, none, none, none, none, none, none, none, none, none, none, none, none, none, none, none, none, none, none, none, none, none, none, none, none, none, none, none, none, none, none, none, none, none, none, none, none, none, none, some (.slice A134 (t14 ++ ([(⟨0, (Vector.replicate 48 0)⟩ : api_Final)] : List api_Final)).length c135), some (.slice A134 (t14 ++ ([(⟨0, (Vector.replicate 48 0)⟩ : api_Final)] : List api_Final)).length c135), none, none, none, some (.slice A134 (t14 ++ ([(⟨0, (Vector.replicate 48 0)⟩ : api_Final)] : List api_Final)).length c135), none, none, none, none, none, none, none, none, none, none, none]) (by kernel_rfl) ?_
            refine Runs.refill (m' := [none, none, none, some (.slice A134 (copyv (t14 ++ ([(⟨0, (Vector.replicate 48 0)⟩ : api_Final)] : List api_Final)) ((IntKind.i64.wrap (t49 + 1)).toNat) ((t14 ++ ([(⟨0, (Vector.replicate 48 0)⟩ : api_Final)] : List api_Final)).length - (IntKind.i64.wrap (t49 + 1)).toNat) (((t14 ++ ([(⟨0, (Vector.replicate 48 0)⟩ : api_Final)] : List api_Final)).drop t49.toNat).take ((t14 ++ ([(⟨0, (Vector.replicate 48 0)⟩ : api_Final)] : List api_Final)).length - t49.toNat))).length c135), none, none, none, none, none, none, none, none, none, none, none, none, none, none, none, none, none, none, none, none, none, none, none, none, none, none, none, none, none, none, none, none, none, none, none, none, none, none, none, none, none, none, none, none, none, none, none, none, none, none, some (.slice A134 (copyv (t14 ++ ([(⟨0, (Vector.replicate 48 0)⟩ : api_Final)] : List api_Final)) ((IntKind.i64.wrap (t49 + 1)).toNat) ((t14 ++ ([(⟨0, (Vector.replicate 48 0)⟩ : api_Final)] : List api_Final)).length - (IntKind.i64.wrap (t49 + 1)).toNat) (((t14 ++ ([(⟨0, (Vector.replicate 48 0)⟩ : api_Final)] : List api_Final)).drop t49.toNat).take ((t14 ++ ([(⟨0, (Vector.replicate 48 0)⟩ : api_Final)] : List api_Final)).length - t49.toNat))).length c135), some (.slice A134 (copyv (t14 ++ ([(⟨0, (Vector.replicate 48 0)⟩ : api_Final)] : List api_Final)) ((IntKind.i64.wrap (t49 + 1)).toNat) ((t14 ++ ([(⟨0, (Vector.replicate 48 0)⟩ : api_Final)] : List api_Final)).length - (IntKind.i64.wrap (t49 + 1)).toNat) (((t14 ++ ([(⟨0, (Vector.replicate 48 0)⟩ : api_Final)] : List api_Final)).drop t49.toNat).take ((t14 ++ ([(⟨0, (Vector.replicate 48 0)⟩ : api_Final)] : List api_Final)).length - t49.toNat))).length c135), none, none, none, some (.slice A134 (copyv (t14 ++ ([(⟨0, (Vector.replicate 48 0)⟩ : api_Final)] : List api_Final)) ((IntKind.i64.wrap (t49 + 1)).toNat) ((t14 ++ ([(⟨0, (Vector.replicate 48 0)⟩ : api_Final)] : List api_Final)).length - (IntKind.i64.wrap (t49 + 1)).toNat) (((t14 ++ ([(⟨0, (Vector.replicate 48 0)⟩ : api_Final)] : List api_Final)).drop t49.toNat).take ((t14 ++ ([(⟨0, (Vector.replicate 48 0)⟩ : api_Final)] : List api_Final)).length - t49.toNat))).length c135), none, none, none, none, none, none, none, none, none, none, none]) (by simp only [copyv_len (show ((IntKind.i64.wrap (t49 + 1)).toNat) + ((t14 ++ ([(⟨0, (Vector.replicate 48 0)⟩ : api_Final)] : List api_Final)).length - (IntKind.i64.wrap (t49 + 1)).toNat) ≤ (t14 ++ ([(⟨0, (Vector.replicate 48 0)⟩ : api_Final)] : List api_Final)).length from by omega)]) ?_
            refine sx_run 5 (todo' := [.inRegion (opsOf (cd14 [1, 1, 0, 1, 0, 0, 1, 0, 0, 1, 1, 1, 1, 1, 1])) [4, 5, 6, 7], .inBlock 1, .code (cd14 [1, 1, 0, 1, 0, 0, 1, 1]), .inLoop (cd14 [1, 1, 0, 1, 0, 0]), .inBlock 0, .code (cd14 [1, 1, 1])]) (us := [(63, .slice A134 (copyv (t14 ++ ([(⟨0, (Vector.replicate 48 0)⟩ : api_Final)] : List api_Final)) ((IntKind.i64.wrap (t49 + 1)).toNat) ((t14 ++ ([(⟨0, (Vector.replicate 48 0)⟩ : api_Final)] : List api_Final)).length - (IntKind.i64.wrap (t49 + 1)).toNat) (((t14 ++ ([(⟨0, (Vector.replicate 48 0)⟩ : api_Final)] : List api_Final)).drop t49.toNat).take ((t14 ++ ([(⟨0, (Vector.replicate 48 0)⟩ : api_Final)] : List api_Final)).length - t49.toNat))).length c135), (64, .int .i64 t49), (65, .slice Aa0 a0.length ca0), (66, .int .i64 t18)]) (by kernel_rfl) ?_
            obtain ⟨g157, hp158⟩ := ite_some hp154
            obtain ⟨b159, p160, hA161, hc162⟩ := ha0.atF g157.1 g157.2
            refine r_indexAddr (c := (cd14 [1, 1, 0, 1, 0, 0, 1, 0, 0, 1, 1, 1, 1, 1, 1])) (i := 4) (d := (some 67)) (ty := 0) (t := 36) (e := 24) (n := a0.length) (cp := ca0) (sz := 49) (kk := .i64) (x := (.tmp 65)) (y := (.tmp 66)) (b := b159) (o' := p160) (j := t18) (by kernel_rfl) (by kernel_rfl) (slv (by kernel_rfl) hA161) (by kernel_rfl) (by kernel_rfl) (by kernel_rfl) g157.1 g157.2 ?_
            refine r_load (c := (cd14 [1, 1, 0, 1, 0, 0, 1, 0, 0, 1, 1, 1, 1, 1, 1])) (i := 5) (d := (some 68)) (ty := 24) (t := 24) (x := (.tmp 67)) (p := ⟨b159, p160 + t18.toNat * 49, none⟩) (v := .agg (enc_api_Final (gt a0 t18)).toArray) (by kernel_rfl) (by kernel_rfl) (by kernel_rfl) (loads_agg (hc162.cells hS156) (by kernel_rfl) (lenK (len_api_Final _) (by kernel_rfl))) ?_
            obtain ⟨g163, hp164⟩ := ite_some hp158
            obtain ⟨b165, p166, hA167, -⟩ := (hS156.row 0 rfl).at_ len_api_Final (by omega) g163.1 g163.2
            refine r_indexAddr (c := (cd14 [1, 1, 0, 1, 0, 0, 1, 0, 0, 1, 1, 1, 1, 1, 1])) (i := 6) (d := (some 69)) (ty := 0) (t := 36) (e := 24) (n := (copyv (t14 ++ ([(⟨0, (Vector.replicate 48 0)⟩ : api_Final)] : List api_Final)) ((IntKind.i64.wrap (t49 + 1)).toNat) ((t14 ++ ([(⟨0, (Vector.replicate 48 0)⟩ : api_Final)] : List api_Final)).length - (IntKind.i64.wrap (t49 + 1)).toNat) (((t14 ++ ([(⟨0, (Vector.replicate 48 0)⟩ : api_Final)] : List api_Final)).drop t49.toNat).take ((t14 ++ ([(⟨0, (Vector.replicate 48 0)⟩ : api_Final)] : List api_Final)).length - t49.toNat))).length) (cp := c135) (sz := 49) (kk := .i64) (x := (.tmp 63)) (y := (.tmp 64)) (b := b165) (o' := p166) (j := t49) (by kernel_rfl) (by kernel_rfl) (slv (by kernel_rfl) hA167) (by kernel_rfl) (by kernel_rfl) (by kernel_rfl) g163.1 g163.2 ?_
            refine r_storeEl (c := (cd14 [1, 1, 0, 1, 0, 0, 1, 0, 0, 1, 1, 1, 1, 1, 1])) (i := 7) (d := none) (ty := 0) (enc := enc_api_Final) (e := 24) (t := 24) (sz := 49) (cp := c135) (A := A134) (xs := (copyv (t14 ++ ([(⟨0, (Vector.replicate 48 0)⟩ : api_Final)] : List api_Final)) ((IntKind.i64.wrap (t49 + 1)).toNat) ((t14 ++ ([(⟨0, (Vector.replicate 48 0)⟩ : api_Final)] : List api_Final)).length - (IntKind.i64.wrap (t49 + 1)).toNat) (((t14 ++ ([(⟨0, (Vector.replicate 48 0)⟩ : api_Final)] : List api_Final)).drop t49.toNat).take ((t14 ++ ([(⟨0, (Vector.replicate 48 0)⟩ : api_Final)] : List api_Final)).length - t49.toNat)))) (x := (.tmp 69)) (y := (.tmp 68)) (el := gt (copyv (t14 ++ ([(⟨0, (Vector.replicate 48 0)⟩ : api_Final)] : List api_Final)) ((IntKind.i64.wrap (t49 + 1)).toNat) ((t14 ++ ([(⟨0, (Vector.replicate 48 0)⟩ : api_Final)] : List api_Final)).length - (IntKind.i64.wrap (t49 + 1)).toNat) (((t14 ++ ([(⟨0, (Vector.replicate 48 0)⟩ : api_Final)] : List api_Final)).drop t49.toNat).take ((t14 ++ ([(⟨0, (Vector.replicate 48 0)⟩ : api_Final)] : List api_Final)).length - t49.toNat))) t49) (el' := (gt a0 t18)) (j := t49) (off := 0) (b := b165) (p := p166) (v := .agg (enc_api_Final (gt a0 t18)).toArray) (vs := enc_api_Final (gt a0 t18)) (ad := ⟨b165, p166 + t49.toNat * 49, none⟩) hS156 (by kernel_rfl) (by kernel_rfl) (by kernel_rfl) (by simp) (by kernel_rfl) hA167 g163 rfl len_api_Final (by kernel_rfl) (lenK (len_api_Final _) (by kernel_rfl)) (one_api_Final _) (by rw [len_api_Final]; omega) (by rw [len_api_Final]; omega) (over_all ((len_api_Final _).trans (len_api_Final _).symm)) ?_
            intro w169 hS170
            refine Runs.fill (m := [none, none, none, some (.slice A134 (copyv (t14 ++ ([(⟨0, (Vector.replicate 48 0)⟩ : api_Final)] : List api_Final)) ((IntKind.i64.wrap (t49 + 1)).toNat) ((t14 ++ ([(⟨0, (Vector.replicate 48 0)⟩ : api_Final)] : List api_Final)).length - (IntKind.i64.wrap (t49 + 1)).toNat) (((t14 ++ ([(⟨0, (Vector.replicate 48 0)⟩ : api_Final)] : List api_Final)).drop t49.toNat).take ((t14 ++ ([(⟨0, (Vector.replicate 48 0)⟩ : api_Final)] : List api_Final)).length - t49.toNat))).length c135), none, none, none, none, none, none, none, none, none, none, none, none, none, none, none, none, none, none, none, none, none, none, none, none, none, none, none, none, none, none, none, none, none, none, none, none, none, none, none, none, none, none, none, none, none, none, none, none, none, none, some (.slice A134 (copyv (t14 ++ ([(⟨0, (Vector.replicate 48 0)⟩ : api_Final)] : List api_Final)) ((IntKind.i64.wrap (t49 + 1)).toNat) ((t14 ++ ([(⟨0, (Vector.replicate 48 0)⟩ : api_Final)] : List api_Final)).length - (IntKind.i64.wrap (t49 + 1)).toNat) (((t14 ++ ([(⟨0, (Vector.replicate 48 0)⟩ : api_Final)] : List api_Final)).drop t49.toNat).take ((t14 ++ ([(⟨0, (Vector.replicate 48 0)⟩ : api_Final)] : List api_Final)).length - t49.toNat))).length c135), some (.slice A134 (copyv (t14 ++ ([(⟨0, (Vector.replicate 48 0)⟩ : api_Final)] : List api_Final)) ((IntKind.i64.wrap (t49 + 1)).toNat) ((t14 ++ ([(⟨0, (Vector.replicate 48 0)⟩ : api_Final)] : List api_Final)).length - (IntKind.i64.wrap (t49 + 1)).toNat) (((t14 ++ ([(⟨0, (Vector.replicate 48 0)⟩ : api_Final)] : List api_Final)).drop t49.toNat).take ((t14 ++ ([(⟨0, (Vector.replicate 48 0)⟩ : api_Final)] : List api_Final)).length - t49.toNat))).length c135), none, none, none, some (.slice A134 (copyv (t14 ++ ([(⟨0, (Vector.replicate 48 0)⟩ : api_Final)] : List api_Final)) ((IntKind.i64.wrap (t49 + 1)).toNat) ((t14 ++ ([(⟨0, (Vector.replicate 48 0)⟩ : api_Final)] : List api_Final)).length - (IntKind.i64.wrap (t49 + 1)).toNat) (((t14 ++ ([(⟨0, (Vector.replicate 48 0)⟩ : api_Final)] : List api_Final)).drop t49.toNat).take ((t14 ++ ([(⟨0, (Vector.replicate 48 0)⟩ : api_Final)] : List api_Final)).length - t49.toNat))).length c135), none, none, none, some (.slice A134 (copyv (t14 ++ ([(⟨0, (Vector.replicate 48 0)⟩ : api_Final)] : List api_Final)) ((IntKind.i64.wrap (t49 + 1)).toNat) ((t14 ++ ([(⟨0, (Vector.replicate 48 0)⟩ : api_Final)] : List api_Final)).length - (IntKind.i64.wrap (t49 + 1)).toNat) (((t14 ++ ([(⟨0, (Vector.replicate 48 0)⟩ : api_Final)] : List api_Final)).drop t49.toNat).take ((t14 ++ ([(⟨0, (Vector.replicate 48 0)⟩ : api_Final)] : List api_Final)).length - t49.toNat))).length c135), none, none, none, none, none, none, none]) (by kernel_rfl) ?_
            refine Runs.refill (m' := [none, none, none, some (.slice A134 (setl (copyv (t14 ++ ([(⟨0, (Vector.replicate 48 0)⟩ : api_Final)] : List api_Final)) ((IntKind.i64.wrap (t49 + 1)).toNat) ((t14 ++ ([(⟨0, (Vector.replicate 48 0)⟩ : api_Final)] : List api_Final)).length - (IntKind.i64.wrap (t49 + 1)).toNat) (((t14 ++ ([(⟨0, (Vector.replicate 48 0)⟩ : api_Final)] : List api_Final)).drop t49.toNat).take ((t14 ++ ([(⟨0, (Vector.replicate 48 0)⟩ : api_Final)] : List api_Final)).length - t49.toNat))) t49 (gt a0 t18)).length c135), none, none, none, none, none, none, none, none, none, none, none, none, none, none, none, none, none, none, none, none, none, none, none, none, none, none, none, none, none, none, none, none, none, none, none, none, none, none, none, none, none, none, none, none, none, none, none, none, none, none, some (.slice A134 (setl (copyv (t14 ++ ([(⟨0, (Vector.replicate 48 0)⟩ : api_Final)] : List api_Final)) ((IntKind.i64.wrap (t49 + 1)).toNat) ((t14 ++ ([(⟨0, (Vector.replicate 48 0)⟩ : api_Final)] : List api_Final)).length - (IntKind.i64.wrap (t49 + 1)).toNat) (((t14 ++ ([(⟨0, (Vector.replicate 48 0)⟩ : api_Final)] : List api_Final)).drop t49.toNat).take ((t14 ++ ([(⟨0, (Vector.replicate 48 0)⟩ : api_Final)] : List api_Final)).length - t49.toNat))) t49 (gt a0 t18)).length c135), some (.slice A134 (setl (copyv (t14 ++ ([(⟨0, (Vector.replicate 48 0)⟩ : api_Final)] : List api_Final)) ((IntKind.i64.wrap (t49 + 1)).toNat) ((t14 ++ ([(⟨0, (Vector.replicate 48 0)⟩ : api_Final)] : List api_Final)).length - (IntKind.i64.wrap (t49 + 1)).toNat) (((t14 ++ ([(⟨0, (Vector.replicate 48 0)⟩ : api_Final)] : List api_Final)).drop t49.toNat).take ((t14 ++ ([(⟨0, (Vector.replicate 48 0)⟩ : api_Final)] : List api_Final)).length - t49.toNat))) t49 (gt a0 t18)).length c135), none, none, none, some (.slice A134 (setl (copyv (t14 ++ ([(⟨0, (Vector.replicate 48 0)⟩ : api_Final)] : List api_Final)) ((IntKind.i64.wrap (t49 + 1)).toNat) ((t14 ++ ([(⟨0, (Vector.replicate 48 0)⟩ : api_Final)] : List api_Final)).length - (IntKind.i64.wrap (t49 + 1)).toNat) (((t14 ++ ([(⟨0, (Vector.replicate 48 0)⟩ : api_Final)] : List api_Final)).drop t49.toNat).take ((t14 ++ ([(⟨0, (Vector.replicate 48 0)⟩ : api_Final)] : List api_Final)).length - t49.toNat))) t49 (gt a0 t18)).length c135), none, none, none, some (.slice A134 (setl (copyv (t14 ++ ([(⟨0, (Vector.replicate 48 0)⟩ : api_Final)] : List api_Final)) ((IntKind.i64.wrap (t49 + 1)).toNat) ((t14 ++ ([(⟨0, (Vector.replicate 48 0)⟩ : api_Final)] : List api_Final)).length - (IntKind.i64.wrap (t49 + 1)).toNat) (((t14 ++ ([(⟨0, (Vector.replicate 48 0)⟩ : api_Final)] : List api_Final)).drop t49.toNat).take ((t14 ++ ([(⟨0, (Vector.replicate 48 0)⟩ : api_Final)] : List api_Final)).length - t49.toNat))) t49 (gt a0 t18)).length c135), none, none, none, none, none, none, none]) (by simp only [setl_len]) ?_
            refine sx_run 7 (todo' := [.inLoop (cd14 [1, 1, 0, 1, 0, 0]), .inBlock 0, .code (cd14 [1, 1, 1])]) (us := [(10, .int .i64 t18), (11, .int .i64 (IntKind.i64.wrap (t18 + 1))), (4, .int .i64 (IntKind.i64.wrap (t18 + 1)))]) (by kernel_rfl) ?_
            have hS171 := hS170.pick1
            have hS172 := hS171.drop
            refine sx_run 1 (todo' := [.code (cd14 [1, 1, 0, 1, 0, 0]), .inLoop (cd14 [1, 1, 0, 1, 0, 0]), .inBlock 0, .code (cd14 [1, 1, 1])]) (us := []) (by kernel_rfl) ?_
            refine Runs.fill (m := [some (.slice Aa0 a0.length ca0), none, none, some (.slice A134 (setl (copyv (t14 ++ ([(⟨0, (Vector.replicate 48 0)⟩ : api_Final)] : List api_Final)) ((IntKind.i64.wrap (t49 + 1)).toNat) ((t14 ++ ([(⟨0, (Vector.replicate 48 0)⟩ : api_Final)] : List api_Final)).length - (IntKind.i64.wrap (t49 + 1)).toNat) (((t14 ++ ([(⟨0, (Vector.replicate 48 0)⟩ : api_Final)] : List api_Final)).drop t49.toNat).take ((t14 ++ ([(⟨0, (Vector.replicate 48 0)⟩ : api_Final)] : List api_Final)).length - t49.toNat))) t49 (gt a0 t18)).length c135), some (.int .i64 (IntKind.i64.wrap (t18 + 1))), none, none, none, none, none, none, none, none, none, none, none, none, none, none, none, none, none, none, none, none, none, none, none, none, none, none, none, none, none, none, none, none, none, none, none, none, none, none, none, none, none, none, none, none, none, none, none, none, none, none, none, none, none, none, none, none, none, none, none, none, none, none, none, none, none, none]) (by kernel_rfl) ?_
            exact ih25 (setl (copyv (t14 ++ ([(⟨0, (Vector.replicate 48 0)⟩ : api_Final)] : List api_Final)) ((IntKind.i64.wrap (t49 + 1)).toNat) ((t14 ++ ([(⟨0, (Vector.replicate 48 0)⟩ : api_Final)] : List api_Final)).length - (IntKind.i64.wrap (t49 + 1)).toNat) (((t14 ++ ([(⟨0, (Vector.replicate 48 0)⟩ : api_Final)] : List api_Final)).drop t49.toNat).take ((t14 ++ ([(⟨0, (Vector.replicate 48 0)⟩ : api_Final)] : List api_Final)).length - t49.toNat))) t49 (gt a0 t18)) (IntKind.i64.wrap (t18 + 1)) _ hp164 he23 _ A134 c135 _ hS172
        have L182 : ∀ (t173 : Int) (e177 : Int), weirref10_Sort.l1 a0 t14 t18 t173 = some e177 → e177 = v46 → ∀ (l176 : List Value) (w174 : World) (hS175 : St w0 Z (xrow A15 c16 24 49 (t14.flatMap enc_api_Final) :: fs) w174), Runs Try.prog 14 [.code (cd14 [1, 1, 0, 1, 0, 0, 1, 0, 0, 1, 1, 0, 0, 0]), .inLoop (cd14 [1, 1, 0, 1, 0, 0, 1, 0, 0, 1, 1, 0, 0, 0]), .inBlock 2, .code (cd14 [1, 1, 0, 1, 0, 0, 1, 0, 0, 1, 1, 1]), .inBlock 1, .code (cd14 [1, 1, 0, 1, 0, 0, 1, 1]), .inLoop (cd14 [1, 1, 0, 1, 0, 0]), .inBlock 0, .code (cd14 [1, 1, 1])] (fill [some (.slice Aa0 a0.length ca0), none, none, some (.slice A15 t14.length c16), some (.int .i64 t18), some (.int .i64 t173), none, none, none, none, none, none, none, none, none, none, none, none, none, none, none, none, none, none, none, none, none, none, none, none, none, none, none, none, none, none, none, none, none, none, none, none, none, none, none, none, none, none, none, none, none, none, none, none, none, none, none, none, none, none, none, none, none, none, none, none, none, none, none, none, none] l176) w174 R := by
          refine weirref10_Sort.l1.partial_correctness a0 t14 t18 (fun t173 e177 => e177 = v46 → ∀ (l176 : List Value) (w174 : World) (hS175 : St w0 Z (xrow A15 c16 24 49 (t14.flatMap enc_api_Final) :: fs) w174), Runs Try.prog 14 [.code (cd14 [1, 1, 0, 1, 0, 0, 1, 0, 0, 1, 1, 0, 0, 0]), .inLoop (cd14 [1, 1, 0, 1, 0, 0, 1, 0, 0, 1, 1, 0, 0, 0]), .inBlock 2, .code (cd14 [1, 1, 0, 1, 0, 0, 1, 0, 0, 1, 1, 1]), .inBlock 1, .code (cd14 [1, 1, 0, 1, 0, 0, 1, 1]), .inLoop (cd14 [1, 1, 0, 1, 0, 0]), .inBlock 0, .code (cd14 [1, 1, 1])] (fill [some (.slice Aa0 a0.length ca0), none, none, some (.slice A15 t14.length c16), some (.int .i64 t18), some (.int .i64 t173), none, none, none, none, none, none, none, none, none, none, none, none, none, none, none, none, none, none, none, none, none, none, none, none, none, none, none, none, none, none, none, none, none, none, none, none, none, none, none, none, none, none, none, none, none, none, none, none, none, none, none, none, none, none, none, none, none, none, none, none, none, none, none, none, none] l176) w174 R) ?_
          intro rec181 ih180 t173 e177 hb179 he178 l176 w174 hS175
          refine sx_run 2 (todo' := [.code (cd14 [1, 1, 0, 1, 0, 0, 1, 0, 0, 1, 1, 0, 0, 0, 0, 0]), .code (cd14 [1, 1, 0, 1, 0, 0, 1, 0, 0, 1, 1, 0, 0, 0, 0, 1]), .code (cd14 [1, 1, 0, 1, 0, 0, 1, 0, 0, 1, 1, 0, 0, 0, 1]), .inLoop (cd14 [1, 1, 0, 1, 0, 0, 1, 0, 0, 1, 1, 0, 0, 0]), .inBlock 2, .code (cd14 [1, 1, 0, 1, 0, 0, 1, 0, 0, 1, 1, 1]), .inBlock 1, .code (cd14 [1, 1, 0, 1, 0, 0, 1, 1]), .inLoop (cd14 [1, 1, 0, 1, 0, 0]), .inBlock 0, .code (cd14 [1, 1, 1])]) (us := []) (by kernel_rfl) ?_
          refine r_quiet hS175 (c := (cd14 [1, 1, 0, 1, 0, 0, 1, 0, 0, 1, 1, 0, 0, 0, 0, 0])) (id := 7) (by kernel_rfl) (by kernel_rfl) (by kernel_rfl) (is := [0, 1, 2, 3, 4, 5, 6, 7, 8, 9, 10, 11, 12, 13, 14]) (by kernel_rfl) ?_
          refine q_splitr 2 (is' := [2, 3, 4, 5, 6, 7, 8, 9, 10, 11, 12, 13, 14]) (us := [(20, .int .i64 t173)]) (d := 21) (t := (decide (t173 > 0))) (by kernel_rfl) (fun h183 => ?_) (fun h184 => ?_)
          · skip
            have hp185 := ite_t hb179 h183
            refine q_run 4 (is' := [6, 7, 8, 9, 10, 11, 12, 13, 14]) (us := [(22, .bool true), (23, .slice A15 t14.length c16), (24, .int .i64 t173), (25, .int .i64 (IntKind.i64.wrap (t173 - 1)))]) (by kernel_rfl) ?_
            obtain ⟨g186, hp187⟩ := ite_some hp185
            obtain ⟨b188, p189, hA190, -⟩ := (hS175.row 0 rfl).at_ len_api_Final (by omega) g186.1 g186.2
            refine q_indexAddr (c := (cd14 [1, 1, 0, 1, 0, 0, 1, 0, 0, 1, 1, 0, 0, 0, 0, 0])) (i := 6) (d := (some 26)) (ty := 0) (t := 36) (e := 24) (n := t14.length) (cp := c16) (sz := 49) (kk := .i64) (x := (.tmp 23)) (y := (.tmp 25)) (b := b188) (o' := p189) (j := (IntKind.i64.wrap (t173 - 1))) (by kernel_rfl) (by kernel_rfl) (slv (by kernel_rfl) hA190) (by kernel_rfl) (by kernel_rfl) (by kernel_rfl) g186.1 g186.2 ?_
            refine q_load (c := (cd14 [1, 1, 0, 1, 0, 0, 1, 0, 0, 1, 1, 0, 0, 0, 0, 0])) (i := 7) (d := (some 27)) (ty := 24) (t := 24) (x := (.tmp 26)) (p := ⟨b188, p189 + (IntKind.i64.wrap (t173 - 1)).toNat * 49, none⟩) (v := .agg (enc_api_Final (gt t14 (IntKind.i64.wrap (t173 - 1)))).toArray) (by kernel_rfl) (by kernel_rfl) (by kernel_rfl) (fun w hC => (loads_agg ((hC.row 0 rfl).at2 hA190 len_api_Final (by omega) g186.1 g186.2) (by kernel_rfl) (lenK (len_api_Final _) (by kernel_rfl)))) ?_
            refine q_run 2 (is' := [10, 11, 12, 13, 14]) (us := [(28, .slice Aa0 a0.length ca0), (29, .int .i64 t18)]) (by kernel_rfl) ?_
            obtain ⟨g192, hp193⟩ := ite_some hp187
            obtain ⟨b194, p195, hA196, hc197⟩ := ha0.atF g192.1 g192.2
            refine q_indexAddr (c := (cd14 [1, 1, 0, 1, 0, 0, 1, 0, 0, 1, 1, 0, 0, 0, 0, 0])) (i := 10) (d := (some 30)) (ty := 0) (t := 36) (e := 24) (n := a0.length) (cp := ca0) (sz := 49) (kk := .i64) (x := (.tmp 28)) (y := (.tmp 29)) (b := b194) (o' := p195) (j := t18) (by kernel_rfl) (by kernel_rfl) (slv (by kernel_rfl) hA196) (by kernel_rfl) (by kernel_rfl) (by kernel_rfl) g192.1 g192.2 ?_
            refine q_load (c := (cd14 [1, 1, 0, 1, 0, 0, 1, 0, 0, 1, 1, 0, 0, 0, 0, 0])) (i := 11) (d := (some 31)) (ty := 24) (t := 24) (x := (.tmp 30)) (p := ⟨b194, p195 + t18.toNat * 49, none⟩) (v := .agg (enc_api_Final (gt a0 t18)).toArray) (by kernel_rfl) (by kernel_rfl) (by kernel_rfl) (fun w hC => (loads_agg (hc197.cells hC) (by kernel_rfl) (lenK (len_api_Final _) (by kernel_rfl)))) ?_
            obtain ⟨t198, hr199, hp200⟩ := bind_some' hp193
            refine q_call1 (c := (cd14 [1, 1, 0, 1, 0, 0, 1, 0, 0, 1, 1, 0, 0, 0, 0, 0])) (i := 12) (d := (some 32)) (v := .int .i64 t198) (g := 22) (args := #[.agg (enc_api_Final (gt t14 (IntKind.i64.wrap (t173 - 1)))).toArray, .agg (enc_api_Final (gt a0 t18)).toArray]) (by kernel_rfl) (by kernel_rfl) (by kernel_rfl) (by kernel_rfl) (fun w hC => by
              refine (weirref10_Compare.ok (gt t14 (IntKind.i64.wrap (t173 - 1))) (gt a0 t18) hC hr199).mono ?_
              rintro e w2 ⟨rfl, h2⟩
              exact ⟨rfl, h2⟩) ?_
            refine q_splitr 1 (is' := [14]) (us := []) (d := 33) (t := (decide (t198 > 0))) (by kernel_rfl) (fun h201 => ?_) (fun h202 => ?_)
            · skip
              have hp203 := ite_t hp200 h201
              refine q_run 1 (is' := []) (us := [(34, .bool true)]) (by kernel_rfl) ?_
              refine Qs.nil ?_
              intro w204 hS205
              refine sx_run 9 (todo' := [.inLoop (cd14 [1, 1, 0, 1, 0, 0, 1, 0, 0, 1, 1, 0, 0, 0]), .inBlock 2, .code (cd14 [1, 1, 0, 1, 0, 0, 1, 0, 0, 1, 1, 1]), .inBlock 1, .code (cd14 [1, 1, 0, 1, 0, 0, 1, 1]), .inLoop (cd14 [1, 1, 0, 1, 0, 0]), .inBlock 0, .code (cd14 [1, 1, 1])]) (us := [(35, .int .i64 t173), (36, .int .i64 (IntKind.i64.wrap (t173 - 1))), (5, .int .i64 (IntKind.i64.wrap (t173 - 1)))]) (by kernel_rfl) ?_
              refine sx_run 1 (todo' := [.code (cd14 [1, 1, 0, 1, 0, 0, 1, 0, 0, 1, 1, 0, 0, 0]), .inLoop (cd14 [1, 1, 0, 1, 0, 0, 1, 0, 0, 1, 1, 0, 0, 0]), .inBlock 2, .code (cd14 [1, 1, 0, 1, 0, 0, 1, 0, 0, 1, 1, 1]), .inBlock 1, .code (cd14 [1, 1, 0, 1, 0, 0, 1, 1]), .inLoop (cd14 [1, 1, 0, 1, 0, 0]), .inBlock 0, .code (cd14 [1, 1, 1])]) (us := []) (by kernel_rfl) ?_
              refine Runs.fill (m := [some (.slice Aa0 a0.length ca0), none, none, some (.slice A15 t14.length c16), some (.int .i64 t18), some (.int .i64 (IntKind.i64.wrap (t173 - 1))), none, none, none, none, none, none, none, none, none, none, none, none, none, none, none, none, none, none, none, none, none, none, none, none, none, none, none, none, none, none, none, none, none, none, none, none, none, none, none, none, none, none, none, none, none, none, none, none, none, none, none, none, none, none, none, none, none, none, none, none, none, none, none, none, none]) (by kernel_rfl) ?_
              exact ih180 (IntKind.i64.wrap (t173 - 1)) _ hp203 he178 _ _ hS205
            · skip
              have hp206 := ite_f hp200 h202
              refine q_run 1 (is' := []) (us := [(34, .bool false)]) (by kernel_rfl) ?_
              refine Qs.nil ?_
              intro w207 hS208
              refine sx_run 2 (todo' := [.code (cd14 [1, 1, 0, 1, 0, 0, 1, 0, 0, 1, 1, 1]), .inBlock 1, .code (cd14 [1, 1, 0, 1, 0, 0, 1, 1]), .inLoop (cd14 [1, 1, 0, 1, 0, 0]), .inBlock 0, .code (cd14 [1, 1, 1])]) (us := []) (by kernel_rfl) ?_
              refine Runs.fill (m := [some (.slice Aa0 a0.length ca0), none, none, some (.slice A15 t14.length c16), some (.int .i64 t18), some (.int .i64 t173), none, none, none, none, none, none, none, none, none, none, none, none, none, none, none, none, none, none, none, none, none, none, none, none, none, none, none, none, none, none, none, none, none, none, none, none, none, none, none, none, none, none, none, none, none, none, none, none, none, none, none, none, none, none, none, none, none, none, none, none, none, none, none, none, none]) (by kernel_rfl) ?_
              exact J52 t173 ((Option.some.inj hp206).trans he178) _ _ hS208
          · skip
            have hp209 := ite_f hb179 h184
            refine q_run 13 (is' := []) (us := [(22, .bool false), (23, undef), (24, undef), (25, undef), (26, undef), (27, undef), (28, undef), (29, undef), (30, undef), (31, undef), (32, undef), (33, undef), (34, .bool false)]) (by kernel_rfl) ?_
            refine Qs.nil ?_
            intro w210 hS211
            refine sx_run 2 (todo' := [.code (cd14 [1, 1, 0, 1, 0, 0, 1, 0, 0, 1, 1, 1]), .inBlock 1, .code (cd14 [1, 1, 0, 1, 0, 0, 1, 1]), .inLoop (cd14 [1, 1, 0, 1, 0, 0]), .inBlock 0, .code (cd14 [1, 1, 1])]) (us := []) (by kernel_rfl) ?_
            refine Runs.fill (m := [some (.slice Aa0 a0.length ca0), none, none, some (.slice A15 t14.length c16), some (.int .i64 t18), some (.int .i64 t173), none, none, none, none, none, none, none, none, none, none, none, none, none, none, none, none, none, none, none, none, none, none, none, none, none, none, none, none, none, none, none, none, none, none, none, none, none, none, none, none, none, none, none, none, none, none, none, none, none, none, none, none, none, none, none, none, none, none, none, none, none, none, none, none, none]) (by kernel_rfl) ?_
            exact J52 t173 ((Option.some.inj hp209).trans he178) _ _ hS211
        refine Runs.fill (m := [some (.slice Aa0 a0.length ca0), none, none, some (.slice A15 t14.length c16), some (.int .i64 t18), some (.int .i64 (t14.length : Int)), none, none, none, none, none, none, none, none, none, none, none, none, none, none, none, none, none, none, none, none, none, none, none, none, none, none, none, none, none, none, none, none, none, none, none, none, none, none, none, none, none, none, none, none, none, none, none, none, none, none, none, none, none, none, none, none, none, none, none, none, none, none, none, none, none]) (by kernel_rfl) ?_
        exact L182 (t14.length : Int) _ hv47 rfl _ _ hS41
    · skip
      have hp212 := ite_f hb24 h29
      refine sx_run 3 (todo' := [.code (cd14 [1, 1, 1])]) (us := []) (by kernel_rfl) ?_
      refine Runs.fill (m := [none, none, none, some (.slice A15 t14.length c16), none, none, none, none, none, none, none, none, none, none, none, none, none, none, none, none, none, none, none, none, none, none, none, none, none, none, none, none, none, none, none, none, none, none, none, none, none, none, none, none, none, none, none, none, none, none, none, none, none, none, none, none, none, none, none, none, none, none, none, none, none, none, none, none, none, none, none]) (by kernel_rfl) ?_
      exact J10 t14 ((Option.some.inj hp212).trans he23) _ A15 c16 _ hS20
  have hS214 := hS0.nilrow none 24 49
  refine Runs.fill (m := [some (.slice Aa0 a0.length ca0), none, none, some (.slice none 0 0), some (.int .i64 0), none, none, none, none, none, none, none, none, none, none, none, none, none, none, none, none, none, none, none, none, none, none, none, none, none, none, none, none, none, none, none, none, none, none, none, none, none, none, none, none, none, none, none, none, none, none, none, none, none, none, none, none, none, none, none, none, none, none, none, none, none, none, none, none, none, none]) (by kernel_rfl) ?_
  exact L27 [] 0 _ hv2 rfl _ none 0 _ hS214

noncomputable def cd11 (p : List Nat) : Code := sub (bodyOf Try.f11) p
def weirlaw10_num.f (a0 : Int) : Option Int :=
  some (a0)
set_option maxHeartbeats 16000000 in
theorem weirlaw10_num.ok (a0 : Int) {w0 : World} {Z : Zm} {fs : List XObj} {w : World} (hS0 : St w0 Z (fs) w) {q0 : Int} (hp0 : weirlaw10_num.f a0 = some q0) :
    Calls Try.prog 11 #[.int .i64 a0] w (fun e w' => e = .returned (.int .i64 q0) ∧ St w0 Z (fs) w') := by
  refine calls_abs ?_; intro R hR
  unfold weirlaw10_num.f at hp0
  refine calls_of_runs (fn := Try.f11) (c := cd11 []) Try.func11 (by kernel_rfl) (al := [.int .i64 a0]) rfl (n := 3) rfl ?_
  refine sx_run 9 (todo' := [.code (cd11 [1, 1])]) (us := [(2, .int .i64 0), (3, .int .i64 a0), (2, .int .i64 a0)]) (by kernel_rfl) ?_
  refine runs_ret (fn := Try.f11) (v := .int .i64 a0) Try.func11 (by kernel_rfl) ?_
  have hr1 := (Option.some.inj hp0)
  cases hr1
  exact hR _ _ ⟨rfl, hS0⟩

noncomputable def cd23 (p : List Nat) : Code := sub (bodyOf Try.f23) p
def state_Rises.l0 (a0 : List api_Final) (t11 : Int) : Option (Sum Unit Bool) :=
  (if (decide (t11 < (a0.length : Int))) = true then (if 0 ≤ t11 ∧ t11 < (a0.length : Int) then (state_Check.f (gt a0 t11) >>= (fun t37 => (if (t37 != 0) = true then some (.inr (false)) else (if (decide (t11 > 0)) = true then (if 0 ≤ (IntKind.i64.wrap (t11 - 1)) ∧ (IntKind.i64.wrap (t11 - 1)) < (a0.length : Int) then (state_Compare.f (gt a0 (IntKind.i64.wrap (t11 - 1))) (gt a0 t11) >>= (fun t57 => (if (decide (t57 ≥ 0)) = true then some (.inr (false)) else (state_Rises.l0 a0 (IntKind.i64.wrap (t11 + 1)))))) else none) else (state_Rises.l0 a0 (IntKind.i64.wrap (t11 + 1))))))) else none) else some (.inl ()))
 partial_fixpoint
def state_Rises.f (a0 : List api_Final) : Option Bool :=
  (state_Rises.l0 a0 0 >>= (fun | .inl () => some (true) | .inr e => some e))
set_option maxHeartbeats 16000000 in
theorem state_Rises.ok (a0 : List api_Final) (Aa0 : Option Addr) (ca0 : Nat) {w0 : World} {Z : Zm} {fs : List XObj} {w : World} (hS0 : St w0 Z (fs) w) (ha0 : SlZ (flat enc_api_Final) 49 Z Aa0 ca0 a0) {q0 : Bool} (hp0 : state_Rises.f a0 = some q0) :
    Calls Try.prog 23 #[.slice Aa0 a0.length ca0] w (fun e w' => e = .returned (.bool q0) ∧ St w0 Z (fs) w') := by
  refine calls_abs ?_; intro R hR
  unfold state_Rises.f at hp0
  refine calls_of_runs (fn := Try.f23) (c := cd23 []) Try.func23 (by kernel_rfl) (al := [.slice Aa0 a0.length ca0]) rfl (n := 29) rfl ?_
  refine sx_run 13 (todo' := [.code (cd23 [1, 0, 1, 0, 0]), .inLoop (cd23 [1, 0, 1, 0, 0]), .inBlock 0, .code (cd23 [1, 1])]) (us := [(2, .bool false), (5, .slice Aa0 a0.length ca0), (6, .int .i64 (a0.length : Int)), (7, .int .i64 0)]) (by kernel_rfl) ?_
  obtain ⟨v1, hv2, hp3⟩ := bind_some' hp0
  have hq6 : ∀ x, Sum.inr x = v1 → x = q0 := by intro x hx; subst hx; simpa using hp3
  have J7 : ∀ (he9 : Sum.inl () = v1) (l8 : List Value) (w4 : World) (hS5 : St w0 Z (fs) w4), Runs Try.prog 23 [.code (cd23 [1, 1])] (fill [none, none, none, none, none, none, none, none, none, none, none, none, none, none, none, none, none, none, none, none, none, none, none, none, none, none, none, none, none, none] l8) w4 R := by
    intro he9 l8 w4 hS5
    subst he9
    try dsimp only at hp3
    refine sx_run 4 (todo' := [.code (cd23 [1, 1, 1])]) (us := [(2, .bool true)]) (by kernel_rfl) ?_
    refine runs_ret (fn := Try.f23) (v := .bool true) Try.func23 (by kernel_rfl) ?_
    have hr10 := (Option.some.inj hp3)
    cases hr10
    exact hR _ _ ⟨rfl, hS5⟩
  have L20 : ∀ (t11 : Int) (e15 : Sum Unit Bool), state_Rises.l0 a0 t11 = some e15 → e15 = v1 → ∀ (l14 : List Value) (w12 : World) (hS13 : St w0 Z (fs) w12), Runs Try.prog 23 [.code (cd23 [1, 0, 1, 0, 0]), .inLoop (cd23 [1, 0, 1, 0, 0]), .inBlock 0, .code (cd23 [1, 1])] (fill [some (.slice Aa0 a0.length ca0), none, none, none, none, some (.slice Aa0 a0.length ca0), some (.int .i64 (a0.length : Int)), some (.int .i64 t11), none, none, none, none, none, none, none, none, none, none, none, none, none, none, none, none, none, none, none, none, none, none] l14) w12 R := by
    refine state_Rises.l0.partial_correctness a0 (fun t11 e15 => e15 = v1 → ∀ (l14 : List Value) (w12 : World) (hS13 : St w0 Z (fs) w12), Runs Try.prog 23 [.code (cd23 [1, 0, 1, 0, 0]), .inLoop (cd23 [1, 0, 1, 0, 0]), .inBlock 0, .code (cd23 [1, 1])] (fill [some (.slice Aa0 a0.length ca0), none, none, none, none, some (.slice Aa0 a0.length ca0), some (.int .i64 (a0.length : Int)), some (.int .i64 t11), none, none, none, none, none, none, none, none, none, none, none, none, none, none, none, none, none, none, none, none, none, none] l14) w12 R) ?_
    intro rec19 ih18 t11 e15 hb17 he16 l14 w12 hS13
    have hq21 : ∀ x, Sum.inr x = e15 → x = q0 := fun x hx => hq6 x (hx.trans he16)
    refine sx_split 3 (todo' := [.inRegion (opsOf (cd23 [1, 0, 1, 0, 0, 0])) [], .code (cd23 [1, 0, 1, 0, 0, 1]), .inLoop (cd23 [1, 0, 1, 0, 0]), .inBlock 0, .code (cd23 [1, 1])]) (us := []) (d := 8) (t := (decide (t11 < (a0.length : Int)))) (by kernel_rfl) (fun h22 => ?_) (fun h23 => ?_)
    · skip
      have hp24 := ite_t hb17 h22
      refine sx_run 9 (todo' := [.inRegion (opsOf (cd23 [1, 0, 1, 0, 0, 1, 1, 0, 0, 0])) [1, 2, 3, 4, 5], .code (cd23 [1, 0, 1, 0, 0, 1, 1, 0, 0, 1]), .inBlock 1, .code (cd23 [1, 0, 1, 0, 0, 1, 1, 1]), .inLoop (cd23 [1, 0, 1, 0, 0]), .inBlock 0, .code (cd23 [1, 1])]) (us := [(9, .int .i64 t11)]) (by kernel_rfl) ?_
      obtain ⟨g25, hp26⟩ := ite_some hp24
      obtain ⟨b27, p28, hA29, hc30⟩ := ha0.atF g25.1 g25.2
      refine r_indexAddr (c := (cd23 [1, 0, 1, 0, 0, 1, 1, 0, 0, 0])) (i := 1) (d := (some 10)) (ty := 0) (t := 36) (e := 24) (n := a0.length) (cp := ca0) (sz := 49) (kk := .i64) (x := (.tmp 5)) (y := (.tmp 7)) (b := b27) (o' := p28) (j := t11) (by kernel_rfl) (by kernel_rfl) (slv (by kernel_rfl) hA29) (by kernel_rfl) (by kernel_rfl) (by kernel_rfl) g25.1 g25.2 ?_
      refine r_load (c := (cd23 [1, 0, 1, 0, 0, 1, 1, 0, 0, 0])) (i := 2) (d := (some 11)) (ty := 24) (t := 24) (x := (.tmp 10)) (p := ⟨b27, p28 + t11.toNat * 49, none⟩) (v := .agg (enc_api_Final (gt a0 t11)).toArray) (by kernel_rfl) (by kernel_rfl) (by kernel_rfl) (loads_agg (hc30.cells hS13) (by kernel_rfl) (lenK (len_api_Final _) (by kernel_rfl))) ?_
      refine r_alloc (c := (cd23 [1, 0, 1, 0, 0, 1, 1, 0, 0, 0])) (i := 3) (d := (some 4)) (ty := 0) (z := .agg (enc_api_Final (⟨0, (Vector.replicate 48 0)⟩ : api_Final)).toArray) (t := 24) (cs := enc_api_Final (⟨0, (Vector.replicate 48 0)⟩ : api_Final)) hS13 (by kernel_rfl) (by kernel_rfl) (by kernel_rfl) (by kernel_rfl) ?_
      intro b31 w32 hS33
      refine sx_run 1 (todo' := [.inRegion (opsOf (cd23 [1, 0, 1, 0, 0, 1, 1, 0, 0, 0])) [5], .code (cd23 [1, 0, 1, 0, 0, 1, 1, 0, 0, 1]), .inBlock 1, .code (cd23 [1, 0, 1, 0, 0, 1, 1, 1]), .inLoop (cd23 [1, 0, 1, 0, 0]), .inBlock 0, .code (cd23 [1, 1])]) (us := [(3, .int .i64 t11)]) (by kernel_rfl) ?_
      refine r_store (c := (cd23 [1, 0, 1, 0, 0, 1, 1, 0, 0, 0])) (i := 5) (d := none) (ty := 0) (t := 24) (x := (.tmp 4)) (y := (.tmp 11)) (b := b31) (o := 0) (e := 24) (cs := enc_api_Final (⟨0, (Vector.replicate 48 0)⟩ : api_Final)) (v := .agg (enc_api_Final (gt a0 t11)).toArray) (vs := enc_api_Final (gt a0 t11)) (cs' := enc_api_Final (gt a0 t11)) hS33 (by kernel_rfl) (by kernel_rfl) (by kernel_rfl) (by kernel_rfl) (by kernel_rfl) (lenK (len_api_Final _) (by kernel_rfl)) (one_api_Final _) (by simp only [len_api_Final, List.length_cons, List.length_nil, List.length_append]; omega) (over_all ((len_api_Final _).trans (len_api_Final _).symm)) ?_
      intro w35 hS36
      refine sx_run 2 (todo' := [.code (cd23 [1, 0, 1, 0, 0, 1, 1, 0, 0, 1, 0]), .code (cd23 [1, 0, 1, 0, 0, 1, 1, 0, 0, 1, 1]), .inBlock 1, .code (cd23 [1, 0, 1, 0, 0, 1, 1, 1]), .inLoop (cd23 [1, 0, 1, 0, 0]), .inBlock 0, .code (cd23 [1, 1])]) (us := []) (by kernel_rfl) ?_
      refine r_quiet hS36 (c := (cd23 [1, 0, 1, 0, 0, 1, 1, 0, 0, 1, 0])) (id := 4) (by kernel_rfl) (by kernel_rfl) (by kernel_rfl) (is := [0, 1, 2, 3, 4, 5, 6, 7, 8, 9, 10, 11, 12, 13, 14, 15, 16]) (by kernel_rfl) ?_
      refine q_load (c := (cd23 [1, 0, 1, 0, 0, 1, 1, 0, 0, 1, 0])) (i := 0) (d := (some 12)) (ty := 24) (t := 24) (x := (.tmp 4)) (p := ⟨b31, 0, none⟩) (v := .agg (enc_api_Final (gt a0 t11)).toArray) (by kernel_rfl) (by kernel_rfl) (by kernel_rfl) (fun w hC => (loads_agg (hC.blk 0 rfl) (by kernel_rfl) (lenK (len_api_Final _) (by kernel_rfl)))) ?_
      obtain ⟨t37, hr38, hp39⟩ := bind_some' hp26
      refine q_call1 (c := (cd23 [1, 0, 1, 0, 0, 1, 1, 0, 0, 1, 0])) (i := 1) (d := (some 13)) (v := .int .i64 t37) (g := 19) (args := #[.agg (enc_api_Final (gt a0 t11)).toArray]) (by kernel_rfl) (by kernel_rfl) (by kernel_rfl) (by kernel_rfl) (fun w hC => by
        refine (state_Check.ok (gt a0 t11) hC hr38).mono ?_
        rintro e w2 ⟨rfl, h2⟩
        exact ⟨rfl, h2⟩) ?_
      refine q_splitr 1 (is' := [3, 4, 5, 6, 7, 8, 9, 10, 11, 12, 13, 14, 15, 16]) (us := []) (d := 14) (t := (t37 != 0)) (by kernel_rfl) (fun h40 => ?_) (fun h41 => ?_)
      · skip
        have hp42 := ite_t hp39 h40
        refine q_run 14 (is' := []) (us := [(15, .bool true), (16, undef), (17, undef), (18, undef), (19, undef), (20, undef), (21, undef), (22, undef), (23, undef), (24, undef), (25, undef), (26, undef), (27, undef), (28, .bool true)]) (by kernel_rfl) ?_
        refine Qs.nil ?_
        intro w43 hS44
        refine sx_run 5 (todo' := [.code (cd23 [1, 0, 1, 0, 0, 1, 1, 0, 0, 1, 1, 0, 1]), .inBlock 1, .code (cd23 [1, 0, 1, 0, 0, 1, 1, 1]), .inLoop (cd23 [1, 0, 1, 0, 0]), .inBlock 0, .code (cd23 [1, 1])]) (us := [(2, .bool false)]) (by kernel_rfl) ?_
        have hS45 := hS44.drop
        refine runs_ret (fn := Try.f23) (v := .bool false) Try.func23 (by kernel_rfl) ?_
        have hr46 := (hq21 _ (Option.some.inj hp42))
        cases hr46
        exact hR _ _ ⟨rfl, hS45⟩
      · skip
        have hp47 := ite_f hp39 h41
        refine q_splitr 3 (is' := [6, 7, 8, 9, 10, 11, 12, 13, 14, 15, 16]) (us := [(15, .bool false), (16, .int .i64 t11)]) (d := 17) (t := (decide (t11 > 0))) (by kernel_rfl) (fun h48 => ?_) (fun h49 => ?_)
        · skip
          have hp50 := ite_t hp47 h48
          refine q_run 4 (is' := [10, 11, 12, 13, 14, 15, 16]) (us := [(18, .bool true), (19, .slice Aa0 a0.length ca0), (20, .int .i64 t11), (21, .int .i64 (IntKind.i64.wrap (t11 - 1)))]) (by kernel_rfl) ?_
          obtain ⟨g51, hp52⟩ := ite_some hp50
          obtain ⟨b53, p54, hA55, hc56⟩ := ha0.atF g51.1 g51.2
          refine q_indexAddr (c := (cd23 [1, 0, 1, 0, 0, 1, 1, 0, 0, 1, 0])) (i := 10) (d := (some 22)) (ty := 0) (t := 36) (e := 24) (n := a0.length) (cp := ca0) (sz := 49) (kk := .i64) (x := (.tmp 19)) (y := (.tmp 21)) (b := b53) (o' := p54) (j := (IntKind.i64.wrap (t11 - 1))) (by kernel_rfl) (by kernel_rfl) (slv (by kernel_rfl) hA55) (by kernel_rfl) (by kernel_rfl) (by kernel_rfl) g51.1 g51.2 ?_
          refine q_load (c := (cd23 [1, 0, 1, 0, 0, 1, 1, 0, 0, 1, 0])) (i := 11) (d := (some 23)) (ty := 24) (t := 24) (x := (.tmp 22)) (p := ⟨b53, p54 + (IntKind.i64.wrap (t11 - 1)).toNat * 49, none⟩) (v := .agg (enc_api_Final (gt a0 (IntKind.i64.wrap (t11 - 1)))).toArray) (by kernel_rfl) (by kernel_rfl) (by kernel_rfl) (fun w hC => (loads_agg (hc56.cells hC) (by kernel_rfl) (lenK (len_api_Final _) (by kernel_rfl)))) ?_
          refine q_load (c := (cd23 [1, 0, 1, 0, 0, 1, 1, 0, 0, 1, 0])) (i := 12) (d := (some 24)) (ty := 24) (t := 24) (x := (.tmp 4)) (p := ⟨b31, 0, none⟩) (v := .agg (enc_api_Final (gt a0 t11)).toArray) (by kernel_rfl) (by kernel_rfl) (by kernel_rfl) (fun w hC => (loads_agg (hC.blk 0 rfl) (by kernel_rfl) (lenK (len_api_Final _) (by kernel_rfl)))) ?_
          obtain ⟨t57, hr58, hp59⟩ := bind_some' hp52
          refine q_call1 (c := (cd23 [1, 0, 1, 0, 0, 1, 1, 0, 0, 1, 0])) (i := 13) (d := (some 25)) (v := .int .i64 t57) (g := 21) (args := #[.agg (enc_api_Final (gt a0 (IntKind.i64.wrap (t11 - 1)))).toArray, .agg (enc_api_Final (gt a0 t11)).toArray]) (by kernel_rfl) (by kernel_rfl) (by kernel_rfl) (by kernel_rfl) (fun w hC => by
            refine (state_Compare.ok (gt a0 (IntKind.i64.wrap (t11 - 1))) (gt a0 t11) hC hr58).mono ?_
            rintro e w2 ⟨rfl, h2⟩
            exact ⟨rfl, h2⟩) ?_
          refine q_splitr 1 (is' := [15, 16]) (us := []) (d := 26) (t := (decide (t57 ≥ 0))) (by kernel_rfl) (fun h60 => ?_) (fun h61 => ?_)
          · skip
            have hp62 := ite_t hp59 h60
            refine q_run 2 (is' := []) (us := [(27, .bool true), (28, .bool true)]) (by kernel_rfl) ?_
            refine Qs.nil ?_
            intro w63 hS64
            refine sx_run 5 (todo' := [.code (cd23 [1, 0, 1, 0, 0, 1, 1, 0, 0, 1, 1, 0, 1]), .inBlock 1, .code (cd23 [1, 0, 1, 0, 0, 1, 1, 1]), .inLoop (cd23 [1, 0, 1, 0, 0]), .inBlock 0, .code (cd23 [1, 1])]) (us := [(2, .bool false)]) (by kernel_rfl) ?_
            have hS65 := hS64.drop
            refine runs_ret (fn := Try.f23) (v := .bool false) Try.func23 (by kernel_rfl) ?_
            have hr66 := (hq21 _ (Option.some.inj hp62))
            cases hr66
            exact hR _ _ ⟨rfl, hS65⟩
          · skip
            have hp67 := ite_f hp59 h61
            refine q_run 2 (is' := []) (us := [(27, .bool false), (28, .bool false)]) (by kernel_rfl) ?_
            refine Qs.nil ?_
            intro w68 hS69
            refine sx_run 7 (todo' := [.inLoop (cd23 [1, 0, 1, 0, 0]), .inBlock 0, .code (cd23 [1, 1])]) (us := [(29, .int .i64 (IntKind.i64.wrap (t11 + 1))), (7, .int .i64 (IntKind.i64.wrap (t11 + 1)))]) (by kernel_rfl) ?_
            have hS70 := hS69.drop
            refine sx_run 1 (todo' := [.code (cd23 [1, 0, 1, 0, 0]), .inLoop (cd23 [1, 0, 1, 0, 0]), .inBlock 0, .code (cd23 [1, 1])]) (us := []) (by kernel_rfl) ?_
            refine Runs.fill (m := [some (.slice Aa0 a0.length ca0), none, none, none, none, some (.slice Aa0 a0.length ca0), some (.int .i64 (a0.length : Int)), some (.int .i64 (IntKind.i64.wrap (t11 + 1))), none, none, none, none, none, none, none, none, none, none, none, none, none, none, none, none, none, none, none, none, none, none]) (by kernel_rfl) ?_
            exact ih18 (IntKind.i64.wrap (t11 + 1)) _ hp67 he16 _ _ hS70
        · skip
          have hp71 := ite_f hp47 h49
          refine q_run 11 (is' := []) (us := [(18, .bool false), (19, undef), (20, undef), (21, undef), (22, undef), (23, undef), (24, undef), (25, undef), (26, undef), (27, .bool false), (28, .bool false)]) (by kernel_rfl) ?_
          refine Qs.nil ?_
          intro w72 hS73
          refine sx_run 7 (todo' := [.inLoop (cd23 [1, 0, 1, 0, 0]), .inBlock 0, .code (cd23 [1, 1])]) (us := [(29, .int .i64 (IntKind.i64.wrap (t11 + 1))), (7, .int .i64 (IntKind.i64.wrap (t11 + 1)))]) (by kernel_rfl) ?_
          have hS74 := hS73.drop
          refine sx_run 1 (todo' := [.code (cd23 [1, 0, 1, 0, 0]), .inLoop (cd23 [1, 0, 1, 0, 0]), .inBlock 0, .code (cd23 [1, 1])]) (us := []) (by kernel_rfl) ?_
          refine Runs.fill (m := [some (.slice Aa0 a0.length ca0), none, none, none, none, some (.slice Aa0 a0.length ca0), some (.int .i64 (a0.length : Int)), some (.int .i64 (IntKind.i64.wrap (t11 + 1))), none, none, none, none, none, none, none, none, none, none, none, none, none, none, none, none, none, none, none, none, none, none]) (by kernel_rfl) ?_
          exact ih18 (IntKind.i64.wrap (t11 + 1)) _ hp71 he16 _ _ hS74
    · skip
      have hp75 := ite_f hb17 h23
      refine sx_run 4 (todo' := [.code (cd23 [1, 1])]) (us := []) (by kernel_rfl) ?_
      refine Runs.fill (m := [none, none, none, none, none, none, none, none, none, none, none, none, none, none, none, none, none, none, none, none, none, none, none, none, none, none, none, none, none, none]) (by kernel_rfl) ?_
      exact J7 ((Option.some.inj hp75).trans he16) _ _ hS13
  refine Runs.fill (m := [some (.slice Aa0 a0.length ca0), none, none, none, none, some (.slice Aa0 a0.length ca0), some (.int .i64 (a0.length : Int)), some (.int .i64 0), none, none, none, none, none, none, none, none, none, none, none, none, none, none, none, none, none, none, none, none, none, none]) (by kernel_rfl) ?_
  exact L20 0 _ hv2 rfl _ _ hS0

end
end Go.Proofs.Yteppciglfdiljaa.K
