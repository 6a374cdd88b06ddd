/- The walk, part 3: each Go function as a plain Lean function, and that its call answers as that function says. No condition. -/
import Derived.Test.YteppciglfdiljaaE
import Derived.Test.YteppciglfdiljaaNS
import Derived.Test.YteppciglfdiljaaLS
import Derived.Test.YteppciglfdiljaaF2
set_option linter.unusedVariables false
set_option linter.unusedSimpArgs false
set_option maxRecDepth 100000
namespace Go.Proofs.Yteppciglfdiljaa.K
open Go Go.RowKit
noncomputable section
noncomputable def cd6 (p : List Nat) : Code := sub (bodyOf Try.f6) p
def weirlaw10_StateProjects.l1 (a1 : List Int) (t357 : Int) : Option (Sum Unit (Sum Unit Bool)) :=
  (if (decide (t357 < (a1.length : Int))) = true then (if 0 ≤ t357 ∧ t357 < (((([] : List Int) ++ a1) ++ ([(-7)] : List Int)).length : Int) then (if 0 ≤ t357 ∧ t357 < (a1.length : Int) then (if ((gt ((([] : List Int) ++ a1) ++ ([(-7)] : List Int)) t357) != (gt a1 t357)) = true then some (.inr (.inr (false))) else (weirlaw10_StateProjects.l1 a1 (IntKind.i64.wrap (t357 + 1)))) else none) else none) else some (.inl ()))
 partial_fixpoint
def weirlaw10_StateProjects.l2 (a1 : List Int) (t632 : Int) : Option (Sum Unit (Sum Unit Bool)) :=
  (if (decide (t632 < (a1.length : Int))) = true then (if 0 ≤ t632 ∧ t632 < (((([] : List Int) ++ a1) ++ ([(-7)] : List Int)).length : Int) then (if 0 ≤ t632 ∧ t632 < (a1.length : Int) then (if ((gt ((([] : List Int) ++ a1) ++ ([(-7)] : List Int)) t632) != (gt a1 t632)) = true then some (.inr (.inr (false))) else (weirlaw10_StateProjects.l2 a1 (IntKind.i64.wrap (t632 + 1)))) else none) else none) else some (.inl ()))
 partial_fixpoint
def weirlaw10_StateProjects.l3 (a1 : List Int) (t1001 : Int) : Option (Sum Unit (Sum Unit Bool)) :=
  (if (decide (t1001 < (a1.length : Int))) = true then (if 0 ≤ t1001 ∧ t1001 < (((([] : List Int) ++ a1) ++ ([(-7)] : List Int)).length : Int) then (if 0 ≤ t1001 ∧ t1001 < (a1.length : Int) then (if ((gt ((([] : List Int) ++ a1) ++ ([(-7)] : List Int)) t1001) != (gt a1 t1001)) = true then some (.inr (.inr (false))) else (weirlaw10_StateProjects.l3 a1 (IntKind.i64.wrap (t1001 + 1)))) else none) else none) else some (.inl ()))
 partial_fixpoint
def weirlaw10_StateProjects.l4 (a1 : List Int) (t1276 : Int) : Option (Sum Unit (Sum Unit Bool)) :=
  (if (decide (t1276 < (a1.length : Int))) = true then (if 0 ≤ t1276 ∧ t1276 < (((([] : List Int) ++ a1) ++ ([(-7)] : List Int)).length : Int) then (if 0 ≤ t1276 ∧ t1276 < (a1.length : Int) then (if ((gt ((([] : List Int) ++ a1) ++ ([(-7)] : List Int)) t1276) != (gt a1 t1276)) = true then some (.inr (.inr (false))) else (weirlaw10_StateProjects.l4 a1 (IntKind.i64.wrap (t1276 + 1)))) else none) else none) else some (.inl ()))
 partial_fixpoint
def weirlaw10_StateProjects.l0 (a0 : List api_Final) (a1 : List Int) (t11 : List api_Final) (t35 : Int) : Option (Sum Unit Bool) :=
  (if (decide (t35 < 2)) = true then (if (t35 == 0) = true then (weirlaw10_Lent.f a0 >>= (fun (t52, t53) => (if (([] : List Int).length + a1.length) * 8 ≤ 140737488355328 then (if ((([] : List Int) ++ a1).length + ([(-7)] : List Int).length) * 8 ≤ 140737488355328 then (if 0 ≤ (a1.length : Int) ∧ (a1.length : Int) ≤ (((([] : List Int) ++ a1) ++ ([(-7)] : List Int)).length : Int) then (if t53 ≤ t52.length then (if (a1.length : Int).toNat ≤ ((([] : List Int) ++ a1) ++ ([(-7)] : List Int)).length then (state_Project.f (t52.take t53) (((([] : List Int) ++ a1) ++ ([(-7)] : List Int)).take ((a1.length : Int).toNat)) >>= (fun (t92, t93) => (if 0 ≤ (a1.length : Int) ∧ (a1.length : Int) ≤ (((([] : List Int) ++ a1) ++ ([(-7)] : List Int)).length : Int) then (if t53 ≤ t52.length then (if (a1.length : Int).toNat ≤ ((([] : List Int) ++ a1) ++ ([(-7)] : List Int)).length then (state_Project.f (t52.take t53) (((([] : List Int) ++ a1) ++ ([(-7)] : List Int)).take ((a1.length : Int).toNat)) >>= (fun (t122, t123) => (if (t35 == 0) = true then (weirref10_Project.f a0 a1 >>= (fun (t146, t147) => (weirlaw10_num.f t93 >>= (fun t155 => (if (t155 != t147) = true then some (.inr (false)) else (weirlaw10_Same.f t92 t146 >>= (fun t173 => (if (!t173) = true then some (.inr (false)) else (weirlaw10_Same.f t122 t146 >>= (fun t204 => (if (!t204) = true then some (.inr (false)) else (if 0 ≤ (a1.length : Int) ∧ (a1.length : Int) < (((([] : List Int) ++ a1) ++ ([(-7)] : List Int)).length : Int) then (if ((gt ((([] : List Int) ++ a1) ++ ([(-7)] : List Int)) (a1.length : Int)) != (-7)) = true then some (.inr (false)) else (weirlaw10_StateProjects.l1 a1 0 >>= (fun | .inl () => (weirlaw10_Spoil.f t92 >>= (fun _ => (weirlaw10_Same.f t122 t146 >>= (fun t271 => (if (!t271) = true then some (.inr (false)) else (if (t35 == 0) = true then (weirlaw10_Back.f t52 t53 a0 >>= (fun t303 => (if (!t303) = true then some (.inr (false)) else (weirlaw10_StateProjects.l0 a0 a1 t11 (IntKind.i64.wrap (t35 + 1)))))) else (if (t35 == 1) = true then (weirlaw10_Back.f t52 t53 t11 >>= (fun t326 => (if (!t326) = true then some (.inr (false)) else (weirlaw10_StateProjects.l0 a0 a1 t11 (IntKind.i64.wrap (t35 + 1)))))) else none))))))) | .inr e => some e))) else none)))))))))))) else (if (t35 == 1) = true then (weirref10_Project.f t11 a1 >>= (fun (t413, t414) => (weirlaw10_num.f t93 >>= (fun t429 => (if (t429 != t414) = true then some (.inr (false)) else (weirlaw10_Same.f t92 t413 >>= (fun t447 => (if (!t447) = true then some (.inr (false)) else (weirlaw10_Same.f t122 t413 >>= (fun t479 => (if (!t479) = true then some (.inr (false)) else (if 0 ≤ (a1.length : Int) ∧ (a1.length : Int) < (((([] : List Int) ++ a1) ++ ([(-7)] : List Int)).length : Int) then (if ((gt ((([] : List Int) ++ a1) ++ ([(-7)] : List Int)) (a1.length : Int)) != (-7)) = true then some (.inr (false)) else (weirlaw10_StateProjects.l2 a1 0 >>= (fun | .inl () => (weirlaw10_Spoil.f t92 >>= (fun _ => (weirlaw10_Same.f t122 t413 >>= (fun t546 => (if (!t546) = true then some (.inr (false)) else (if (t35 == 0) = true then (weirlaw10_Back.f t52 t53 a0 >>= (fun t578 => (if (!t578) = true then some (.inr (false)) else (weirlaw10_StateProjects.l0 a0 a1 t11 (IntKind.i64.wrap (t35 + 1)))))) else (if (t35 == 1) = true then (weirlaw10_Back.f t52 t53 t11 >>= (fun t601 => (if (!t601) = true then some (.inr (false)) else (weirlaw10_StateProjects.l0 a0 a1 t11 (IntKind.i64.wrap (t35 + 1)))))) else none))))))) | .inr e => some e))) else none)))))))))))) else none)))) else none) else none) else none))) else none) else none) else none) else none) else none))) else (if (t35 == 1) = true then (weirlaw10_Lent.f t11 >>= (fun (t689, t690) => (if (([] : List Int).length + a1.length) * 8 ≤ 140737488355328 then (if ((([] : List Int) ++ a1).length + ([(-7)] : List Int).length) * 8 ≤ 140737488355328 then (if 0 ≤ (a1.length : Int) ∧ (a1.length : Int) ≤ (((([] : List Int) ++ a1) ++ ([(-7)] : List Int)).length : Int) then (if t690 ≤ t689.length then (if (a1.length : Int).toNat ≤ ((([] : List Int) ++ a1) ++ ([(-7)] : List Int)).length then (state_Project.f (t689.take t690) (((([] : List Int) ++ a1) ++ ([(-7)] : List Int)).take ((a1.length : Int).toNat)) >>= (fun (t736, t737) => (if 0 ≤ (a1.length : Int) ∧ (a1.length : Int) ≤ (((([] : List Int) ++ a1) ++ ([(-7)] : List Int)).length : Int) then (if t690 ≤ t689.length then (if (a1.length : Int).toNat ≤ ((([] : List Int) ++ a1) ++ ([(-7)] : List Int)).length then (state_Project.f (t689.take t690) (((([] : List Int) ++ a1) ++ ([(-7)] : List Int)).take ((a1.length : Int).toNat)) >>= (fun (t766, t767) => (if (t35 == 0) = true then (weirref10_Project.f a0 a1 >>= (fun (t790, t791) => (weirlaw10_num.f t737 >>= (fun t799 => (if (t799 != t791) = true then some (.inr (false)) else (weirlaw10_Same.f t736 t790 >>= (fun t817 => (if (!t817) = true then some (.inr (false)) else (weirlaw10_Same.f t766 t790 >>= (fun t848 => (if (!t848) = true then some (.inr (false)) else (if 0 ≤ (a1.length : Int) ∧ (a1.length : Int) < (((([] : List Int) ++ a1) ++ ([(-7)] : List Int)).length : Int) then (if ((gt ((([] : List Int) ++ a1) ++ ([(-7)] : List Int)) (a1.length : Int)) != (-7)) = true then some (.inr (false)) else (weirlaw10_StateProjects.l3 a1 0 >>= (fun | .inl () => (weirlaw10_Spoil.f t736 >>= (fun _ => (weirlaw10_Same.f t766 t790 >>= (fun t915 => (if (!t915) = true then some (.inr (false)) else (if (t35 == 0) = true then (weirlaw10_Back.f t689 t690 a0 >>= (fun t947 => (if (!t947) = true then some (.inr (false)) else (weirlaw10_StateProjects.l0 a0 a1 t11 (IntKind.i64.wrap (t35 + 1)))))) else (if (t35 == 1) = true then (weirlaw10_Back.f t689 t690 t11 >>= (fun t970 => (if (!t970) = true then some (.inr (false)) else (weirlaw10_StateProjects.l0 a0 a1 t11 (IntKind.i64.wrap (t35 + 1)))))) else none))))))) | .inr e => some e))) else none)))))))))))) else (if (t35 == 1) = true then (weirref10_Project.f t11 a1 >>= (fun (t1057, t1058) => (weirlaw10_num.f t737 >>= (fun t1073 => (if (t1073 != t1058) = true then some (.inr (false)) else (weirlaw10_Same.f t736 t1057 >>= (fun t1091 => (if (!t1091) = true then some (.inr (false)) else (weirlaw10_Same.f t766 t1057 >>= (fun t1123 => (if (!t1123) = true then some (.inr (false)) else (if 0 ≤ (a1.length : Int) ∧ (a1.length : Int) < (((([] : List Int) ++ a1) ++ ([(-7)] : List Int)).length : Int) then (if ((gt ((([] : List Int) ++ a1) ++ ([(-7)] : List Int)) (a1.length : Int)) != (-7)) = true then some (.inr (false)) else (weirlaw10_StateProjects.l4 a1 0 >>= (fun | .inl () => (weirlaw10_Spoil.f t736 >>= (fun _ => (weirlaw10_Same.f t766 t1057 >>= (fun t1190 => (if (!t1190) = true then some (.inr (false)) else (if (t35 == 0) = true then (weirlaw10_Back.f t689 t690 a0 >>= (fun t1222 => (if (!t1222) = true then some (.inr (false)) else (weirlaw10_StateProjects.l0 a0 a1 t11 (IntKind.i64.wrap (t35 + 1)))))) else (if (t35 == 1) = true then (weirlaw10_Back.f t689 t690 t11 >>= (fun t1245 => (if (!t1245) = true then some (.inr (false)) else (weirlaw10_StateProjects.l0 a0 a1 t11 (IntKind.i64.wrap (t35 + 1)))))) else none))))))) | .inr e => some e))) else none)))))))))))) else none)))) else none) else none) else none))) else none) else none) else none) else none) else none))) else none)) else some (.inl ()))
 partial_fixpoint
def weirlaw10_StateProjects.f (a0 : List api_Final) (a1 : List Int) : Option Bool :=
  (weirlaw10_few.f a0 ([] : List api_Final) >>= (fun t1 => (if (!t1) = true then some (true) else (weirref10_Sort.f a0 >>= (fun t11 => (weirlaw10_StateProjects.l0 a0 a1 t11 0 >>= (fun | .inl () => some (true) | .inr e => some e)))))))
set_option maxHeartbeats 16000000 in
theorem weirlaw10_StateProjects.ok (a0 : List api_Final) (a1 : List Int) (Aa0 : Option Addr) (ca0 : Nat) (Aa1 : Option Addr) (ca1 : Nat) {w0 : World} {Z : Zm} {fs : List XObj} {w : World} (hS0 : St w0 Z (fs) w) (ha0 : SlZ (flat enc_api_Final) 49 Z Aa0 ca0 a0) (ha1 : SlZ (flat (encI .i64)) 1 Z Aa1 ca1 a1) {q0 : Bool} (hp0 : weirlaw10_StateProjects.f a0 a1 = some q0) :
    Calls Try.prog 6 #[.slice Aa0 a0.length ca0, .slice Aa1 a1.length ca1] w (fun e w' => e = .returned (.bool q0) ∧ St w0 Z (fs) w') := by
  refine calls_abs ?_; intro R hR
  unfold weirlaw10_StateProjects.f at hp0
  refine calls_of_runs (fn := Try.f6) (c := cd6 []) Try.func6 (by kernel_rfl) (al := [.slice Aa0 a0.length ca0, .slice Aa1 a1.length ca1]) rfl (n := 113) rfl ?_
  refine sx_run 8 (todo' := [.inRegion (opsOf (cd6 [1, 0, 0])) [1, 2], .code (cd6 [1, 0, 1]), .code (cd6 [1, 1])]) (us := [(4, .bool false), (16, .slice Aa0 a0.length ca0)]) (by kernel_rfl) ?_
  obtain ⟨t1, hr2, hp3⟩ := bind_some' hp0
  refine r_call1 (c := (cd6 [1, 0, 0])) (i := 1) (d := (some 17)) (g := 12) (args := #[.slice Aa0 a0.length ca0, .slice none 0 0]) (by kernel_rfl) (by kernel_rfl) (by kernel_rfl) (by kernel_rfl) (weirlaw10_few.ok a0 ([] : List api_Final) Aa0 ca0 none 0 hS0 ha0 (SlZ.nil _ _ _ _ _) hr2) ?_
  rintro _ w4 ⟨rfl, hS5⟩
  refine ⟨.bool t1, rfl, ?_⟩
  refine sx_split 1 (todo' := [.inRegion (opsOf (cd6 [1, 0, 0])) [], .code (cd6 [1, 0, 1]), .code (cd6 [1, 1])]) (us := []) (d := 18) (t := (!t1)) (by kernel_rfl) (fun h6 => ?_) (fun h7 => ?_)
  · skip
    have hp8 := ite_t hp3 h6
    refine sx_run 6 (todo' := [.code (cd6 [1, 0, 1, 0, 1]), .code (cd6 [1, 1])]) (us := [(4, .bool true)]) (by kernel_rfl) ?_
    refine runs_ret (fn := Try.f6) (v := .bool true) Try.func6 (by kernel_rfl) ?_
    have hr9 := (Option.some.inj hp8)
    cases hr9
    exact hR _ _ ⟨rfl, hS5⟩
  · skip
    have hp10 := ite_f hp3 h7
    refine sx_run 7 (todo' := [.inRegion (opsOf (cd6 [1, 1, 0])) [2, 3, 4, 5], .code (cd6 [1, 1, 1])]) (us := [(19, .slice Aa0 a0.length ca0), (20, .slice Aa0 a0.length ca0)]) (by kernel_rfl) ?_
    obtain ⟨t11, hr14, hp15⟩ := bind_some' hp10
    refine r_call1 (c := (cd6 [1, 1, 0])) (i := 2) (d := (some 21)) (g := 14) (args := #[.slice Aa0 a0.length ca0]) (by kernel_rfl) (by kernel_rfl) (by kernel_rfl) (by kernel_rfl) (weirref10_Sort.ok a0 Aa0 ca0 hS5 ha0 hr14) ?_
    rintro _ w17 ⟨Q12, Q13, rfl, hS18⟩
    refine ⟨.slice Q12 t11.length Q13, rfl, ?_⟩
    refine sx_run 1 (todo' := [.inRegion (opsOf (cd6 [1, 1, 0])) [4, 5], .code (cd6 [1, 1, 1])]) (us := [(22, .agg #[.slice Aa0 a0.length ca0, .slice Q12 t11.length Q13])]) (by kernel_rfl) ?_
    refine r_alloc (c := (cd6 [1, 1, 0])) (i := 4) (d := (some 5)) (ty := 0) (z := .agg #[.slice none 0 0, .slice none 0 0]) (t := 49) (cs := [.slice none 0 0, .slice none 0 0]) hS18 (by kernel_rfl) (by kernel_rfl) (by kernel_rfl) (by kernel_rfl) ?_
    intro b19 w20 hS21
    refine r_store (c := (cd6 [1, 1, 0])) (i := 5) (d := none) (ty := 0) (t := 49) (x := (.tmp 5)) (y := (.tmp 22)) (b := b19) (o := 0) (e := 49) (cs := [.slice none 0 0, .slice none 0 0]) (v := .agg #[.slice Aa0 a0.length ca0, .slice Q12 t11.length Q13]) (vs := [.slice Aa0 a0.length ca0, .slice Q12 t11.length Q13]) (cs' := [.slice Aa0 a0.length ca0, .slice Q12 t11.length Q13]) hS21 (by kernel_rfl) (by kernel_rfl) (by kernel_rfl) (by kernel_rfl) (by kernel_rfl) (by kernel_rfl) (by kernel_rfl) (Nat.le_of_ble_eq_true (by kernel_rfl)) (by kernel_rfl) ?_
    intro w23 hS24
    refine sx_run 8 (todo' := [.code (cd6 [1, 1, 1, 0, 1, 0, 0]), .inLoop (cd6 [1, 1, 1, 0, 1, 0, 0]), .inBlock 0, .code (cd6 [1, 1, 1, 1])]) (us := [(6, .int .i64 0)]) (by kernel_rfl) ?_
    obtain ⟨v25, hv26, hp27⟩ := bind_some' hp15
    have hq30 : ∀ x, Sum.inr x = v25 → x = q0 := by intro x hx; subst hx; simpa using hp27
    have J31 : ∀ (he33 : Sum.inl () = v25) (l32 : List Value) (w28 : World) (hS29 : St w0 Z (fs) w28), Runs Try.prog 6 [.code (cd6 [1, 1, 1, 1])] (fill [none, none, none, none, none, none, none, none, none, none, none, none, none, none, none, none, none, none, none, none, none, none, none, none, none, none, none, none, none, none, none, none, none, none, none, none, none, none, none, none, none, none, none, none, none, none, none, none, none, none, none, none, none, none, none, none, none, none, none, none, none, none, none, none, none, none, none, none, none, none, none, none, none, none, none, none, none, none, none, none, none, none, none, none, none, none, none, none, none, none, none, none, none, none, none, none, none, none, none, none, none, none, none, none, none, none, none, none, none, none, none, none, none, none, none] l32) w28 R := by
      intro he33 l32 w28 hS29
      subst he33
      try dsimp only at hp27
      refine sx_run 4 (todo' := [.code (cd6 [1, 1, 1, 1, 1])]) (us := [(4, .bool true)]) (by kernel_rfl) ?_
      refine runs_ret (fn := Try.f6) (v := .bool true) Try.func6 (by kernel_rfl) ?_
      have hr34 := (Option.some.inj hp27)
      cases hr34
      exact hR _ _ ⟨rfl, hS29⟩
    have L44 : ∀ (t35 : Int) (e39 : Sum Unit Bool), weirlaw10_StateProjects.l0 a0 a1 t11 t35 = some e39 → e39 = v25 → ∀ (l38 : List Value) (w36 : World) (hS37 : St w0 Z (xblk b19 49 ([.slice Aa0 a0.length ca0, .slice Q12 t11.length Q13]) :: xrow Q12 Q13 24 49 (t11.flatMap enc_api_Final) :: fs) w36), Runs Try.prog 6 [.code (cd6 [1, 1, 1, 0, 1, 0, 0]), .inLoop (cd6 [1, 1, 1, 0, 1, 0, 0]), .inBlock 0, .code (cd6 [1, 1, 1, 1])] (fill [none, some (.slice Aa1 a1.length ca1), none, none, none, some (.pointer (some ⟨b19, 0, none⟩)), some (.int .i64 t35), none, none, none, none, none, none, none, none, none, none, none, none, none, none, none, none, none, none, none, none, none, none, none, none, none, none, none, none, none, none, none, none, none, none, none, none, none, none, none, none, none, none, none, none, none, none, none, none, none, none, none, none, none, none, none, none, none, none, none, none, none, none, none, none, none, none, none, none, none, none, none, none, none, none, none, none, none, none, none, none, none, none, none, none, none, none, none, none, none, none, none, none, none, none, none, none, none, none, none, none, none, none, none, none, none, none, none, none] l38) w36 R := by
      refine weirlaw10_StateProjects.l0.partial_correctness a0 a1 t11 (fun t35 e39 => e39 = v25 → ∀ (l38 : List Value) (w36 : World) (hS37 : St w0 Z (xblk b19 49 ([.slice Aa0 a0.length ca0, .slice Q12 t11.length Q13]) :: xrow Q12 Q13 24 49 (t11.flatMap enc_api_Final) :: fs) w36), Runs Try.prog 6 [.code (cd6 [1, 1, 1, 0, 1, 0, 0]), .inLoop (cd6 [1, 1, 1, 0, 1, 0, 0]), .inBlock 0, .code (cd6 [1, 1, 1, 1])] (fill [none, some (.slice Aa1 a1.length ca1), none, none, none, some (.pointer (some ⟨b19, 0, none⟩)), some (.int .i64 t35), none, none, none, none, none, none, none, none, none, none, none, none, none, none, none, none, none, none, none, none, none, none, none, none, none, none, none, none, none, none, none, none, none, none, none, none, none, none, none, none, none, none, none, none, none, none, none, none, none, none, none, none, none, none, none, none, none, none, none, none, none, none, none, none, none, none, none, none, none, none, none, none, none, none, none, none, none, none, none, none, none, none, none, none, none, none, none, none, none, none, none, none, none, none, none, none, none, none, none, none, none, none, none, none, none, none, none, none] l38) w36 R) ?_
      intro rec43 ih42 t35 e39 hb41 he40 l38 w36 hS37
      have hq45 : ∀ x, Sum.inr x = e39 → x = q0 := fun x hx => hq30 x (hx.trans he40)
      refine sx_split 5 (todo' := [.inRegion (opsOf (cd6 [1, 1, 1, 0, 1, 0, 0, 0, 0])) [], .code (cd6 [1, 1, 1, 0, 1, 0, 0, 0, 1]), .code (cd6 [1, 1, 1, 0, 1, 0, 0, 1]), .inLoop (cd6 [1, 1, 1, 0, 1, 0, 0]), .inBlock 0, .code (cd6 [1, 1, 1, 1])]) (us := [(23, .int .i64 t35)]) (d := 24) (t := (decide (t35 < 2))) (by kernel_rfl) (fun h46 => ?_) (fun h47 => ?_)
      · skip
        have hp48 := ite_t hb41 h46
        refine sx_run 8 (todo' := [.inRegion (opsOf (cd6 [1, 1, 1, 0, 1, 0, 0, 1, 0, 0, 0])) [1, 2, 3, 4], .code (cd6 [1, 1, 1, 0, 1, 0, 0, 1, 0, 0, 1]), .inBlock 1, .code (cd6 [1, 1, 1, 0, 1, 0, 0, 1, 1]), .inLoop (cd6 [1, 1, 1, 0, 1, 0, 0]), .inBlock 0, .code (cd6 [1, 1, 1, 1])]) (us := [(27, .int .i64 t35)]) (by kernel_rfl) ?_
        rcases Bool.eq_false_or_eq_true (t35 == 0) with h49 | h49
        · skip
          have hp50 := ite_t hp48 h49
          have he51 : t35 = ((0 : Nat) : Int) := by simpa using h49
          refine r_indexArrL (c := (cd6 [1, 1, 1, 0, 1, 0, 0, 1, 0, 0, 0])) (i := 1) (d := (some 28)) (ty := 0) (t := 49) (e := 36) (sz := 1) (kk := .i64) (x := (.tmp 5)) (y := (.tmp 27)) (b := b19) (o' := 0) (n := 2) (j := t35) (m := 0) (by kernel_rfl) (by kernel_rfl) (by kernel_rfl) (by kernel_rfl) (by kernel_rfl) (by kernel_rfl) he51 (by decide) ?_
          refine r_load (c := (cd6 [1, 1, 1, 0, 1, 0, 0, 1, 0, 0, 0])) (i := 2) (d := (some 29)) (ty := 36) (t := 36) (x := (.tmp 28)) (p := ⟨b19, 0, none⟩) (v := .slice Aa0 a0.length ca0) (by kernel_rfl) (by kernel_rfl) (by kernel_rfl) (loads_at 0 (hS37.blk 0 rfl) (by kernel_rfl) (by kernel_rfl)) ?_
          obtain ⟨⟨t52, t53⟩, hr56, hp57⟩ := bind_some' hp50
          try dsimp only at hp57
          refine r_call1 (c := (cd6 [1, 1, 1, 0, 1, 0, 0, 1, 0, 0, 0])) (i := 3) (d := (some 30)) (g := 16) (args := #[.slice Aa0 a0.length ca0]) (by kernel_rfl) (by kernel_rfl) (by kernel_rfl) (by kernel_rfl) (weirlaw10_Lent.ok a0 Aa0 ca0 hS37 ha0 hr56) ?_
          rintro _ w59 ⟨Q54, Q55, rfl, hS60⟩
          refine ⟨.slice Q54 t53 Q55, rfl, ?_⟩
          refine sx_run 4 (todo' := [.inRegion (opsOf (cd6 [1, 1, 1, 0, 1, 0, 0, 1, 0, 0, 1, 0])) [0, 1, 2, 3, 4, 5], .code (cd6 [1, 1, 1, 0, 1, 0, 0, 1, 0, 0, 1, 1]), .inBlock 1, .code (cd6 [1, 1, 1, 0, 1, 0, 0, 1, 1]), .inLoop (cd6 [1, 1, 1, 0, 1, 0, 0]), .inBlock 0, .code (cd6 [1, 1, 1, 1])]) (us := [(7, .slice Q54 t53 Q55)]) (by kernel_rfl) ?_
          refine r_lit0 (c := (cd6 [1, 1, 1, 0, 1, 0, 0, 1, 0, 0, 1, 0])) (i := 0) (d := (some 31)) (ty := 48) (t := 48) (e := 3) (sz := 1) hS60 (by kernel_rfl) (by kernel_rfl) (by kernel_rfl) (by kernel_rfl) ?_
          intro b62 w63 hS64
          refine sx_run 1 (todo' := [.inRegion (opsOf (cd6 [1, 1, 1, 0, 1, 0, 0, 1, 0, 0, 1, 0])) [2, 3, 4, 5], .code (cd6 [1, 1, 1, 0, 1, 0, 0, 1, 0, 0, 1, 1]), .inBlock 1, .code (cd6 [1, 1, 1, 0, 1, 0, 0, 1, 1]), .inLoop (cd6 [1, 1, 1, 0, 1, 0, 0]), .inBlock 0, .code (cd6 [1, 1, 1, 1])]) (us := [(32, .slice Aa1 a1.length ca1)]) (by kernel_rfl) ?_
          obtain ⟨g65, hp66⟩ := ite_some hp57
          refine r_append (c := (cd6 [1, 1, 1, 0, 1, 0, 0, 1, 0, 0, 1, 0])) (i := 2) (d := (some 33)) (ty := 48) (enc := (encI .i64)) (e := 3) (u := 3) (t := 48) (t2 := 48) (sz := 1) (cp := 0) (A := (some ⟨b62, 0, none⟩)) (bytes := 8) (xs := ([] : List Int)) (ys := a1) (s := (.tmp 31)) (x := (.tmp 32)) (xv := .slice Aa1 a1.length ca1) (info := infoOf Try.prog 3) (z := zeroOf Try.prog 3) (ycs := a1.flatMap (encI .i64)) hS64 (by kernel_rfl) (by kernel_rfl) (by kernel_rfl) (by kernel_rfl) (by kernel_rfl) (.inl (by kernel_rfl)) (by kernel_rfl) (by kernel_rfl) (by kernel_rfl) (by kernel_rfl) (by kernel_rfl) (by omega) (len_encI .i64) (one_encI .i64) (src_slz hS64 ha1 (by omega) (len_encI .i64)) rfl g65 (by omega) ?_
          intro A67 c68 w69 hS70
          refine r_lit (c := (cd6 [1, 1, 1, 0, 1, 0, 0, 1, 0, 0, 1, 0])) (i := 3) (d := (some 34)) (ty := 48) (t := 48) (e := 3) (sz := 1) (n := 1) (parts := #[(0, (.const (.int .i64 (-7))))]) (vs := [(0, .int .i64 (-7))]) (z := zeroOf Try.prog 3) (cs' := ([(-7)] : List Int).flatMap (encI .i64)) hS70 (by kernel_rfl) (by kernel_rfl) (by kernel_rfl) (by kernel_rfl) (by kernel_rfl) (by decide) (by decide) (by kernel_rfl) rfl (Parts.cons (c := [.int .i64 (-7)]) (by kernel_rfl) rfl Parts.nil) rfl ?_
          intro b73 w74 hS75
          have hS76 := hS75.pick1
          obtain ⟨g77, hp78⟩ := ite_some hp66
          refine r_append (c := (cd6 [1, 1, 1, 0, 1, 0, 0, 1, 0, 0, 1, 0])) (i := 4) (d := (some 35)) (ty := 48) (enc := (encI .i64)) (e := 3) (u := 3) (t := 48) (t2 := 48) (sz := 1) (cp := c68) (A := A67) (bytes := 8) (xs := (([] : List Int) ++ a1)) (ys := ([(-7)] : List Int)) (s := (.tmp 33)) (x := (.tmp 34)) (xv := .slice (some ⟨b73, 0, none⟩) ([(-7)] : List Int).length 1) (info := infoOf Try.prog 3) (z := zeroOf Try.prog 3) (ycs := ([(-7)] : List Int).flatMap (encI .i64)) hS76 (by kernel_rfl) (by kernel_rfl) (by kernel_rfl) (by kernel_rfl) (by kernel_rfl) (.inl (by kernel_rfl)) (by kernel_rfl) (by kernel_rfl) (by kernel_rfl) (by kernel_rfl) (by kernel_rfl) (by omega) (len_encI .i64) (one_encI .i64) (src_row (hS76.row 1 rfl) (by omega) (len_encI .i64)) rfl g77 (by omega) ?_
          intro A79 c80 w81 hS82
          refine sx_run 8 (todo' := [.inRegion (opsOf (cd6 [1, 1, 1, 0, 1, 0, 0, 1, 0, 0, 1, 1, 0])) [4, 5, 6, 7, 8, 9, 10], .code (cd6 [1, 1, 1, 0, 1, 0, 0, 1, 0, 0, 1, 1, 1]), .inBlock 1, .code (cd6 [1, 1, 1, 0, 1, 0, 0, 1, 1]), .inLoop (cd6 [1, 1, 1, 0, 1, 0, 0]), .inBlock 0, .code (cd6 [1, 1, 1, 1])]) (us := [(8, .slice A79 ((([] : List Int) ++ a1) ++ ([(-7)] : List Int)).length c80), (37, .slice Q54 t53 Q55), (38, .slice A79 ((([] : List Int) ++ a1) ++ ([(-7)] : List Int)).length c80), (39, .slice Aa1 a1.length ca1), (40, .int .i64 (a1.length : Int))]) (by kernel_rfl) ?_
          obtain ⟨g84, hp85⟩ := ite_some hp78
          have hc86 := (hS82.row 0 rfl).cap (len_encI .i64) (by omega)
          have g87 : 0 ≤ (a1.length : Int) ∧ (a1.length : Int) ≤ (c80 : Int) := by omega
          refine r_val (c := (cd6 [1, 1, 1, 0, 1, 0, 0, 1, 0, 0, 1, 1, 0])) (i := 4) (d := (some 41)) (ty := 48) (op := .slice 48 (.tmp 38) none (some (.tmp 40)) none) (v := .slice A79 ((a1.length : Int).toNat) c80) (by kernel_rfl) (by kernel_rfl) (fun o ho _ => x_cutSl_nsC (e := 3) (sz := 1) (A := A79) (n := ((([] : List Int) ++ a1) ++ ([(-7)] : List Int)).length) (c := c80) (k := .i64) (by kernel_rfl) (by kernel_rfl) (by kernel_rfl) (by kernel_rfl) g87 cut0 ho) ?_
          obtain ⟨g88, hp89⟩ := ite_some hp85
          obtain ⟨g90, hp91⟩ := ite_some hp89
          obtain ⟨⟨t92, t93⟩, hr96, hp97⟩ := bind_some' hp91
          try dsimp only at hp97
          have hS99 := hS82.pick2
          obtain ⟨Z100, hz101, hS102, hs103, hb104⟩ := hS99.lendrow len_api_Final (by omega)
          obtain ⟨Z105, hz106, hS107, hs108, hb109⟩ := hS102.lendrow (len_encI .i64) (by omega)
          refine r_call1 (c := (cd6 [1, 1, 1, 0, 1, 0, 0, 1, 0, 0, 1, 1, 0])) (i := 5) (d := (some 42)) (g := 28) (args := #[.slice Q54 t53 Q55, .slice A79 ((a1.length : Int).toNat) c80]) (by kernel_rfl) (by kernel_rfl) (by kernel_rfl) (by kernel_rfl) (args_eq (by rw [lenTake g88, lenTake g90]) (state_Project.ok (t52.take t53) (((([] : List Int) ++ a1) ++ ([(-7)] : List Int)).take ((a1.length : Int).toNat)) Q54 Q55 A79 c80 hS107 ((hs103.up hz106).take0 t53) (hs108.take0 ((a1.length : Int).toNat)) hr96)) ?_
          rintro _ w110 ⟨Q94, Q95, rfl, hS111⟩
          refine ⟨.tuple #[.slice Q94 t92.length Q95, .int .i64 t93], rfl, ?_⟩
          have hS112 := hb109 _ _ hS111
          have hS113 := hb104 _ _ hS112
          refine sx_run 12 (todo' := [.inRegion (opsOf (cd6 [1, 1, 1, 0, 1, 0, 0, 1, 0, 0, 1, 1, 1, 0])) [4, 5, 6, 7, 8, 9, 10], .code (cd6 [1, 1, 1, 0, 1, 0, 0, 1, 0, 0, 1, 1, 1, 1]), .inBlock 1, .code (cd6 [1, 1, 1, 0, 1, 0, 0, 1, 1]), .inLoop (cd6 [1, 1, 1, 0, 1, 0, 0]), .inBlock 0, .code (cd6 [1, 1, 1, 1])]) (us := [(36, .tuple #[.slice Q94 t92.length Q95, .int .i64 t93]), (43, .slice Q94 t92.length Q95), (44, .int .i64 t93), (9, .slice Q94 t92.length Q95), (10, .int .i64 t93), (46, .slice Q54 t53 Q55), (47, .slice A79 ((([] : List Int) ++ a1) ++ ([(-7)] : List Int)).length c80), (48, .slice Aa1 a1.length ca1), (49, .int .i64 (a1.length : Int))]) (by kernel_rfl) ?_
          obtain ⟨g114, hp115⟩ := ite_some hp97
          have hc116 := (hS113.row 1 rfl).cap (len_encI .i64) (by omega)
          have g117 : 0 ≤ (a1.length : Int) ∧ (a1.length : Int) ≤ (c80 : Int) := by omega
          refine r_val (c := (cd6 [1, 1, 1, 0, 1, 0, 0, 1, 0, 0, 1, 1, 1, 0])) (i := 4) (d := (some 50)) (ty := 48) (op := .slice 48 (.tmp 47) none (some (.tmp 49)) none) (v := .slice A79 ((a1.length : Int).toNat) c80) (by kernel_rfl) (by kernel_rfl) (fun o ho _ => x_cutSl_nsC (e := 3) (sz := 1) (A := A79) (n := ((([] : List Int) ++ a1) ++ ([(-7)] : List Int)).length) (c := c80) (k := .i64) (by kernel_rfl) (by kernel_rfl) (by kernel_rfl) (by kernel_rfl) g117 cut0 ho) ?_
          obtain ⟨g118, hp119⟩ := ite_some hp115
          obtain ⟨g120, hp121⟩ := ite_some hp119
          obtain ⟨⟨t122, t123⟩, hr126, hp127⟩ := bind_some' hp121
          try dsimp only at hp127
          obtain ⟨Z129, hz130, hS131, hs132, hb133⟩ := hS113.lendrow len_api_Final (by omega)
          obtain ⟨Z134, hz135, hS136, hs137, hb138⟩ := hS131.lendrow (len_encI .i64) (by omega)
          refine r_call1 (c := (cd6 [1, 1, 1, 0, 1, 0, 0, 1, 0, 0, 1, 1, 1, 0])) (i := 5) (d := (some 51)) (g := 28) (args := #[.slice Q54 t53 Q55, .slice A79 ((a1.length : Int).toNat) c80]) (by kernel_rfl) (by kernel_rfl) (by kernel_rfl) (by kernel_rfl) (args_eq (by rw [lenTake g118, lenTake g120]) (state_Project.ok (t52.take t53) (((([] : List Int) ++ a1) ++ ([(-7)] : List Int)).take ((a1.length : Int).toNat)) Q54 Q55 A79 c80 hS136 ((hs132.up hz135).take0 t53) (hs137.take0 ((a1.length : Int).toNat)) hr126)) ?_
          rintro _ w139 ⟨Q124, Q125, rfl, hS140⟩
          refine ⟨.tuple #[.slice Q124 t122.length Q125, .int .i64 t123], rfl, ?_⟩
          have hS141 := hb138 _ _ hS140
          have hS142 := hb133 _ _ hS141
          refine sx_run 9 (todo' := [.inRegion (opsOf (cd6 [1, 1, 1, 0, 1, 0, 0, 1, 0, 0, 1, 1, 1, 1, 0])) [1, 2, 3, 4, 5, 6, 7, 8, 9], .code (cd6 [1, 1, 1, 0, 1, 0, 0, 1, 0, 0, 1, 1, 1, 1, 1]), .inBlock 1, .code (cd6 [1, 1, 1, 0, 1, 0, 0, 1, 1]), .inLoop (cd6 [1, 1, 1, 0, 1, 0, 0]), .inBlock 0, .code (cd6 [1, 1, 1, 1])]) (us := [(45, .tuple #[.slice Q124 t122.length Q125, .int .i64 t123]), (52, .slice Q124 t122.length Q125), (53, .int .i64 t123), (11, .slice Q124 t122.length Q125), (12, .int .i64 t123), (55, .int .i64 t35)]) (by kernel_rfl) ?_
          rcases Bool.eq_false_or_eq_true (t35 == 0) with h143 | h143
          · skip
            have hp144 := ite_t hp127 h143
            have he145 : t35 = ((0 : Nat) : Int) := by simpa using h143
            refine r_indexArrL (c := (cd6 [1, 1, 1, 0, 1, 0, 0, 1, 0, 0, 1, 1, 1, 1, 0])) (i := 1) (d := (some 56)) (ty := 0) (t := 49) (e := 36) (sz := 1) (kk := .i64) (x := (.tmp 5)) (y := (.tmp 55)) (b := b19) (o' := 0) (n := 2) (j := t35) (m := 0) (by kernel_rfl) (by kernel_rfl) (by kernel_rfl) (by kernel_rfl) (by kernel_rfl) (by kernel_rfl) he145 (by decide) ?_
            refine r_load (c := (cd6 [1, 1, 1, 0, 1, 0, 0, 1, 0, 0, 1, 1, 1, 1, 0])) (i := 2) (d := (some 57)) (ty := 36) (t := 36) (x := (.tmp 56)) (p := ⟨b19, 0, none⟩) (v := .slice Aa0 a0.length ca0) (by kernel_rfl) (by kernel_rfl) (by kernel_rfl) (loads_at 0 (hS142.blk 5 rfl) (by kernel_rfl) (by kernel_rfl)) ?_
            refine sx_run 1 (todo' := [.inRegion (opsOf (cd6 [1, 1, 1, 0, 1, 0, 0, 1, 0, 0, 1, 1, 1, 1, 0])) [4, 5, 6, 7, 8, 9], .code (cd6 [1, 1, 1, 0, 1, 0, 0, 1, 0, 0, 1, 1, 1, 1, 1]), .inBlock 1, .code (cd6 [1, 1, 1, 0, 1, 0, 0, 1, 1]), .inLoop (cd6 [1, 1, 1, 0, 1, 0, 0]), .inBlock 0, .code (cd6 [1, 1, 1, 1])]) (us := [(58, .slice Aa1 a1.length ca1)]) (by kernel_rfl) ?_
            obtain ⟨⟨t146, t147⟩, hr150, hp151⟩ := bind_some' hp144
            try dsimp only at hp151
            refine r_call1 (c := (cd6 [1, 1, 1, 0, 1, 0, 0, 1, 0, 0, 1, 1, 1, 1, 0])) (i := 4) (d := (some 59)) (g := 29) (args := #[.slice Aa0 a0.length ca0, .slice Aa1 a1.length ca1]) (by kernel_rfl) (by kernel_rfl) (by kernel_rfl) (by kernel_rfl) (weirref10_Project.ok a0 a1 Aa0 ca0 Aa1 ca1 hS142 ha0 ha1 hr150) ?_
            rintro _ w153 ⟨Q148, Q149, rfl, hS154⟩
            refine ⟨.tuple #[.slice Q148 t146.length Q149, .int .i64 t147], rfl, ?_⟩
            refine sx_run 10 (todo' := [.inRegion (opsOf (cd6 [1, 1, 1, 0, 1, 0, 0, 1, 0, 0, 1, 1, 1, 1, 1, 0, 0])) [1, 2, 3, 4, 5, 6, 7, 8, 9, 10, 11, 12, 13, 14, 15, 16, 17, 18, 19, 20, 21, 22, 23], .code (cd6 [1, 1, 1, 0, 1, 0, 0, 1, 0, 0, 1, 1, 1, 1, 1, 0, 1]), .code (cd6 [1, 1, 1, 0, 1, 0, 0, 1, 0, 0, 1, 1, 1, 1, 1, 1]), .inBlock 1, .code (cd6 [1, 1, 1, 0, 1, 0, 0, 1, 1]), .inLoop (cd6 [1, 1, 1, 0, 1, 0, 0]), .inBlock 0, .code (cd6 [1, 1, 1, 1])]) (us := [(54, .tuple #[.slice Q148 t146.length Q149, .int .i64 t147]), (60, .slice Q148 t146.length Q149), (61, .int .i64 t147), (13, .slice Q148 t146.length Q149), (14, .int .i64 t147), (62, .int .i64 t93)]) (by kernel_rfl) ?_
            obtain ⟨t155, hr156, hp157⟩ := bind_some' hp151
            refine r_call1 (c := (cd6 [1, 1, 1, 0, 1, 0, 0, 1, 0, 0, 1, 1, 1, 1, 1, 0, 0])) (i := 1) (d := (some 63)) (g := 11) (args := #[.int .i64 t93]) (by kernel_rfl) (by kernel_rfl) (by kernel_rfl) (by kernel_rfl) (weirlaw10_num.ok t93 hS154 hr156) ?_
            rintro _ w158 ⟨rfl, hS159⟩
            refine ⟨.int .i64 t155, rfl, ?_⟩
            refine sx_split 2 (todo' := [.inRegion (opsOf (cd6 [1, 1, 1, 0, 1, 0, 0, 1, 0, 0, 1, 1, 1, 1, 1, 0, 0])) [4, 5, 6, 7, 8, 9, 10, 11, 12, 13, 14, 15, 16, 17, 18, 19, 20, 21, 22, 23], .code (cd6 [1, 1, 1, 0, 1, 0, 0, 1, 0, 0, 1, 1, 1, 1, 1, 0, 1]), .code (cd6 [1, 1, 1, 0, 1, 0, 0, 1, 0, 0, 1, 1, 1, 1, 1, 1]), .inBlock 1, .code (cd6 [1, 1, 1, 0, 1, 0, 0, 1, 1]), .inLoop (cd6 [1, 1, 1, 0, 1, 0, 0]), .inBlock 0, .code (cd6 [1, 1, 1, 1])]) (us := [(64, .int .i64 t147)]) (d := 65) (t := (t155 != t147)) (by kernel_rfl) (fun h160 => ?_) (fun h161 => ?_)
            · skip
              have hp162 := ite_t hp157 h160
              refine sx_run 26 (todo' := [.code (cd6 [1, 1, 1, 0, 1, 0, 0, 1, 0, 0, 1, 1, 1, 1, 1, 0, 1, 0, 1]), .code (cd6 [1, 1, 1, 0, 1, 0, 0, 1, 0, 0, 1, 1, 1, 1, 1, 1]), .inBlock 1, .code (cd6 [1, 1, 1, 0, 1, 0, 0, 1, 1]), .inLoop (cd6 [1, 1, 1, 0, 1, 0, 0]), .inBlock 0, .code (cd6 [1, 1, 1, 1])]) (us := [(66, .bool true), (67, undef), (68, undef), (69, undef), (70, undef), (71, .bool true), (72, .bool true), (73, undef), (74, undef), (75, undef), (76, undef), (77, .bool true), (78, .bool true), (79, undef), (80, undef), (81, undef), (82, undef), (83, undef), (84, undef), (85, .bool true), (4, .bool false)]) (by kernel_rfl) ?_
              have hS163 := hS159.drop
              have hS164 := hS163.drop
              have hS165 := hS164.drop
              have hS166 := hS165.drop
              have hS167 := hS166.drop
              have hS168 := hS167.drop
              have hS169 := hS168.drop
              have hS170 := hS169.drop
              refine runs_ret (fn := Try.f6) (v := .bool false) Try.func6 (by kernel_rfl) ?_
              have hr171 := (hq45 _ (Option.some.inj hp162))
              cases hr171
              exact hR _ _ ⟨rfl, hS170⟩
            · skip
              have hp172 := ite_f hp157 h161
              refine sx_run 3 (todo' := [.inRegion (opsOf (cd6 [1, 1, 1, 0, 1, 0, 0, 1, 0, 0, 1, 1, 1, 1, 1, 0, 0])) [7, 8, 9, 10, 11, 12, 13, 14, 15, 16, 17, 18, 19, 20, 21, 22, 23], .code (cd6 [1, 1, 1, 0, 1, 0, 0, 1, 0, 0, 1, 1, 1, 1, 1, 0, 1]), .code (cd6 [1, 1, 1, 0, 1, 0, 0, 1, 0, 0, 1, 1, 1, 1, 1, 1]), .inBlock 1, .code (cd6 [1, 1, 1, 0, 1, 0, 0, 1, 1]), .inLoop (cd6 [1, 1, 1, 0, 1, 0, 0]), .inBlock 0, .code (cd6 [1, 1, 1, 1])]) (us := [(66, .bool false), (67, .slice Q94 t92.length Q95), (68, .slice Q148 t146.length Q149)]) (by kernel_rfl) ?_
              obtain ⟨t173, hr174, hp175⟩ := bind_some' hp172
              have hS176 := hS159.pick4
              obtain ⟨Z177, hz178, hS179, hs180, hb181⟩ := hS176.lendrow len_api_Final (by omega)
              obtain ⟨Z182, hz183, hS184, hs185, hb186⟩ := hS179.lendrow len_api_Final (by omega)
              refine r_call1 (c := (cd6 [1, 1, 1, 0, 1, 0, 0, 1, 0, 0, 1, 1, 1, 1, 1, 0, 0])) (i := 7) (d := (some 69)) (g := 25) (args := #[.slice Q94 t92.length Q95, .slice Q148 t146.length Q149]) (by kernel_rfl) (by kernel_rfl) (by kernel_rfl) (by kernel_rfl) (weirlaw10_Same.ok t92 t146 Q94 Q95 Q148 Q149 hS184 (hs180.up hz183) hs185 hr174) ?_
              rintro _ w187 ⟨rfl, hS188⟩
              refine ⟨.bool t173, rfl, ?_⟩
              have hS189 := hb186 _ _ hS188
              have hS190 := hb181 _ _ hS189
              refine sx_split 1 (todo' := [.inRegion (opsOf (cd6 [1, 1, 1, 0, 1, 0, 0, 1, 0, 0, 1, 1, 1, 1, 1, 0, 0])) [9, 10, 11, 12, 13, 14, 15, 16, 17, 18, 19, 20, 21, 22, 23], .code (cd6 [1, 1, 1, 0, 1, 0, 0, 1, 0, 0, 1, 1, 1, 1, 1, 0, 1]), .code (cd6 [1, 1, 1, 0, 1, 0, 0, 1, 0, 0, 1, 1, 1, 1, 1, 1]), .inBlock 1, .code (cd6 [1, 1, 1, 0, 1, 0, 0, 1, 1]), .inLoop (cd6 [1, 1, 1, 0, 1, 0, 0]), .inBlock 0, .code (cd6 [1, 1, 1, 1])]) (us := []) (d := 70) (t := (!t173)) (by kernel_rfl) (fun h191 => ?_) (fun h192 => ?_)
              · skip
                have hp193 := ite_t hp175 h191
                refine sx_run 21 (todo' := [.code (cd6 [1, 1, 1, 0, 1, 0, 0, 1, 0, 0, 1, 1, 1, 1, 1, 0, 1, 0, 1]), .code (cd6 [1, 1, 1, 0, 1, 0, 0, 1, 0, 0, 1, 1, 1, 1, 1, 1]), .inBlock 1, .code (cd6 [1, 1, 1, 0, 1, 0, 0, 1, 1]), .inLoop (cd6 [1, 1, 1, 0, 1, 0, 0]), .inBlock 0, .code (cd6 [1, 1, 1, 1])]) (us := [(71, .bool true), (72, .bool true), (73, undef), (74, undef), (75, undef), (76, undef), (77, .bool true), (78, .bool true), (79, undef), (80, undef), (81, undef), (82, undef), (83, undef), (84, undef), (85, .bool true), (4, .bool false)]) (by kernel_rfl) ?_
                have hS194 := hS190.drop
                have hS195 := hS194.drop
                have hS196 := hS195.drop
                have hS197 := hS196.drop
                have hS198 := hS197.drop
                have hS199 := hS198.drop
                have hS200 := hS199.drop
                have hS201 := hS200.drop
                refine runs_ret (fn := Try.f6) (v := .bool false) Try.func6 (by kernel_rfl) ?_
                have hr202 := (hq45 _ (Option.some.inj hp193))
                cases hr202
                exact hR _ _ ⟨rfl, hS201⟩
              · skip
                have hp203 := ite_f hp175 h192
                refine sx_run 4 (todo' := [.inRegion (opsOf (cd6 [1, 1, 1, 0, 1, 0, 0, 1, 0, 0, 1, 1, 1, 1, 1, 0, 0])) [13, 14, 15, 16, 17, 18, 19, 20, 21, 22, 23], .code (cd6 [1, 1, 1, 0, 1, 0, 0, 1, 0, 0, 1, 1, 1, 1, 1, 0, 1]), .code (cd6 [1, 1, 1, 0, 1, 0, 0, 1, 0, 0, 1, 1, 1, 1, 1, 1]), .inBlock 1, .code (cd6 [1, 1, 1, 0, 1, 0, 0, 1, 1]), .inLoop (cd6 [1, 1, 1, 0, 1, 0, 0]), .inBlock 0, .code (cd6 [1, 1, 1, 1])]) (us := [(71, .bool false), (72, .bool false), (73, .slice Q124 t122.length Q125), (74, .slice Q148 t146.length Q149)]) (by kernel_rfl) ?_
                obtain ⟨t204, hr205, hp206⟩ := bind_some' hp203
                have hS207 := hS190.pick4
                obtain ⟨Z208, hz209, hS210, hs211, hb212⟩ := hS207.lendrow len_api_Final (by omega)
                have hS213 := hS210.pick1
                obtain ⟨Z214, hz215, hS216, hs217, hb218⟩ := hS213.lendrow len_api_Final (by omega)
                refine r_call1 (c := (cd6 [1, 1, 1, 0, 1, 0, 0, 1, 0, 0, 1, 1, 1, 1, 1, 0, 0])) (i := 13) (d := (some 75)) (g := 25) (args := #[.slice Q124 t122.length Q125, .slice Q148 t146.length Q149]) (by kernel_rfl) (by kernel_rfl) (by kernel_rfl) (by kernel_rfl) (weirlaw10_Same.ok t122 t146 Q124 Q125 Q148 Q149 hS216 (hs211.up hz215) hs217 hr205) ?_
                rintro _ w219 ⟨rfl, hS220⟩
                refine ⟨.bool t204, rfl, ?_⟩
                have hS221 := hb218 _ _ hS220
                have hS222 := hb212 _ _ hS221
                refine sx_split 1 (todo' := [.inRegion (opsOf (cd6 [1, 1, 1, 0, 1, 0, 0, 1, 0, 0, 1, 1, 1, 1, 1, 0, 0])) [15, 16, 17, 18, 19, 20, 21, 22, 23], .code (cd6 [1, 1, 1, 0, 1, 0, 0, 1, 0, 0, 1, 1, 1, 1, 1, 0, 1]), .code (cd6 [1, 1, 1, 0, 1, 0, 0, 1, 0, 0, 1, 1, 1, 1, 1, 1]), .inBlock 1, .code (cd6 [1, 1, 1, 0, 1, 0, 0, 1, 1]), .inLoop (cd6 [1, 1, 1, 0, 1, 0, 0]), .inBlock 0, .code (cd6 [1, 1, 1, 1])]) (us := []) (d := 76) (t := (!t204)) (by kernel_rfl) (fun h223 => ?_) (fun h224 => ?_)
                · skip
                  have hp225 := ite_t hp206 h223
                  refine sx_run 15 (todo' := [.code (cd6 [1, 1, 1, 0, 1, 0, 0, 1, 0, 0, 1, 1, 1, 1, 1, 0, 1, 0, 1]), .code (cd6 [1, 1, 1, 0, 1, 0, 0, 1, 0, 0, 1, 1, 1, 1, 1, 1]), .inBlock 1, .code (cd6 [1, 1, 1, 0, 1, 0, 0, 1, 1]), .inLoop (cd6 [1, 1, 1, 0, 1, 0, 0]), .inBlock 0, .code (cd6 [1, 1, 1, 1])]) (us := [(77, .bool true), (78, .bool true), (79, undef), (80, undef), (81, undef), (82, undef), (83, undef), (84, undef), (85, .bool true), (4, .bool false)]) (by kernel_rfl) ?_
                  have hS226 := hS222.drop
                  have hS227 := hS226.drop
                  have hS228 := hS227.drop
                  have hS229 := hS228.drop
                  have hS230 := hS229.drop
                  have hS231 := hS230.drop
                  have hS232 := hS231.drop
                  have hS233 := hS232.drop
                  refine runs_ret (fn := Try.f6) (v := .bool false) Try.func6 (by kernel_rfl) ?_
                  have hr234 := (hq45 _ (Option.some.inj hp225))
                  cases hr234
                  exact hR _ _ ⟨rfl, hS233⟩
                · skip
                  have hp235 := ite_f hp206 h224
                  refine sx_run 5 (todo' := [.inRegion (opsOf (cd6 [1, 1, 1, 0, 1, 0, 0, 1, 0, 0, 1, 1, 1, 1, 1, 0, 0])) [20, 21, 22, 23], .code (cd6 [1, 1, 1, 0, 1, 0, 0, 1, 0, 0, 1, 1, 1, 1, 1, 0, 1]), .code (cd6 [1, 1, 1, 0, 1, 0, 0, 1, 0, 0, 1, 1, 1, 1, 1, 1]), .inBlock 1, .code (cd6 [1, 1, 1, 0, 1, 0, 0, 1, 1]), .inLoop (cd6 [1, 1, 1, 0, 1, 0, 0]), .inBlock 0, .code (cd6 [1, 1, 1, 1])]) (us := [(77, .bool false), (78, .bool false), (79, .slice A79 ((([] : List Int) ++ a1) ++ ([(-7)] : List Int)).length c80), (80, .slice Aa1 a1.length ca1), (81, .int .i64 (a1.length : Int))]) (by kernel_rfl) ?_
                  obtain ⟨g236, hp237⟩ := ite_some hp235
                  obtain ⟨b238, p239, hA240, -⟩ := (hS222.row 4 rfl).at_ (len_encI .i64) (by omega) g236.1 g236.2
                  refine r_indexAddr (c := (cd6 [1, 1, 1, 0, 1, 0, 0, 1, 0, 0, 1, 1, 1, 1, 1, 0, 0])) (i := 20) (d := (some 82)) (ty := 0) (t := 48) (e := 3) (n := ((([] : List Int) ++ a1) ++ ([(-7)] : List Int)).length) (cp := c80) (sz := 1) (kk := .i64) (x := (.tmp 79)) (y := (.tmp 81)) (b := b238) (o' := p239) (j := (a1.length : Int)) (by kernel_rfl) (by kernel_rfl) (slv (by kernel_rfl) hA240) (by kernel_rfl) (by kernel_rfl) (by kernel_rfl) g236.1 g236.2 ?_
                  refine r_load (c := (cd6 [1, 1, 1, 0, 1, 0, 0, 1, 0, 0, 1, 1, 1, 1, 1, 0, 0])) (i := 21) (d := (some 83)) (ty := 3) (t := 3) (x := (.tmp 82)) (p := ⟨b238, p239 + (a1.length : Int).toNat * 1, none⟩) (v := .int .i64 (gt ((([] : List Int) ++ a1) ++ ([(-7)] : List Int)) (a1.length : Int))) (by kernel_rfl) (by kernel_rfl) (by kernel_rfl) (loads_at 0 ((hS222.row 4 rfl).at2 hA240 (len_encI .i64) (by omega) g236.1 g236.2) (by kernel_rfl) (by kernel_rfl)) ?_
                  refine sx_split 1 (todo' := [.inRegion (opsOf (cd6 [1, 1, 1, 0, 1, 0, 0, 1, 0, 0, 1, 1, 1, 1, 1, 0, 0])) [23], .code (cd6 [1, 1, 1, 0, 1, 0, 0, 1, 0, 0, 1, 1, 1, 1, 1, 0, 1]), .code (cd6 [1, 1, 1, 0, 1, 0, 0, 1, 0, 0, 1, 1, 1, 1, 1, 1]), .inBlock 1, .code (cd6 [1, 1, 1, 0, 1, 0, 0, 1, 1]), .inLoop (cd6 [1, 1, 1, 0, 1, 0, 0]), .inBlock 0, .code (cd6 [1, 1, 1, 1])]) (us := []) (d := 84) (t := ((gt ((([] : List Int) ++ a1) ++ ([(-7)] : List Int)) (a1.length : Int)) != (-7))) (by kernel_rfl) (fun h242 => ?_) (fun h243 => ?_)
                  · skip
                    have hp244 := ite_t hp237 h242
                    refine sx_run 7 (todo' := [.code (cd6 [1, 1, 1, 0, 1, 0, 0, 1, 0, 0, 1, 1, 1, 1, 1, 0, 1, 0, 1]), .code (cd6 [1, 1, 1, 0, 1, 0, 0, 1, 0, 0, 1, 1, 1, 1, 1, 1]), .inBlock 1, .code (cd6 [1, 1, 1, 0, 1, 0, 0, 1, 1]), .inLoop (cd6 [1, 1, 1, 0, 1, 0, 0]), .inBlock 0, .code (cd6 [1, 1, 1, 1])]) (us := [(85, .bool true), (4, .bool false)]) (by kernel_rfl) ?_
                    have hS245 := hS222.drop
                    have hS246 := hS245.drop
                    have hS247 := hS246.drop
                    have hS248 := hS247.drop
                    have hS249 := hS248.drop
                    have hS250 := hS249.drop
                    have hS251 := hS250.drop
                    have hS252 := hS251.drop
                    refine runs_ret (fn := Try.f6) (v := .bool false) Try.func6 (by kernel_rfl) ?_
                    have hr253 := (hq45 _ (Option.some.inj hp244))
                    cases hr253
                    exact hR _ _ ⟨rfl, hS252⟩
                  · skip
                    have hp254 := ite_f hp237 h243
                    refine sx_run 11 (todo' := [.code (cd6 [1, 1, 1, 0, 1, 0, 0, 1, 0, 0, 1, 1, 1, 1, 1, 1, 0, 1, 0, 0]), .inLoop (cd6 [1, 1, 1, 0, 1, 0, 0, 1, 0, 0, 1, 1, 1, 1, 1, 1, 0, 1, 0, 0]), .inBlock 2, .code (cd6 [1, 1, 1, 0, 1, 0, 0, 1, 0, 0, 1, 1, 1, 1, 1, 1, 1]), .inBlock 1, .code (cd6 [1, 1, 1, 0, 1, 0, 0, 1, 1]), .inLoop (cd6 [1, 1, 1, 0, 1, 0, 0]), .inBlock 0, .code (cd6 [1, 1, 1, 1])]) (us := [(85, .bool false), (15, .int .i64 0)]) (by kernel_rfl) ?_
                    have hS255 := hS222.pick5
                    have hS256 := hS255.drop
                    obtain ⟨v257, hv258, hp259⟩ := bind_some' hp254
                    have hq262 : ∀ x, Sum.inr x = v257 → x = e39 := by intro x hx; subst hx; simpa using hp259
                    have J263 : ∀ (he265 : Sum.inl () = v257) (l264 : List Value) (w260 : World) (hS261 : St w0 Z (xblk b19 49 ([.slice Aa0 a0.length ca0, .slice Q12 t11.length Q13]) :: xrow Q12 Q13 24 49 (t11.flatMap enc_api_Final) :: xrow Q54 Q55 24 49 (t52.flatMap enc_api_Final) :: xrow Q94 Q95 24 49 (t92.flatMap enc_api_Final) :: xrow Q124 Q125 24 49 (t122.flatMap enc_api_Final) :: xrow Q148 Q149 24 49 (t146.flatMap enc_api_Final) :: fs) w260), Runs Try.prog 6 [.code (cd6 [1, 1, 1, 0, 1, 0, 0, 1, 0, 0, 1, 1, 1, 1, 1, 1, 1]), .inBlock 1, .code (cd6 [1, 1, 1, 0, 1, 0, 0, 1, 1]), .inLoop (cd6 [1, 1, 1, 0, 1, 0, 0]), .inBlock 0, .code (cd6 [1, 1, 1, 1])] (fill [none, some (.slice Aa1 a1.length ca1), none, none, none, some (.pointer (some ⟨b19, 0, none⟩)), some (.int .i64 t35), some (.slice Q54 t53 Q55), none, some (.slice Q94 t92.length Q95), none, some (.slice Q124 t122.length Q125), none, some (.slice Q148 t146.length Q149), none, none, none, none, none, none, none, none, none, none, none, none, none, none, none, none, none, none, none, none, none, none, none, none, none, none, none, none, none, none, none, none, none, none, none, none, none, none, none, none, none, none, none, none, none, none, none, none, none, none, none, none, none, none, none, none, none, none, none, none, none, none, none, none, none, none, none, none, none, none, none, none, none, none, none, none, none, none, none, none, none, none, none, none, none, none, none, none, none, none, none, none, none, none, none, none, none, none, none, none, none] l264) w260 R := by
                      intro he265 l264 w260 hS261
                      subst he265
                      try dsimp only at hp259
                      refine sx_run 3 (todo' := [.inRegion (opsOf (cd6 [1, 1, 1, 0, 1, 0, 0, 1, 0, 0, 1, 1, 1, 1, 1, 1, 1, 0])) [1], .code (cd6 [1, 1, 1, 0, 1, 0, 0, 1, 0, 0, 1, 1, 1, 1, 1, 1, 1, 1]), .inBlock 1, .code (cd6 [1, 1, 1, 0, 1, 0, 0, 1, 1]), .inLoop (cd6 [1, 1, 1, 0, 1, 0, 0]), .inBlock 0, .code (cd6 [1, 1, 1, 1])]) (us := [(101, .slice Q94 t92.length Q95)]) (by kernel_rfl) ?_
                      obtain ⟨_, hr266, hp267⟩ := bind_some' hp259
                      have hS268 := hS261.pick3
                      refine r_call1 (c := (cd6 [1, 1, 1, 0, 1, 0, 0, 1, 0, 0, 1, 1, 1, 1, 1, 1, 1, 0])) (i := 1) (d := (some 102)) (g := 27) (args := #[.slice Q94 t92.length Q95]) (by kernel_rfl) (by kernel_rfl) (by kernel_rfl) (by kernel_rfl) (weirlaw10_Spoil.ok t92 Q94 Q95 hS268 hr266) ?_
                      rintro _ w269 ⟨rfl, hS270⟩
                      refine ⟨.tuple #[], rfl, ?_⟩
                      refine sx_run 5 (todo' := [.inRegion (opsOf (cd6 [1, 1, 1, 0, 1, 0, 0, 1, 0, 0, 1, 1, 1, 1, 1, 1, 1, 1, 0])) [2, 3, 4, 5, 6, 7, 8, 9, 10, 11], .code (cd6 [1, 1, 1, 0, 1, 0, 0, 1, 0, 0, 1, 1, 1, 1, 1, 1, 1, 1, 1]), .inBlock 1, .code (cd6 [1, 1, 1, 0, 1, 0, 0, 1, 1]), .inLoop (cd6 [1, 1, 1, 0, 1, 0, 0]), .inBlock 0, .code (cd6 [1, 1, 1, 1])]) (us := [(103, .slice Q124 t122.length Q125), (104, .slice Q148 t146.length Q149)]) (by kernel_rfl) ?_
                      obtain ⟨t271, hr272, hp273⟩ := bind_some' hp267
                      have hS274 := hS270.pick3
                      obtain ⟨Z275, hz276, hS277, hs278, hb279⟩ := hS274.lendrow len_api_Final (by omega)
                      have hS280 := hS277.pick3
                      obtain ⟨Z281, hz282, hS283, hs284, hb285⟩ := hS280.lendrow len_api_Final (by omega)
                      refine r_call1 (c := (cd6 [1, 1, 1, 0, 1, 0, 0, 1, 0, 0, 1, 1, 1, 1, 1, 1, 1, 1, 0])) (i := 2) (d := (some 105)) (g := 25) (args := #[.slice Q124 t122.length Q125, .slice Q148 t146.length Q149]) (by kernel_rfl) (by kernel_rfl) (by kernel_rfl) (by kernel_rfl) (weirlaw10_Same.ok t122 t146 Q124 Q125 Q148 Q149 hS283 (hs278.up hz282) hs284 hr272) ?_
                      rintro _ w286 ⟨rfl, hS287⟩
                      refine ⟨.bool t271, rfl, ?_⟩
                      have hS288 := hb285 _ _ hS287
                      have hS289 := hb279 _ _ hS288
                      refine sx_split 1 (todo' := [.inRegion (opsOf (cd6 [1, 1, 1, 0, 1, 0, 0, 1, 0, 0, 1, 1, 1, 1, 1, 1, 1, 1, 0])) [4, 5, 6, 7, 8, 9, 10, 11], .code (cd6 [1, 1, 1, 0, 1, 0, 0, 1, 0, 0, 1, 1, 1, 1, 1, 1, 1, 1, 1]), .inBlock 1, .code (cd6 [1, 1, 1, 0, 1, 0, 0, 1, 1]), .inLoop (cd6 [1, 1, 1, 0, 1, 0, 0]), .inBlock 0, .code (cd6 [1, 1, 1, 1])]) (us := []) (d := 106) (t := (!t271)) (by kernel_rfl) (fun h290 => ?_) (fun h291 => ?_)
                      · skip
                        have hp292 := ite_t hp273 h290
                        refine sx_run 14 (todo' := [.code (cd6 [1, 1, 1, 0, 1, 0, 0, 1, 0, 0, 1, 1, 1, 1, 1, 1, 1, 1, 1, 0, 1]), .inBlock 1, .code (cd6 [1, 1, 1, 0, 1, 0, 0, 1, 1]), .inLoop (cd6 [1, 1, 1, 0, 1, 0, 0]), .inBlock 0, .code (cd6 [1, 1, 1, 1])]) (us := [(107, .bool true), (108, undef), (109, undef), (110, undef), (111, undef), (112, undef), (113, undef), (114, .bool true), (4, .bool false)]) (by kernel_rfl) ?_
                        have hS293 := hS289.drop
                        have hS294 := hS293.drop
                        have hS295 := hS294.drop
                        have hS296 := hS295.drop
                        have hS297 := hS296.drop
                        refine runs_ret (fn := Try.f6) (v := .bool false) Try.func6 (by kernel_rfl) ?_
                        have hr298 := (hq45 _ (Option.some.inj hp292))
                        cases hr298
                        exact hR _ _ ⟨rfl, hS297⟩
                      · skip
                        have hp299 := ite_f hp273 h291
                        refine sx_run 3 (todo' := [.inRegion (opsOf (cd6 [1, 1, 1, 0, 1, 0, 0, 1, 0, 0, 1, 1, 1, 1, 1, 1, 1, 1, 0])) [7, 8, 9, 10, 11], .code (cd6 [1, 1, 1, 0, 1, 0, 0, 1, 0, 0, 1, 1, 1, 1, 1, 1, 1, 1, 1]), .inBlock 1, .code (cd6 [1, 1, 1, 0, 1, 0, 0, 1, 1]), .inLoop (cd6 [1, 1, 1, 0, 1, 0, 0]), .inBlock 0, .code (cd6 [1, 1, 1, 1])]) (us := [(107, .bool false), (108, .slice Q54 t53 Q55), (109, .int .i64 t35)]) (by kernel_rfl) ?_
                        rcases Bool.eq_false_or_eq_true (t35 == 0) with h300 | h300
                        · skip
                          have hp301 := ite_t hp299 h300
                          have he302 : t35 = ((0 : Nat) : Int) := by simpa using h300
                          refine r_indexArrL (c := (cd6 [1, 1, 1, 0, 1, 0, 0, 1, 0, 0, 1, 1, 1, 1, 1, 1, 1, 1, 0])) (i := 7) (d := (some 110)) (ty := 0) (t := 49) (e := 36) (sz := 1) (kk := .i64) (x := (.tmp 5)) (y := (.tmp 109)) (b := b19) (o' := 0) (n := 2) (j := t35) (m := 0) (by kernel_rfl) (by kernel_rfl) (by kernel_rfl) (by kernel_rfl) (by kernel_rfl) (by kernel_rfl) he302 (by decide) ?_
                          refine r_load (c := (cd6 [1, 1, 1, 0, 1, 0, 0, 1, 0, 0, 1, 1, 1, 1, 1, 1, 1, 1, 0])) (i := 8) (d := (some 111)) (ty := 36) (t := 36) (x := (.tmp 110)) (p := ⟨b19, 0, none⟩) (v := .slice Aa0 a0.length ca0) (by kernel_rfl) (by kernel_rfl) (by kernel_rfl) (loads_at 0 (hS289.blk 2 rfl) (by kernel_rfl) (by kernel_rfl)) ?_
                          obtain ⟨t303, hr304, hp305⟩ := bind_some' hp301
                          have hS306 := hS289.pick4
                          refine r_call1 (c := (cd6 [1, 1, 1, 0, 1, 0, 0, 1, 0, 0, 1, 1, 1, 1, 1, 1, 1, 1, 0])) (i := 9) (d := (some 112)) (g := 26) (args := #[.slice Q54 t53 Q55, .slice Aa0 a0.length ca0]) (by kernel_rfl) (by kernel_rfl) (by kernel_rfl) (by kernel_rfl) (weirlaw10_Back.ok t52 t53 a0 Q54 Q55 Aa0 ca0 hS306 ha0 hr304) ?_
                          rintro _ w307 ⟨rfl, hS308⟩
                          refine ⟨.bool t303, rfl, ?_⟩
                          refine sx_split 1 (todo' := [.inRegion (opsOf (cd6 [1, 1, 1, 0, 1, 0, 0, 1, 0, 0, 1, 1, 1, 1, 1, 1, 1, 1, 0])) [11], .code (cd6 [1, 1, 1, 0, 1, 0, 0, 1, 0, 0, 1, 1, 1, 1, 1, 1, 1, 1, 1]), .inBlock 1, .code (cd6 [1, 1, 1, 0, 1, 0, 0, 1, 1]), .inLoop (cd6 [1, 1, 1, 0, 1, 0, 0]), .inBlock 0, .code (cd6 [1, 1, 1, 1])]) (us := []) (d := 113) (t := (!t303)) (by kernel_rfl) (fun h309 => ?_) (fun h310 => ?_)
                          · skip
                            have hp311 := ite_t hp305 h309
                            refine sx_run 7 (todo' := [.code (cd6 [1, 1, 1, 0, 1, 0, 0, 1, 0, 0, 1, 1, 1, 1, 1, 1, 1, 1, 1, 0, 1]), .inBlock 1, .code (cd6 [1, 1, 1, 0, 1, 0, 0, 1, 1]), .inLoop (cd6 [1, 1, 1, 0, 1, 0, 0]), .inBlock 0, .code (cd6 [1, 1, 1, 1])]) (us := [(114, .bool true), (4, .bool false)]) (by kernel_rfl) ?_
                            have hS312 := hS308.drop
                            have hS313 := hS312.drop
                            have hS314 := hS313.drop
                            have hS315 := hS314.drop
                            have hS316 := hS315.drop
                            refine runs_ret (fn := Try.f6) (v := .bool false) Try.func6 (by kernel_rfl) ?_
                            have hr317 := (hq45 _ (Option.some.inj hp311))
                            cases hr317
                            exact hR _ _ ⟨rfl, hS316⟩
                          · skip
                            have hp318 := ite_f hp305 h310
                            refine sx_run 10 (todo' := [.inLoop (cd6 [1, 1, 1, 0, 1, 0, 0]), .inBlock 0, .code (cd6 [1, 1, 1, 1])]) (us := [(114, .bool false), (25, .int .i64 t35), (26, .int .i64 (IntKind.i64.wrap (t35 + 1))), (6, .int .i64 (IntKind.i64.wrap (t35 + 1)))]) (by kernel_rfl) ?_
                            have hS319 := hS308.drop
                            have hS320 := hS319.drop
                            have hS321 := hS320.drop
                            refine sx_run 1 (todo' := [.code (cd6 [1, 1, 1, 0, 1, 0, 0]), .inLoop (cd6 [1, 1, 1, 0, 1, 0, 0]), .inBlock 0, .code (cd6 [1, 1, 1, 1])]) (us := []) (by kernel_rfl) ?_
                            refine Runs.fill (m := [none, some (.slice Aa1 a1.length ca1), none, none, none, some (.pointer (some ⟨b19, 0, none⟩)), some (.int .i64 (IntKind.i64.wrap (t35 + 1))), none, none, none, none, none, none, none, none, none, none, none, none, none, none, none, none, none, none, none, none, none, none, none, none, none, none, none, none, none, none, none, none, none, none, none, none, none, none, none, none, none, none, none, none, none, none, none, none, none, none, none, none, none, none, none, none, none, none, none, none, none, none, none, none, none, none, none, none, none, none, none, none, none, none, none, none, none, none, none, none, none, none, none, none, none, none, none, none, none, none, none, none, none, none, none, none, none, none, none, none, none, none, none, none, none, none, none, none]) (by kernel_rfl) ?_
                            exact ih42 (IntKind.i64.wrap (t35 + 1)) _ hp318 he40 _ _ hS321
                        · skip
                          have hp322 := ite_f hp299 h300
                          rcases Bool.eq_false_or_eq_true (t35 == 1) with h323 | h323
                          · skip
                            have hp324 := ite_t hp322 h323
                            have he325 : t35 = ((1 : Nat) : Int) := by simpa using h323
                            refine r_indexArrL (c := (cd6 [1, 1, 1, 0, 1, 0, 0, 1, 0, 0, 1, 1, 1, 1, 1, 1, 1, 1, 0])) (i := 7) (d := (some 110)) (ty := 0) (t := 49) (e := 36) (sz := 1) (kk := .i64) (x := (.tmp 5)) (y := (.tmp 109)) (b := b19) (o' := 0) (n := 2) (j := t35) (m := 1) (by kernel_rfl) (by kernel_rfl) (by kernel_rfl) (by kernel_rfl) (by kernel_rfl) (by kernel_rfl) he325 (by decide) ?_
                            refine r_load (c := (cd6 [1, 1, 1, 0, 1, 0, 0, 1, 0, 0, 1, 1, 1, 1, 1, 1, 1, 1, 0])) (i := 8) (d := (some 111)) (ty := 36) (t := 36) (x := (.tmp 110)) (p := ⟨b19, 1, none⟩) (v := .slice Q12 t11.length Q13) (by kernel_rfl) (by kernel_rfl) (by kernel_rfl) (loads_at 1 (hS289.blk 2 rfl) (by kernel_rfl) (by kernel_rfl)) ?_
                            obtain ⟨t326, hr327, hp328⟩ := bind_some' hp324
                            have hS329 := hS289.pick3
                            obtain ⟨Z330, hz331, hS332, hs333, hb334⟩ := hS329.lendrow len_api_Final (by omega)
                            have hS335 := hS332.pick3
                            refine r_call1 (c := (cd6 [1, 1, 1, 0, 1, 0, 0, 1, 0, 0, 1, 1, 1, 1, 1, 1, 1, 1, 0])) (i := 9) (d := (some 112)) (g := 26) (args := #[.slice Q54 t53 Q55, .slice Q12 t11.length Q13]) (by kernel_rfl) (by kernel_rfl) (by kernel_rfl) (by kernel_rfl) (weirlaw10_Back.ok t52 t53 t11 Q54 Q55 Q12 Q13 hS335 hs333 hr327) ?_
                            rintro _ w336 ⟨rfl, hS337⟩
                            refine ⟨.bool t326, rfl, ?_⟩
                            have hS338 := hb334 _ _ hS337
                            refine sx_split 1 (todo' := [.inRegion (opsOf (cd6 [1, 1, 1, 0, 1, 0, 0, 1, 0, 0, 1, 1, 1, 1, 1, 1, 1, 1, 0])) [11], .code (cd6 [1, 1, 1, 0, 1, 0, 0, 1, 0, 0, 1, 1, 1, 1, 1, 1, 1, 1, 1]), .inBlock 1, .code (cd6 [1, 1, 1, 0, 1, 0, 0, 1, 1]), .inLoop (cd6 [1, 1, 1, 0, 1, 0, 0]), .inBlock 0, .code (cd6 [1, 1, 1, 1])]) (us := []) (d := 113) (t := (!t326)) (by kernel_rfl) (fun h339 => ?_) (fun h340 => ?_)
                            · skip
                              have hp341 := ite_t hp328 h339
                              refine sx_run 7 (todo' := [.code (cd6 [1, 1, 1, 0, 1, 0, 0, 1, 0, 0, 1, 1, 1, 1, 1, 1, 1, 1, 1, 0, 1]), .inBlock 1, .code (cd6 [1, 1, 1, 0, 1, 0, 0, 1, 1]), .inLoop (cd6 [1, 1, 1, 0, 1, 0, 0]), .inBlock 0, .code (cd6 [1, 1, 1, 1])]) (us := [(114, .bool true), (4, .bool false)]) (by kernel_rfl) ?_
                              have hS342 := hS338.drop
                              have hS343 := hS342.drop
                              have hS344 := hS343.drop
                              have hS345 := hS344.drop
                              have hS346 := hS345.drop
                              refine runs_ret (fn := Try.f6) (v := .bool false) Try.func6 (by kernel_rfl) ?_
                              have hr347 := (hq45 _ (Option.some.inj hp341))
                              cases hr347
                              exact hR _ _ ⟨rfl, hS346⟩
                            · skip
                              have hp348 := ite_f hp328 h340
                              refine sx_run 10 (todo' := [.inLoop (cd6 [1, 1, 1, 0, 1, 0, 0]), .inBlock 0, .code (cd6 [1, 1, 1, 1])]) (us := [(114, .bool false), (25, .int .i64 t35), (26, .int .i64 (IntKind.i64.wrap (t35 + 1))), (6, .int .i64 (IntKind.i64.wrap (t35 + 1)))]) (by kernel_rfl) ?_
                              have hS349 := hS338.pick1
                              have hS350 := hS349.drop
                              have hS351 := hS350.pick1
                              have hS352 := hS351.drop
                              have hS353 := hS352.pick1
                              have hS354 := hS353.drop
                              have hS355 := hS354.pick1
                              refine sx_run 1 (todo' := [.code (cd6 [1, 1, 1, 0, 1, 0, 0]), .inLoop (cd6 [1, 1, 1, 0, 1, 0, 0]), .inBlock 0, .code (cd6 [1, 1, 1, 1])]) (us := []) (by kernel_rfl) ?_
                              refine Runs.fill (m := [none, some (.slice Aa1 a1.length ca1), none, none, none, some (.pointer (some ⟨b19, 0, none⟩)), some (.int .i64 (IntKind.i64.wrap (t35 + 1))), none, none, none, none, none, none, none, none, none, none, none, none, none, none, none, none, none, none, none, none, none, none, none, none, none, none, none, none, none, none, none, none, none, none, none, none, none, none, none, none, none, none, none, none, none, none, none, none, none, none, none, none, none, none, none, none, none, none, none, none, none, none, none, none, none, none, none, none, none, none, none, none, none, none, none, none, none, none, none, none, none, none, none, none, none, none, none, none, none, none, none, none, none, none, none, none, none, none, none, none, none, none, none, none, none, none, none, none]) (by kernel_rfl) ?_
                              exact ih42 (IntKind.i64.wrap (t35 + 1)) _ hp348 he40 _ _ hS355
                          · skip
                            have hp356 := ite_f hp322 h323
                            cases hp356
                    have L366 : ∀ (t357 : Int) (e361 : Sum Unit (Sum Unit Bool)), weirlaw10_StateProjects.l1 a1 t357 = some e361 → e361 = v257 → ∀ (l360 : List Value) (w358 : World) (hS359 : St w0 Z (xblk b19 49 ([.slice Aa0 a0.length ca0, .slice Q12 t11.length Q13]) :: xrow Q12 Q13 24 49 (t11.flatMap enc_api_Final) :: xrow Q54 Q55 24 49 (t52.flatMap enc_api_Final) :: xrow A79 c80 3 1 (((([] : List Int) ++ a1) ++ ([(-7)] : List Int)).flatMap (encI .i64)) :: xrow Q94 Q95 24 49 (t92.flatMap enc_api_Final) :: xrow Q124 Q125 24 49 (t122.flatMap enc_api_Final) :: xrow Q148 Q149 24 49 (t146.flatMap enc_api_Final) :: fs) w358), Runs Try.prog 6 [.code (cd6 [1, 1, 1, 0, 1, 0, 0, 1, 0, 0, 1, 1, 1, 1, 1, 1, 0, 1, 0, 0]), .inLoop (cd6 [1, 1, 1, 0, 1, 0, 0, 1, 0, 0, 1, 1, 1, 1, 1, 1, 0, 1, 0, 0]), .inBlock 2, .code (cd6 [1, 1, 1, 0, 1, 0, 0, 1, 0, 0, 1, 1, 1, 1, 1, 1, 1]), .inBlock 1, .code (cd6 [1, 1, 1, 0, 1, 0, 0, 1, 1]), .inLoop (cd6 [1, 1, 1, 0, 1, 0, 0]), .inBlock 0, .code (cd6 [1, 1, 1, 1])] (fill [none, some (.slice Aa1 a1.length ca1), none, none, none, some (.pointer (some ⟨b19, 0, none⟩)), some (.int .i64 t35), some (.slice Q54 t53 Q55), some (.slice A79 ((([] : List Int) ++ a1) ++ ([(-7)] : List Int)).length c80), some (.slice Q94 t92.length Q95), none, some (.slice Q124 t122.length Q125), none, some (.slice Q148 t146.length Q149), none, some (.int .i64 t357), none, none, none, none, none, none, none, none, none, none, none, none, none, none, none, none, none, none, none, none, none, none, none, none, none, none, none, none, none, none, none, none, none, none, none, none, none, none, none, none, none, none, none, none, none, none, none, none, none, none, none, none, none, none, none, none, none, none, none, none, none, none, none, none, none, none, none, none, none, none, none, none, none, none, none, none, none, none, none, none, none, none, none, none, none, none, none, none, none, none, none, none, none, none, none, none, none, none, none] l360) w358 R := by
                      refine weirlaw10_StateProjects.l1.partial_correctness a1 (fun t357 e361 => e361 = v257 → ∀ (l360 : List Value) (w358 : World) (hS359 : St w0 Z (xblk b19 49 ([.slice Aa0 a0.length ca0, .slice Q12 t11.length Q13]) :: xrow Q12 Q13 24 49 (t11.flatMap enc_api_Final) :: xrow Q54 Q55 24 49 (t52.flatMap enc_api_Final) :: xrow A79 c80 3 1 (((([] : List Int) ++ a1) ++ ([(-7)] : List Int)).flatMap (encI .i64)) :: xrow Q94 Q95 24 49 (t92.flatMap enc_api_Final) :: xrow Q124 Q125 24 49 (t122.flatMap enc_api_Final) :: xrow Q148 Q149 24 49 (t146.flatMap enc_api_Final) :: fs) w358), Runs Try.prog 6 [.code (cd6 [1, 1, 1, 0, 1, 0, 0, 1, 0, 0, 1, 1, 1, 1, 1, 1, 0, 1, 0, 0]), .inLoop (cd6 [1, 1, 1, 0, 1, 0, 0, 1, 0, 0, 1, 1, 1, 1, 1, 1, 0, 1, 0, 0]), .inBlock 2, .code (cd6 [1, 1, 1, 0, 1, 0, 0, 1, 0, 0, 1, 1, 1, 1, 1, 1, 1]), .inBlock 1, .code (cd6 [1, 1, 1, 0, 1, 0, 0, 1, 1]), .inLoop (cd6 [1, 1, 1, 0, 1, 0, 0]), .inBlock 0, .code (cd6 [1, 1, 1, 1])] (fill [none, some (.slice Aa1 a1.length ca1), none, none, none, some (.pointer (some ⟨b19, 0, none⟩)), some (.int .i64 t35), some (.slice Q54 t53 Q55), some (.slice A79 ((([] : List Int) ++ a1) ++ ([(-7)] : List Int)).length c80), some (.slice Q94 t92.length Q95), none, some (.slice Q124 t122.length Q125), none, some (.slice Q148 t146.length Q149), none, some (.int .i64 t357), none, none, none, none, none, none, none, none, none, none, none, none, none, none, none, none, none, none, none, none, none, none, none, none, none, none, none, none, none, none, none, none, none, none, none, none, none, none, none, none, none, none, none, none, none, none, none, none, none, none, none, none, none, none, none, none, none, none, none, none, none, none, none, none, none, none, none, none, none, none, none, none, none, none, none, none, none, none, none, none, none, none, none, none, none, none, none, none, none, none, none, none, none, none, none, none, none, none, none] l360) w358 R) ?_
                      intro rec365 ih364 t357 e361 hb363 he362 l360 w358 hS359
                      have hq367 : ∀ x, Sum.inr x = e361 → x = e39 := fun x hx => hq262 x (hx.trans he362)
                      refine sx_split 7 (todo' := [.inRegion (opsOf (cd6 [1, 1, 1, 0, 1, 0, 0, 1, 0, 0, 1, 1, 1, 1, 1, 1, 0, 1, 0, 0, 0, 0])) [], .code (cd6 [1, 1, 1, 0, 1, 0, 0, 1, 0, 0, 1, 1, 1, 1, 1, 1, 0, 1, 0, 0, 0, 1]), .code (cd6 [1, 1, 1, 0, 1, 0, 0, 1, 0, 0, 1, 1, 1, 1, 1, 1, 0, 1, 0, 0, 1]), .inLoop (cd6 [1, 1, 1, 0, 1, 0, 0, 1, 0, 0, 1, 1, 1, 1, 1, 1, 0, 1, 0, 0]), .inBlock 2, .code (cd6 [1, 1, 1, 0, 1, 0, 0, 1, 0, 0, 1, 1, 1, 1, 1, 1, 1]), .inBlock 1, .code (cd6 [1, 1, 1, 0, 1, 0, 0, 1, 1]), .inLoop (cd6 [1, 1, 1, 0, 1, 0, 0]), .inBlock 0, .code (cd6 [1, 1, 1, 1])]) (us := [(86, .int .i64 t357), (87, .slice Aa1 a1.length ca1), (88, .int .i64 (a1.length : Int))]) (d := 89) (t := (decide (t357 < (a1.length : Int)))) (by kernel_rfl) (fun h368 => ?_) (fun h369 => ?_)
                      · skip
                        have hp370 := ite_t hb363 h368
                        refine sx_run 6 (todo' := [.code (cd6 [1, 1, 1, 0, 1, 0, 0, 1, 0, 0, 1, 1, 1, 1, 1, 1, 0, 1, 0, 0, 1, 0, 0, 0]), .code (cd6 [1, 1, 1, 0, 1, 0, 0, 1, 0, 0, 1, 1, 1, 1, 1, 1, 0, 1, 0, 0, 1, 0, 0, 1]), .inBlock 3, .code (cd6 [1, 1, 1, 0, 1, 0, 0, 1, 0, 0, 1, 1, 1, 1, 1, 1, 0, 1, 0, 0, 1, 1]), .inLoop (cd6 [1, 1, 1, 0, 1, 0, 0, 1, 0, 0, 1, 1, 1, 1, 1, 1, 0, 1, 0, 0]), .inBlock 2, .code (cd6 [1, 1, 1, 0, 1, 0, 0, 1, 0, 0, 1, 1, 1, 1, 1, 1, 1]), .inBlock 1, .code (cd6 [1, 1, 1, 0, 1, 0, 0, 1, 1]), .inLoop (cd6 [1, 1, 1, 0, 1, 0, 0]), .inBlock 0, .code (cd6 [1, 1, 1, 1])]) (us := []) (by kernel_rfl) ?_
                        refine r_quiet hS359 (c := (cd6 [1, 1, 1, 0, 1, 0, 0, 1, 0, 0, 1, 1, 1, 1, 1, 1, 0, 1, 0, 0, 1, 0, 0, 0])) (id := 17) (by kernel_rfl) (by kernel_rfl) (by kernel_rfl) (is := [0, 1, 2, 3, 4, 5, 6, 7, 8]) (by kernel_rfl) ?_
                        refine q_run 2 (is' := [2, 3, 4, 5, 6, 7, 8]) (us := [(92, .slice A79 ((([] : List Int) ++ a1) ++ ([(-7)] : List Int)).length c80), (93, .int .i64 t357)]) (by kernel_rfl) ?_
                        obtain ⟨g371, hp372⟩ := ite_some hp370
                        obtain ⟨b373, p374, hA375, -⟩ := (hS359.row 3 rfl).at_ (len_encI .i64) (by omega) g371.1 g371.2
                        refine q_indexAddr (c := (cd6 [1, 1, 1, 0, 1, 0, 0, 1, 0, 0, 1, 1, 1, 1, 1, 1, 0, 1, 0, 0, 1, 0, 0, 0])) (i := 2) (d := (some 94)) (ty := 0) (t := 48) (e := 3) (n := ((([] : List Int) ++ a1) ++ ([(-7)] : List Int)).length) (cp := c80) (sz := 1) (kk := .i64) (x := (.tmp 92)) (y := (.tmp 93)) (b := b373) (o' := p374) (j := t357) (by kernel_rfl) (by kernel_rfl) (slv (by kernel_rfl) hA375) (by kernel_rfl) (by kernel_rfl) (by kernel_rfl) g371.1 g371.2 ?_
                        refine q_load (c := (cd6 [1, 1, 1, 0, 1, 0, 0, 1, 0, 0, 1, 1, 1, 1, 1, 1, 0, 1, 0, 0, 1, 0, 0, 0])) (i := 3) (d := (some 95)) (ty := 3) (t := 3) (x := (.tmp 94)) (p := ⟨b373, p374 + t357.toNat * 1, none⟩) (v := .int .i64 (gt ((([] : List Int) ++ a1) ++ ([(-7)] : List Int)) t357)) (by kernel_rfl) (by kernel_rfl) (by kernel_rfl) (fun w hC => (loads_at 0 ((hC.row 3 rfl).at2 hA375 (len_encI .i64) (by omega) g371.1 g371.2) (by kernel_rfl) (by kernel_rfl))) ?_
                        refine q_run 2 (is' := [6, 7, 8]) (us := [(96, .slice Aa1 a1.length ca1), (97, .int .i64 t357)]) (by kernel_rfl) ?_
                        obtain ⟨g377, hp378⟩ := ite_some hp372
                        obtain ⟨b379, p380, hA381, hc382⟩ := ha1.atF g377.1 g377.2
                        refine q_indexAddr (c := (cd6 [1, 1, 1, 0, 1, 0, 0, 1, 0, 0, 1, 1, 1, 1, 1, 1, 0, 1, 0, 0, 1, 0, 0, 0])) (i := 6) (d := (some 98)) (ty := 0) (t := 48) (e := 3) (n := a1.length) (cp := ca1) (sz := 1) (kk := .i64) (x := (.tmp 96)) (y := (.tmp 97)) (b := b379) (o' := p380) (j := t357) (by kernel_rfl) (by kernel_rfl) (slv (by kernel_rfl) hA381) (by kernel_rfl) (by kernel_rfl) (by kernel_rfl) g377.1 g377.2 ?_
                        refine q_load (c := (cd6 [1, 1, 1, 0, 1, 0, 0, 1, 0, 0, 1, 1, 1, 1, 1, 1, 0, 1, 0, 0, 1, 0, 0, 0])) (i := 7) (d := (some 99)) (ty := 3) (t := 3) (x := (.tmp 98)) (p := ⟨b379, p380 + t357.toNat * 1, none⟩) (v := .int .i64 (gt a1 t357)) (by kernel_rfl) (by kernel_rfl) (by kernel_rfl) (fun w hC => (loads_at 0 (hc382.cells hC) (by kernel_rfl) (by kernel_rfl))) ?_
                        refine q_splitr 1 (is' := []) (us := []) (d := 100) (t := ((gt ((([] : List Int) ++ a1) ++ ([(-7)] : List Int)) t357) != (gt a1 t357))) (by kernel_rfl) (fun h383 => ?_) (fun h384 => ?_)
                        · skip
                          have hp385 := ite_t hp378 h383
                          refine Qs.nil ?_
                          intro w386 hS387
                          refine sx_run 5 (todo' := [.code (cd6 [1, 1, 1, 0, 1, 0, 0, 1, 0, 0, 1, 1, 1, 1, 1, 1, 0, 1, 0, 0, 1, 0, 0, 1, 0, 1]), .inBlock 3, .code (cd6 [1, 1, 1, 0, 1, 0, 0, 1, 0, 0, 1, 1, 1, 1, 1, 1, 0, 1, 0, 0, 1, 1]), .inLoop (cd6 [1, 1, 1, 0, 1, 0, 0, 1, 0, 0, 1, 1, 1, 1, 1, 1, 0, 1, 0, 0]), .inBlock 2, .code (cd6 [1, 1, 1, 0, 1, 0, 0, 1, 0, 0, 1, 1, 1, 1, 1, 1, 1]), .inBlock 1, .code (cd6 [1, 1, 1, 0, 1, 0, 0, 1, 1]), .inLoop (cd6 [1, 1, 1, 0, 1, 0, 0]), .inBlock 0, .code (cd6 [1, 1, 1, 1])]) (us := [(4, .bool false)]) (by kernel_rfl) ?_
                          have hS388 := hS387.drop
                          have hS389 := hS388.drop
                          have hS390 := hS389.drop
                          have hS391 := hS390.drop
                          have hS392 := hS391.drop
                          have hS393 := hS392.drop
                          have hS394 := hS393.drop
                          refine runs_ret (fn := Try.f6) (v := .bool false) Try.func6 (by kernel_rfl) ?_
                          have hr395 := (hq45 _ (hq367 _ (Option.some.inj hp385)))
                          cases hr395
                          exact hR _ _ ⟨rfl, hS394⟩
                        · skip
                          have hp396 := ite_f hp378 h384
                          refine Qs.nil ?_
                          intro w397 hS398
                          refine sx_run 8 (todo' := [.inLoop (cd6 [1, 1, 1, 0, 1, 0, 0, 1, 0, 0, 1, 1, 1, 1, 1, 1, 0, 1, 0, 0]), .inBlock 2, .code (cd6 [1, 1, 1, 0, 1, 0, 0, 1, 0, 0, 1, 1, 1, 1, 1, 1, 1]), .inBlock 1, .code (cd6 [1, 1, 1, 0, 1, 0, 0, 1, 1]), .inLoop (cd6 [1, 1, 1, 0, 1, 0, 0]), .inBlock 0, .code (cd6 [1, 1, 1, 1])]) (us := [(90, .int .i64 t357), (91, .int .i64 (IntKind.i64.wrap (t357 + 1))), (15, .int .i64 (IntKind.i64.wrap (t357 + 1)))]) (by kernel_rfl) ?_
                          refine sx_run 1 (todo' := [.code (cd6 [1, 1, 1, 0, 1, 0, 0, 1, 0, 0, 1, 1, 1, 1, 1, 1, 0, 1, 0, 0]), .inLoop (cd6 [1, 1, 1, 0, 1, 0, 0, 1, 0, 0, 1, 1, 1, 1, 1, 1, 0, 1, 0, 0]), .inBlock 2, .code (cd6 [1, 1, 1, 0, 1, 0, 0, 1, 0, 0, 1, 1, 1, 1, 1, 1, 1]), .inBlock 1, .code (cd6 [1, 1, 1, 0, 1, 0, 0, 1, 1]), .inLoop (cd6 [1, 1, 1, 0, 1, 0, 0]), .inBlock 0, .code (cd6 [1, 1, 1, 1])]) (us := []) (by kernel_rfl) ?_
                          refine Runs.fill (m := [none, some (.slice Aa1 a1.length ca1), none, none, none, some (.pointer (some ⟨b19, 0, none⟩)), some (.int .i64 t35), some (.slice Q54 t53 Q55), some (.slice A79 ((([] : List Int) ++ a1) ++ ([(-7)] : List Int)).length c80), some (.slice Q94 t92.length Q95), none, some (.slice Q124 t122.length Q125), none, some (.slice Q148 t146.length Q149), none, some (.int .i64 (IntKind.i64.wrap (t357 + 1))), none, none, none, none, none, none, none, none, none, none, none, none, none, none, none, none, none, none, none, none, none, none, none, none, none, none, none, none, none, none, none, none, none, none, none, none, none, none, none, none, none, none, none, none, none, none, none, none, none, none, none, none, none, none, none, none, none, none, none, none, none, none, none, none, none, none, none, none, none, none, none, none, none, none, none, none, none, none, none, none, none, none, none, none, none, none, none, none, none, none, none, none, none, none, none, none, none, none, none]) (by kernel_rfl) ?_
                          exact ih364 (IntKind.i64.wrap (t357 + 1)) _ hp396 he362 _ _ hS398
                      · skip
                        have hp399 := ite_f hb363 h369
                        refine sx_run 3 (todo' := [.code (cd6 [1, 1, 1, 0, 1, 0, 0, 1, 0, 0, 1, 1, 1, 1, 1, 1, 1]), .inBlock 1, .code (cd6 [1, 1, 1, 0, 1, 0, 0, 1, 1]), .inLoop (cd6 [1, 1, 1, 0, 1, 0, 0]), .inBlock 0, .code (cd6 [1, 1, 1, 1])]) (us := []) (by kernel_rfl) ?_
                        have hS400 := hS359.pick3
                        have hS401 := hS400.drop
                        refine Runs.fill (m := [none, some (.slice Aa1 a1.length ca1), none, none, none, some (.pointer (some ⟨b19, 0, none⟩)), some (.int .i64 t35), some (.slice Q54 t53 Q55), none, some (.slice Q94 t92.length Q95), none, some (.slice Q124 t122.length Q125), none, some (.slice Q148 t146.length Q149), none, none, none, none, none, none, none, none, none, none, none, none, none, none, none, none, none, none, none, none, none, none, none, none, none, none, none, none, none, none, none, none, none, none, none, none, none, none, none, none, none, none, none, none, none, none, none, none, none, none, none, none, none, none, none, none, none, none, none, none, none, none, none, none, none, none, none, none, none, none, none, none, none, none, none, none, none, none, none, none, none, none, none, none, none, none, none, none, none, none, none, none, none, none, none, none, none, none, none, none, none]) (by kernel_rfl) ?_
                        exact J263 ((Option.some.inj hp399).trans he362) _ _ hS401
                    have hS402 := hS256.pick1
                    have hS403 := hS402.pick1
                    have hS404 := hS403.pick2
                    have hS405 := hS404.pick4
                    have hS406 := hS405.pick4
                    have hS407 := hS406.pick6
                    have hS408 := hS407.pick6
                    refine Runs.fill (m := [none, some (.slice Aa1 a1.length ca1), none, none, none, some (.pointer (some ⟨b19, 0, none⟩)), some (.int .i64 t35), some (.slice Q54 t53 Q55), some (.slice A79 ((([] : List Int) ++ a1) ++ ([(-7)] : List Int)).length c80), some (.slice Q94 t92.length Q95), none, some (.slice Q124 t122.length Q125), none, some (.slice Q148 t146.length Q149), none, some (.int .i64 0), none, none, none, none, none, none, none, none, none, none, none, none, none, none, none, none, none, none, none, none, none, none, none, none, none, none, none, none, none, none, none, none, none, none, none, none, none, none, none, none, none, none, none, none, none, none, none, none, none, none, none, none, none, none, none, none, none, none, none, none, none, none, none, none, none, none, none, none, none, none, none, none, none, none, none, none, none, none, none, none, none, none, none, none, none, none, none, none, none, none, none, none, none, none, none, none, none, none, none]) (by kernel_rfl) ?_
                    exact L366 0 _ hv258 rfl _ _ hS408
          · skip
            have hp409 := ite_f hp127 h143
            rcases Bool.eq_false_or_eq_true (t35 == 1) with h410 | h410
            · skip
              have hp411 := ite_t hp409 h410
              have he412 : t35 = ((1 : Nat) : Int) := by simpa using h410
              refine r_indexArrL (c := (cd6 [1, 1, 1, 0, 1, 0, 0, 1, 0, 0, 1, 1, 1, 1, 0])) (i := 1) (d := (some 56)) (ty := 0) (t := 49) (e := 36) (sz := 1) (kk := .i64) (x := (.tmp 5)) (y := (.tmp 55)) (b := b19) (o' := 0) (n := 2) (j := t35) (m := 1) (by kernel_rfl) (by kernel_rfl) (by kernel_rfl) (by kernel_rfl) (by kernel_rfl) (by kernel_rfl) he412 (by decide) ?_
              refine r_load (c := (cd6 [1, 1, 1, 0, 1, 0, 0, 1, 0, 0, 1, 1, 1, 1, 0])) (i := 2) (d := (some 57)) (ty := 36) (t := 36) (x := (.tmp 56)) (p := ⟨b19, 1, none⟩) (v := .slice Q12 t11.length Q13) (by kernel_rfl) (by kernel_rfl) (by kernel_rfl) (loads_at 1 (hS142.blk 5 rfl) (by kernel_rfl) (by kernel_rfl)) ?_
              refine sx_run 1 (todo' := [.inRegion (opsOf (cd6 [1, 1, 1, 0, 1, 0, 0, 1, 0, 0, 1, 1, 1, 1, 0])) [4, 5, 6, 7, 8, 9], .code (cd6 [1, 1, 1, 0, 1, 0, 0, 1, 0, 0, 1, 1, 1, 1, 1]), .inBlock 1, .code (cd6 [1, 1, 1, 0, 1, 0, 0, 1, 1]), .inLoop (cd6 [1, 1, 1, 0, 1, 0, 0]), .inBlock 0, .code (cd6 [1, 1, 1, 1])]) (us := [(58, .slice Aa1 a1.length ca1)]) (by kernel_rfl) ?_
              obtain ⟨⟨t413, t414⟩, hr417, hp418⟩ := bind_some' hp411
              try dsimp only at hp418
              have hS420 := hS142.pick6
              obtain ⟨Z421, hz422, hS423, hs424, hb425⟩ := hS420.lendrow len_api_Final (by omega)
              refine r_call1 (c := (cd6 [1, 1, 1, 0, 1, 0, 0, 1, 0, 0, 1, 1, 1, 1, 0])) (i := 4) (d := (some 59)) (g := 29) (args := #[.slice Q12 t11.length Q13, .slice Aa1 a1.length ca1]) (by kernel_rfl) (by kernel_rfl) (by kernel_rfl) (by kernel_rfl) (weirref10_Project.ok t11 a1 Q12 Q13 Aa1 ca1 hS423 hs424 (ha1.up hz422) hr417) ?_
              rintro _ w426 ⟨Q415, Q416, rfl, hS427⟩
              refine ⟨.tuple #[.slice Q415 t413.length Q416, .int .i64 t414], rfl, ?_⟩
              have hS428 := hb425 _ _ hS427
              refine sx_run 10 (todo' := [.inRegion (opsOf (cd6 [1, 1, 1, 0, 1, 0, 0, 1, 0, 0, 1, 1, 1, 1, 1, 0, 0])) [1, 2, 3, 4, 5, 6, 7, 8, 9, 10, 11, 12, 13, 14, 15, 16, 17, 18, 19, 20, 21, 22, 23], .code (cd6 [1, 1, 1, 0, 1, 0, 0, 1, 0, 0, 1, 1, 1, 1, 1, 0, 1]), .code (cd6 [1, 1, 1, 0, 1, 0, 0, 1, 0, 0, 1, 1, 1, 1, 1, 1]), .inBlock 1, .code (cd6 [1, 1, 1, 0, 1, 0, 0, 1, 1]), .inLoop (cd6 [1, 1, 1, 0, 1, 0, 0]), .inBlock 0, .code (cd6 [1, 1, 1, 1])]) (us := [(54, .tuple #[.slice Q415 t413.length Q416, .int .i64 t414]), (60, .slice Q415 t413.length Q416), (61, .int .i64 t414), (13, .slice Q415 t413.length Q416), (14, .int .i64 t414), (62, .int .i64 t93)]) (by kernel_rfl) ?_
              obtain ⟨t429, hr430, hp431⟩ := bind_some' hp418
              refine r_call1 (c := (cd6 [1, 1, 1, 0, 1, 0, 0, 1, 0, 0, 1, 1, 1, 1, 1, 0, 0])) (i := 1) (d := (some 63)) (g := 11) (args := #[.int .i64 t93]) (by kernel_rfl) (by kernel_rfl) (by kernel_rfl) (by kernel_rfl) (weirlaw10_num.ok t93 hS428 hr430) ?_
              rintro _ w432 ⟨rfl, hS433⟩
              refine ⟨.int .i64 t429, rfl, ?_⟩
              refine sx_split 2 (todo' := [.inRegion (opsOf (cd6 [1, 1, 1, 0, 1, 0, 0, 1, 0, 0, 1, 1, 1, 1, 1, 0, 0])) [4, 5, 6, 7, 8, 9, 10, 11, 12, 13, 14, 15, 16, 17, 18, 19, 20, 21, 22, 23], .code (cd6 [1, 1, 1, 0, 1, 0, 0, 1, 0, 0, 1, 1, 1, 1, 1, 0, 1]), .code (cd6 [1, 1, 1, 0, 1, 0, 0, 1, 0, 0, 1, 1, 1, 1, 1, 1]), .inBlock 1, .code (cd6 [1, 1, 1, 0, 1, 0, 0, 1, 1]), .inLoop (cd6 [1, 1, 1, 0, 1, 0, 0]), .inBlock 0, .code (cd6 [1, 1, 1, 1])]) (us := [(64, .int .i64 t414)]) (d := 65) (t := (t429 != t414)) (by kernel_rfl) (fun h434 => ?_) (fun h435 => ?_)
              · skip
                have hp436 := ite_t hp431 h434
                refine sx_run 26 (todo' := [.code (cd6 [1, 1, 1, 0, 1, 0, 0, 1, 0, 0, 1, 1, 1, 1, 1, 0, 1, 0, 1]), .code (cd6 [1, 1, 1, 0, 1, 0, 0, 1, 0, 0, 1, 1, 1, 1, 1, 1]), .inBlock 1, .code (cd6 [1, 1, 1, 0, 1, 0, 0, 1, 1]), .inLoop (cd6 [1, 1, 1, 0, 1, 0, 0]), .inBlock 0, .code (cd6 [1, 1, 1, 1])]) (us := [(66, .bool true), (67, undef), (68, undef), (69, undef), (70, undef), (71, .bool true), (72, .bool true), (73, undef), (74, undef), (75, undef), (76, undef), (77, .bool true), (78, .bool true), (79, undef), (80, undef), (81, undef), (82, undef), (83, undef), (84, undef), (85, .bool true), (4, .bool false)]) (by kernel_rfl) ?_
                have hS437 := hS433.drop
                have hS438 := hS437.drop
                have hS439 := hS438.drop
                have hS440 := hS439.drop
                have hS441 := hS440.drop
                have hS442 := hS441.drop
                have hS443 := hS442.drop
                have hS444 := hS443.drop
                refine runs_ret (fn := Try.f6) (v := .bool false) Try.func6 (by kernel_rfl) ?_
                have hr445 := (hq45 _ (Option.some.inj hp436))
                cases hr445
                exact hR _ _ ⟨rfl, hS444⟩
              · skip
                have hp446 := ite_f hp431 h435
                refine sx_run 3 (todo' := [.inRegion (opsOf (cd6 [1, 1, 1, 0, 1, 0, 0, 1, 0, 0, 1, 1, 1, 1, 1, 0, 0])) [7, 8, 9, 10, 11, 12, 13, 14, 15, 16, 17, 18, 19, 20, 21, 22, 23], .code (cd6 [1, 1, 1, 0, 1, 0, 0, 1, 0, 0, 1, 1, 1, 1, 1, 0, 1]), .code (cd6 [1, 1, 1, 0, 1, 0, 0, 1, 0, 0, 1, 1, 1, 1, 1, 1]), .inBlock 1, .code (cd6 [1, 1, 1, 0, 1, 0, 0, 1, 1]), .inLoop (cd6 [1, 1, 1, 0, 1, 0, 0]), .inBlock 0, .code (cd6 [1, 1, 1, 1])]) (us := [(66, .bool false), (67, .slice Q94 t92.length Q95), (68, .slice Q415 t413.length Q416)]) (by kernel_rfl) ?_
                obtain ⟨t447, hr448, hp449⟩ := bind_some' hp446
                have hS450 := hS433.pick5
                obtain ⟨Z451, hz452, hS453, hs454, hb455⟩ := hS450.lendrow len_api_Final (by omega)
                have hS456 := hS453.pick1
                obtain ⟨Z457, hz458, hS459, hs460, hb461⟩ := hS456.lendrow len_api_Final (by omega)
                refine r_call1 (c := (cd6 [1, 1, 1, 0, 1, 0, 0, 1, 0, 0, 1, 1, 1, 1, 1, 0, 0])) (i := 7) (d := (some 69)) (g := 25) (args := #[.slice Q94 t92.length Q95, .slice Q415 t413.length Q416]) (by kernel_rfl) (by kernel_rfl) (by kernel_rfl) (by kernel_rfl) (weirlaw10_Same.ok t92 t413 Q94 Q95 Q415 Q416 hS459 (hs454.up hz458) hs460 hr448) ?_
                rintro _ w462 ⟨rfl, hS463⟩
                refine ⟨.bool t447, rfl, ?_⟩
                have hS464 := hb461 _ _ hS463
                have hS465 := hb455 _ _ hS464
                refine sx_split 1 (todo' := [.inRegion (opsOf (cd6 [1, 1, 1, 0, 1, 0, 0, 1, 0, 0, 1, 1, 1, 1, 1, 0, 0])) [9, 10, 11, 12, 13, 14, 15, 16, 17, 18, 19, 20, 21, 22, 23], .code (cd6 [1, 1, 1, 0, 1, 0, 0, 1, 0, 0, 1, 1, 1, 1, 1, 0, 1]), .code (cd6 [1, 1, 1, 0, 1, 0, 0, 1, 0, 0, 1, 1, 1, 1, 1, 1]), .inBlock 1, .code (cd6 [1, 1, 1, 0, 1, 0, 0, 1, 1]), .inLoop (cd6 [1, 1, 1, 0, 1, 0, 0]), .inBlock 0, .code (cd6 [1, 1, 1, 1])]) (us := []) (d := 70) (t := (!t447)) (by kernel_rfl) (fun h466 => ?_) (fun h467 => ?_)
                · skip
                  have hp468 := ite_t hp449 h466
                  refine sx_run 21 (todo' := [.code (cd6 [1, 1, 1, 0, 1, 0, 0, 1, 0, 0, 1, 1, 1, 1, 1, 0, 1, 0, 1]), .code (cd6 [1, 1, 1, 0, 1, 0, 0, 1, 0, 0, 1, 1, 1, 1, 1, 1]), .inBlock 1, .code (cd6 [1, 1, 1, 0, 1, 0, 0, 1, 1]), .inLoop (cd6 [1, 1, 1, 0, 1, 0, 0]), .inBlock 0, .code (cd6 [1, 1, 1, 1])]) (us := [(71, .bool true), (72, .bool true), (73, undef), (74, undef), (75, undef), (76, undef), (77, .bool true), (78, .bool true), (79, undef), (80, undef), (81, undef), (82, undef), (83, undef), (84, undef), (85, .bool true), (4, .bool false)]) (by kernel_rfl) ?_
                  have hS469 := hS465.drop
                  have hS470 := hS469.drop
                  have hS471 := hS470.drop
                  have hS472 := hS471.drop
                  have hS473 := hS472.drop
                  have hS474 := hS473.drop
                  have hS475 := hS474.drop
                  have hS476 := hS475.drop
                  refine runs_ret (fn := Try.f6) (v := .bool false) Try.func6 (by kernel_rfl) ?_
                  have hr477 := (hq45 _ (Option.some.inj hp468))
                  cases hr477
                  exact hR _ _ ⟨rfl, hS476⟩
                · skip
                  have hp478 := ite_f hp449 h467
                  refine sx_run 4 (todo' := [.inRegion (opsOf (cd6 [1, 1, 1, 0, 1, 0, 0, 1, 0, 0, 1, 1, 1, 1, 1, 0, 0])) [13, 14, 15, 16, 17, 18, 19, 20, 21, 22, 23], .code (cd6 [1, 1, 1, 0, 1, 0, 0, 1, 0, 0, 1, 1, 1, 1, 1, 0, 1]), .code (cd6 [1, 1, 1, 0, 1, 0, 0, 1, 0, 0, 1, 1, 1, 1, 1, 1]), .inBlock 1, .code (cd6 [1, 1, 1, 0, 1, 0, 0, 1, 1]), .inLoop (cd6 [1, 1, 1, 0, 1, 0, 0]), .inBlock 0, .code (cd6 [1, 1, 1, 1])]) (us := [(71, .bool false), (72, .bool false), (73, .slice Q124 t122.length Q125), (74, .slice Q415 t413.length Q416)]) (by kernel_rfl) ?_
                  obtain ⟨t479, hr480, hp481⟩ := bind_some' hp478
                  have hS482 := hS465.pick5
                  obtain ⟨Z483, hz484, hS485, hs486, hb487⟩ := hS482.lendrow len_api_Final (by omega)
                  have hS488 := hS485.pick1
                  obtain ⟨Z489, hz490, hS491, hs492, hb493⟩ := hS488.lendrow len_api_Final (by omega)
                  refine r_call1 (c := (cd6 [1, 1, 1, 0, 1, 0, 0, 1, 0, 0, 1, 1, 1, 1, 1, 0, 0])) (i := 13) (d := (some 75)) (g := 25) (args := #[.slice Q124 t122.length Q125, .slice Q415 t413.length Q416]) (by kernel_rfl) (by kernel_rfl) (by kernel_rfl) (by kernel_rfl) (weirlaw10_Same.ok t122 t413 Q124 Q125 Q415 Q416 hS491 (hs486.up hz490) hs492 hr480) ?_
                  rintro _ w494 ⟨rfl, hS495⟩
                  refine ⟨.bool t479, rfl, ?_⟩
                  have hS496 := hb493 _ _ hS495
                  have hS497 := hb487 _ _ hS496
                  refine sx_split 1 (todo' := [.inRegion (opsOf (cd6 [1, 1, 1, 0, 1, 0, 0, 1, 0, 0, 1, 1, 1, 1, 1, 0, 0])) [15, 16, 17, 18, 19, 20, 21, 22, 23], .code (cd6 [1, 1, 1, 0, 1, 0, 0, 1, 0, 0, 1, 1, 1, 1, 1, 0, 1]), .code (cd6 [1, 1, 1, 0, 1, 0, 0, 1, 0, 0, 1, 1, 1, 1, 1, 1]), .inBlock 1, .code (cd6 [1, 1, 1, 0, 1, 0, 0, 1, 1]), .inLoop (cd6 [1, 1, 1, 0, 1, 0, 0]), .inBlock 0, .code (cd6 [1, 1, 1, 1])]) (us := []) (d := 76) (t := (!t479)) (by kernel_rfl) (fun h498 => ?_) (fun h499 => ?_)
                  · skip
                    have hp500 := ite_t hp481 h498
                    refine sx_run 15 (todo' := [.code (cd6 [1, 1, 1, 0, 1, 0, 0, 1, 0, 0, 1, 1, 1, 1, 1, 0, 1, 0, 1]), .code (cd6 [1, 1, 1, 0, 1, 0, 0, 1, 0, 0, 1, 1, 1, 1, 1, 1]), .inBlock 1, .code (cd6 [1, 1, 1, 0, 1, 0, 0, 1, 1]), .inLoop (cd6 [1, 1, 1, 0, 1, 0, 0]), .inBlock 0, .code (cd6 [1, 1, 1, 1])]) (us := [(77, .bool true), (78, .bool true), (79, undef), (80, undef), (81, undef), (82, undef), (83, undef), (84, undef), (85, .bool true), (4, .bool false)]) (by kernel_rfl) ?_
                    have hS501 := hS497.drop
                    have hS502 := hS501.drop
                    have hS503 := hS502.drop
                    have hS504 := hS503.drop
                    have hS505 := hS504.drop
                    have hS506 := hS505.drop
                    have hS507 := hS506.drop
                    have hS508 := hS507.drop
                    refine runs_ret (fn := Try.f6) (v := .bool false) Try.func6 (by kernel_rfl) ?_
                    have hr509 := (hq45 _ (Option.some.inj hp500))
                    cases hr509
                    exact hR _ _ ⟨rfl, hS508⟩
                  · skip
                    have hp510 := ite_f hp481 h499
                    refine sx_run 5 (todo' := [.inRegion (opsOf (cd6 [1, 1, 1, 0, 1, 0, 0, 1, 0, 0, 1, 1, 1, 1, 1, 0, 0])) [20, 21, 22, 23], .code (cd6 [1, 1, 1, 0, 1, 0, 0, 1, 0, 0, 1, 1, 1, 1, 1, 0, 1]), .code (cd6 [1, 1, 1, 0, 1, 0, 0, 1, 0, 0, 1, 1, 1, 1, 1, 1]), .inBlock 1, .code (cd6 [1, 1, 1, 0, 1, 0, 0, 1, 1]), .inLoop (cd6 [1, 1, 1, 0, 1, 0, 0]), .inBlock 0, .code (cd6 [1, 1, 1, 1])]) (us := [(77, .bool false), (78, .bool false), (79, .slice A79 ((([] : List Int) ++ a1) ++ ([(-7)] : List Int)).length c80), (80, .slice Aa1 a1.length ca1), (81, .int .i64 (a1.length : Int))]) (by kernel_rfl) ?_
                    obtain ⟨g511, hp512⟩ := ite_some hp510
                    obtain ⟨b513, p514, hA515, -⟩ := (hS497.row 5 rfl).at_ (len_encI .i64) (by omega) g511.1 g511.2
                    refine r_indexAddr (c := (cd6 [1, 1, 1, 0, 1, 0, 0, 1, 0, 0, 1, 1, 1, 1, 1, 0, 0])) (i := 20) (d := (some 82)) (ty := 0) (t := 48) (e := 3) (n := ((([] : List Int) ++ a1) ++ ([(-7)] : List Int)).length) (cp := c80) (sz := 1) (kk := .i64) (x := (.tmp 79)) (y := (.tmp 81)) (b := b513) (o' := p514) (j := (a1.length : Int)) (by kernel_rfl) (by kernel_rfl) (slv (by kernel_rfl) hA515) (by kernel_rfl) (by kernel_rfl) (by kernel_rfl) g511.1 g511.2 ?_
                    refine r_load (c := (cd6 [1, 1, 1, 0, 1, 0, 0, 1, 0, 0, 1, 1, 1, 1, 1, 0, 0])) (i := 21) (d := (some 83)) (ty := 3) (t := 3) (x := (.tmp 82)) (p := ⟨b513, p514 + (a1.length : Int).toNat * 1, none⟩) (v := .int .i64 (gt ((([] : List Int) ++ a1) ++ ([(-7)] : List Int)) (a1.length : Int))) (by kernel_rfl) (by kernel_rfl) (by kernel_rfl) (loads_at 0 ((hS497.row 5 rfl).at2 hA515 (len_encI .i64) (by omega) g511.1 g511.2) (by kernel_rfl) (by kernel_rfl)) ?_
                    refine sx_split 1 (todo' := [.inRegion (opsOf (cd6 [1, 1, 1, 0, 1, 0, 0, 1, 0, 0, 1, 1, 1, 1, 1, 0, 0])) [23], .code (cd6 [1, 1, 1, 0, 1, 0, 0, 1, 0, 0, 1, 1, 1, 1, 1, 0, 1]), .code (cd6 [1, 1, 1, 0, 1, 0, 0, 1, 0, 0, 1, 1, 1, 1, 1, 1]), .inBlock 1, .code (cd6 [1, 1, 1, 0, 1, 0, 0, 1, 1]), .inLoop (cd6 [1, 1, 1, 0, 1, 0, 0]), .inBlock 0, .code (cd6 [1, 1, 1, 1])]) (us := []) (d := 84) (t := ((gt ((([] : List Int) ++ a1) ++ ([(-7)] : List Int)) (a1.length : Int)) != (-7))) (by kernel_rfl) (fun h517 => ?_) (fun h518 => ?_)
                    · skip
                      have hp519 := ite_t hp512 h517
                      refine sx_run 7 (todo' := [.code (cd6 [1, 1, 1, 0, 1, 0, 0, 1, 0, 0, 1, 1, 1, 1, 1, 0, 1, 0, 1]), .code (cd6 [1, 1, 1, 0, 1, 0, 0, 1, 0, 0, 1, 1, 1, 1, 1, 1]), .inBlock 1, .code (cd6 [1, 1, 1, 0, 1, 0, 0, 1, 1]), .inLoop (cd6 [1, 1, 1, 0, 1, 0, 0]), .inBlock 0, .code (cd6 [1, 1, 1, 1])]) (us := [(85, .bool true), (4, .bool false)]) (by kernel_rfl) ?_
                      have hS520 := hS497.drop
                      have hS521 := hS520.drop
                      have hS522 := hS521.drop
                      have hS523 := hS522.drop
                      have hS524 := hS523.drop
                      have hS525 := hS524.drop
                      have hS526 := hS525.drop
                      have hS527 := hS526.drop
                      refine runs_ret (fn := Try.f6) (v := .bool false) Try.func6 (by kernel_rfl) ?_
                      have hr528 := (hq45 _ (Option.some.inj hp519))
                      cases hr528
                      exact hR _ _ ⟨rfl, hS527⟩
                    · skip
                      have hp529 := ite_f hp512 h518
                      refine sx_run 11 (todo' := [.code (cd6 [1, 1, 1, 0, 1, 0, 0, 1, 0, 0, 1, 1, 1, 1, 1, 1, 0, 1, 0, 0]), .inLoop (cd6 [1, 1, 1, 0, 1, 0, 0, 1, 0, 0, 1, 1, 1, 1, 1, 1, 0, 1, 0, 0]), .inBlock 2, .code (cd6 [1, 1, 1, 0, 1, 0, 0, 1, 0, 0, 1, 1, 1, 1, 1, 1, 1]), .inBlock 1, .code (cd6 [1, 1, 1, 0, 1, 0, 0, 1, 1]), .inLoop (cd6 [1, 1, 1, 0, 1, 0, 0]), .inBlock 0, .code (cd6 [1, 1, 1, 1])]) (us := [(85, .bool false), (15, .int .i64 0)]) (by kernel_rfl) ?_
                      have hS530 := hS497.pick6
                      have hS531 := hS530.drop
                      obtain ⟨v532, hv533, hp534⟩ := bind_some' hp529
                      have hq537 : ∀ x, Sum.inr x = v532 → x = e39 := by intro x hx; subst hx; simpa using hp534
                      have J538 : ∀ (he540 : Sum.inl () = v532) (l539 : List Value) (w535 : World) (hS536 : St w0 Z (xblk b19 49 ([.slice Aa0 a0.length ca0, .slice Q12 t11.length Q13]) :: xrow Q12 Q13 24 49 (t11.flatMap enc_api_Final) :: xrow Q54 Q55 24 49 (t52.flatMap enc_api_Final) :: xrow Q94 Q95 24 49 (t92.flatMap enc_api_Final) :: xrow Q124 Q125 24 49 (t122.flatMap enc_api_Final) :: xrow Q415 Q416 24 49 (t413.flatMap enc_api_Final) :: fs) w535), Runs Try.prog 6 [.code (cd6 [1, 1, 1, 0, 1, 0, 0, 1, 0, 0, 1, 1, 1, 1, 1, 1, 1]), .inBlock 1, .code (cd6 [1, 1, 1, 0, 1, 0, 0, 1, 1]), .inLoop (cd6 [1, 1, 1, 0, 1, 0, 0]), .inBlock 0, .code (cd6 [1, 1, 1, 1])] (fill [none, some (.slice Aa1 a1.length ca1), none, none, none, some (.pointer (some ⟨b19, 0, none⟩)), some (.int .i64 t35), some (.slice Q54 t53 Q55), none, some (.slice Q94 t92.length Q95), none, some (.slice Q124 t122.length Q125), none, some (.slice Q415 t413.length Q416), none, none, none, none, none, none, none, none, none, none, none, none, none, none, none, none, none, none, none, none, none, none, none, none, none, none, none, none, none, none, none, none, none, none, none, none, none, none, none, none, none, none, none, none, none, none, none, none, none, none, none, none, none, none, none, none, none, none, none, none, none, none, none, none, none, none, none, none, none, none, none, none, none, none, none, none, none, none, none, none, none, none, none, none, none, none, none, none, none, none, none, none, none, none, none, none, none, none, none, none, none] l539) w535 R := by
                        intro he540 l539 w535 hS536
                        subst he540
                        try dsimp only at hp534
                        refine sx_run 3 (todo' := [.inRegion (opsOf (cd6 [1, 1, 1, 0, 1, 0, 0, 1, 0, 0, 1, 1, 1, 1, 1, 1, 1, 0])) [1], .code (cd6 [1, 1, 1, 0, 1, 0, 0, 1, 0, 0, 1, 1, 1, 1, 1, 1, 1, 1]), .inBlock 1, .code (cd6 [1, 1, 1, 0, 1, 0, 0, 1, 1]), .inLoop (cd6 [1, 1, 1, 0, 1, 0, 0]), .inBlock 0, .code (cd6 [1, 1, 1, 1])]) (us := [(101, .slice Q94 t92.length Q95)]) (by kernel_rfl) ?_
                        obtain ⟨_, hr541, hp542⟩ := bind_some' hp534
                        have hS543 := hS536.pick3
                        refine r_call1 (c := (cd6 [1, 1, 1, 0, 1, 0, 0, 1, 0, 0, 1, 1, 1, 1, 1, 1, 1, 0])) (i := 1) (d := (some 102)) (g := 27) (args := #[.slice Q94 t92.length Q95]) (by kernel_rfl) (by kernel_rfl) (by kernel_rfl) (by kernel_rfl) (weirlaw10_Spoil.ok t92 Q94 Q95 hS543 hr541) ?_
                        rintro _ w544 ⟨rfl, hS545⟩
                        refine ⟨.tuple #[], rfl, ?_⟩
                        refine sx_run 5 (todo' := [.inRegion (opsOf (cd6 [1, 1, 1, 0, 1, 0, 0, 1, 0, 0, 1, 1, 1, 1, 1, 1, 1, 1, 0])) [2, 3, 4, 5, 6, 7, 8, 9, 10, 11], .code (cd6 [1, 1, 1, 0, 1, 0, 0, 1, 0, 0, 1, 1, 1, 1, 1, 1, 1, 1, 1]), .inBlock 1, .code (cd6 [1, 1, 1, 0, 1, 0, 0, 1, 1]), .inLoop (cd6 [1, 1, 1, 0, 1, 0, 0]), .inBlock 0, .code (cd6 [1, 1, 1, 1])]) (us := [(103, .slice Q124 t122.length Q125), (104, .slice Q415 t413.length Q416)]) (by kernel_rfl) ?_
                        obtain ⟨t546, hr547, hp548⟩ := bind_some' hp542
                        have hS549 := hS545.pick3
                        obtain ⟨Z550, hz551, hS552, hs553, hb554⟩ := hS549.lendrow len_api_Final (by omega)
                        have hS555 := hS552.pick3
                        obtain ⟨Z556, hz557, hS558, hs559, hb560⟩ := hS555.lendrow len_api_Final (by omega)
                        refine r_call1 (c := (cd6 [1, 1, 1, 0, 1, 0, 0, 1, 0, 0, 1, 1, 1, 1, 1, 1, 1, 1, 0])) (i := 2) (d := (some 105)) (g := 25) (args := #[.slice Q124 t122.length Q125, .slice Q415 t413.length Q416]) (by kernel_rfl) (by kernel_rfl) (by kernel_rfl) (by kernel_rfl) (weirlaw10_Same.ok t122 t413 Q124 Q125 Q415 Q416 hS558 (hs553.up hz557) hs559 hr547) ?_
                        rintro _ w561 ⟨rfl, hS562⟩
                        refine ⟨.bool t546, rfl, ?_⟩
                        have hS563 := hb560 _ _ hS562
                        have hS564 := hb554 _ _ hS563
                        refine sx_split 1 (todo' := [.inRegion (opsOf (cd6 [1, 1, 1, 0, 1, 0, 0, 1, 0, 0, 1, 1, 1, 1, 1, 1, 1, 1, 0])) [4, 5, 6, 7, 8, 9, 10, 11], .code (cd6 [1, 1, 1, 0, 1, 0, 0, 1, 0, 0, 1, 1, 1, 1, 1, 1, 1, 1, 1]), .inBlock 1, .code (cd6 [1, 1, 1, 0, 1, 0, 0, 1, 1]), .inLoop (cd6 [1, 1, 1, 0, 1, 0, 0]), .inBlock 0, .code (cd6 [1, 1, 1, 1])]) (us := []) (d := 106) (t := (!t546)) (by kernel_rfl) (fun h565 => ?_) (fun h566 => ?_)
                        · skip
                          have hp567 := ite_t hp548 h565
                          refine sx_run 14 (todo' := [.code (cd6 [1, 1, 1, 0, 1, 0, 0, 1, 0, 0, 1, 1, 1, 1, 1, 1, 1, 1, 1, 0, 1]), .inBlock 1, .code (cd6 [1, 1, 1, 0, 1, 0, 0, 1, 1]), .inLoop (cd6 [1, 1, 1, 0, 1, 0, 0]), .inBlock 0, .code (cd6 [1, 1, 1, 1])]) (us := [(107, .bool true), (108, undef), (109, undef), (110, undef), (111, undef), (112, undef), (113, undef), (114, .bool true), (4, .bool false)]) (by kernel_rfl) ?_
                          have hS568 := hS564.drop
                          have hS569 := hS568.drop
                          have hS570 := hS569.drop
                          have hS571 := hS570.drop
                          have hS572 := hS571.drop
                          refine runs_ret (fn := Try.f6) (v := .bool false) Try.func6 (by kernel_rfl) ?_
                          have hr573 := (hq45 _ (Option.some.inj hp567))
                          cases hr573
                          exact hR _ _ ⟨rfl, hS572⟩
                        · skip
                          have hp574 := ite_f hp548 h566
                          refine sx_run 3 (todo' := [.inRegion (opsOf (cd6 [1, 1, 1, 0, 1, 0, 0, 1, 0, 0, 1, 1, 1, 1, 1, 1, 1, 1, 0])) [7, 8, 9, 10, 11], .code (cd6 [1, 1, 1, 0, 1, 0, 0, 1, 0, 0, 1, 1, 1, 1, 1, 1, 1, 1, 1]), .inBlock 1, .code (cd6 [1, 1, 1, 0, 1, 0, 0, 1, 1]), .inLoop (cd6 [1, 1, 1, 0, 1, 0, 0]), .inBlock 0, .code (cd6 [1, 1, 1, 1])]) (us := [(107, .bool false), (108, .slice Q54 t53 Q55), (109, .int .i64 t35)]) (by kernel_rfl) ?_
                          rcases Bool.eq_false_or_eq_true (t35 == 0) with h575 | h575
                          · skip
                            have hp576 := ite_t hp574 h575
                            have he577 : t35 = ((0 : Nat) : Int) := by simpa using h575
                            refine r_indexArrL (c := (cd6 [1, 1, 1, 0, 1, 0, 0, 1, 0, 0, 1, 1, 1, 1, 1, 1, 1, 1, 0])) (i := 7) (d := (some 110)) (ty := 0) (t := 49) (e := 36) (sz := 1) (kk := .i64) (x := (.tmp 5)) (y := (.tmp 109)) (b := b19) (o' := 0) (n := 2) (j := t35) (m := 0) (by kernel_rfl) (by kernel_rfl) (by kernel_rfl) (by kernel_rfl) (by kernel_rfl) (by kernel_rfl) he577 (by decide) ?_
                            refine r_load (c := (cd6 [1, 1, 1, 0, 1, 0, 0, 1, 0, 0, 1, 1, 1, 1, 1, 1, 1, 1, 0])) (i := 8) (d := (some 111)) (ty := 36) (t := 36) (x := (.tmp 110)) (p := ⟨b19, 0, none⟩) (v := .slice Aa0 a0.length ca0) (by kernel_rfl) (by kernel_rfl) (by kernel_rfl) (loads_at 0 (hS564.blk 2 rfl) (by kernel_rfl) (by kernel_rfl)) ?_
                            obtain ⟨t578, hr579, hp580⟩ := bind_some' hp576
                            have hS581 := hS564.pick4
                            refine r_call1 (c := (cd6 [1, 1, 1, 0, 1, 0, 0, 1, 0, 0, 1, 1, 1, 1, 1, 1, 1, 1, 0])) (i := 9) (d := (some 112)) (g := 26) (args := #[.slice Q54 t53 Q55, .slice Aa0 a0.length ca0]) (by kernel_rfl) (by kernel_rfl) (by kernel_rfl) (by kernel_rfl) (weirlaw10_Back.ok t52 t53 a0 Q54 Q55 Aa0 ca0 hS581 ha0 hr579) ?_
                            rintro _ w582 ⟨rfl, hS583⟩
                            refine ⟨.bool t578, rfl, ?_⟩
                            refine sx_split 1 (todo' := [.inRegion (opsOf (cd6 [1, 1, 1, 0, 1, 0, 0, 1, 0, 0, 1, 1, 1, 1, 1, 1, 1, 1, 0])) [11], .code (cd6 [1, 1, 1, 0, 1, 0, 0, 1, 0, 0, 1, 1, 1, 1, 1, 1, 1, 1, 1]), .inBlock 1, .code (cd6 [1, 1, 1, 0, 1, 0, 0, 1, 1]), .inLoop (cd6 [1, 1, 1, 0, 1, 0, 0]), .inBlock 0, .code (cd6 [1, 1, 1, 1])]) (us := []) (d := 113) (t := (!t578)) (by kernel_rfl) (fun h584 => ?_) (fun h585 => ?_)
                            · skip
                              have hp586 := ite_t hp580 h584
                              refine sx_run 7 (todo' := [.code (cd6 [1, 1, 1, 0, 1, 0, 0, 1, 0, 0, 1, 1, 1, 1, 1, 1, 1, 1, 1, 0, 1]), .inBlock 1, .code (cd6 [1, 1, 1, 0, 1, 0, 0, 1, 1]), .inLoop (cd6 [1, 1, 1, 0, 1, 0, 0]), .inBlock 0, .code (cd6 [1, 1, 1, 1])]) (us := [(114, .bool true), (4, .bool false)]) (by kernel_rfl) ?_
                              have hS587 := hS583.drop
                              have hS588 := hS587.drop
                              have hS589 := hS588.drop
                              have hS590 := hS589.drop
                              have hS591 := hS590.drop
                              refine runs_ret (fn := Try.f6) (v := .bool false) Try.func6 (by kernel_rfl) ?_
                              have hr592 := (hq45 _ (Option.some.inj hp586))
                              cases hr592
                              exact hR _ _ ⟨rfl, hS591⟩
                            · skip
                              have hp593 := ite_f hp580 h585
                              refine sx_run 10 (todo' := [.inLoop (cd6 [1, 1, 1, 0, 1, 0, 0]), .inBlock 0, .code (cd6 [1, 1, 1, 1])]) (us := [(114, .bool false), (25, .int .i64 t35), (26, .int .i64 (IntKind.i64.wrap (t35 + 1))), (6, .int .i64 (IntKind.i64.wrap (t35 + 1)))]) (by kernel_rfl) ?_
                              have hS594 := hS583.drop
                              have hS595 := hS594.drop
                              have hS596 := hS595.drop
                              refine sx_run 1 (todo' := [.code (cd6 [1, 1, 1, 0, 1, 0, 0]), .inLoop (cd6 [1, 1, 1, 0, 1, 0, 0]), .inBlock 0, .code (cd6 [1, 1, 1, 1])]) (us := []) (by kernel_rfl) ?_
                              refine Runs.fill (m := [none, some (.slice Aa1 a1.length ca1), none, none, none, some (.pointer (some ⟨b19, 0, none⟩)), some (.int .i64 (IntKind.i64.wrap (t35 + 1))), none, none, none, none, none, none, none, none, none, none, none, none, none, none, none, none, none, none, none, none, none, none, none, none, none, none, none, none, none, none, none, none, none, none, none, none, none, none, none, none, none, none, none, none, none, none, none, none, none, none, none, none, none, none, none, none, none, none, none, none, none, none, none, none, none, none, none, none, none, none, none, none, none, none, none, none, none, none, none, none, none, none, none, none, none, none, none, none, none, none, none, none, none, none, none, none, none, none, none, none, none, none, none, none, none, none, none, none]) (by kernel_rfl) ?_
                              exact ih42 (IntKind.i64.wrap (t35 + 1)) _ hp593 he40 _ _ hS596
                          · skip
                            have hp597 := ite_f hp574 h575
                            rcases Bool.eq_false_or_eq_true (t35 == 1) with h598 | h598
                            · skip
                              have hp599 := ite_t hp597 h598
                              have he600 : t35 = ((1 : Nat) : Int) := by simpa using h598
                              refine r_indexArrL (c := (cd6 [1, 1, 1, 0, 1, 0, 0, 1, 0, 0, 1, 1, 1, 1, 1, 1, 1, 1, 0])) (i := 7) (d := (some 110)) (ty := 0) (t := 49) (e := 36) (sz := 1) (kk := .i64) (x := (.tmp 5)) (y := (.tmp 109)) (b := b19) (o' := 0) (n := 2) (j := t35) (m := 1) (by kernel_rfl) (by kernel_rfl) (by kernel_rfl) (by kernel_rfl) (by kernel_rfl) (by kernel_rfl) he600 (by decide) ?_
                              refine r_load (c := (cd6 [1, 1, 1, 0, 1, 0, 0, 1, 0, 0, 1, 1, 1, 1, 1, 1, 1, 1, 0])) (i := 8) (d := (some 111)) (ty := 36) (t := 36) (x := (.tmp 110)) (p := ⟨b19, 1, none⟩) (v := .slice Q12 t11.length Q13) (by kernel_rfl) (by kernel_rfl) (by kernel_rfl) (loads_at 1 (hS564.blk 2 rfl) (by kernel_rfl) (by kernel_rfl)) ?_
                              obtain ⟨t601, hr602, hp603⟩ := bind_some' hp599
                              have hS604 := hS564.pick3
                              obtain ⟨Z605, hz606, hS607, hs608, hb609⟩ := hS604.lendrow len_api_Final (by omega)
                              have hS610 := hS607.pick3
                              refine r_call1 (c := (cd6 [1, 1, 1, 0, 1, 0, 0, 1, 0, 0, 1, 1, 1, 1, 1, 1, 1, 1, 0])) (i := 9) (d := (some 112)) (g := 26) (args := #[.slice Q54 t53 Q55, .slice Q12 t11.length Q13]) (by kernel_rfl) (by kernel_rfl) (by kernel_rfl) (by kernel_rfl) (weirlaw10_Back.ok t52 t53 t11 Q54 Q55 Q12 Q13 hS610 hs608 hr602) ?_
                              rintro _ w611 ⟨rfl, hS612⟩
                              refine ⟨.bool t601, rfl, ?_⟩
                              have hS613 := hb609 _ _ hS612
                              refine sx_split 1 (todo' := [.inRegion (opsOf (cd6 [1, 1, 1, 0, 1, 0, 0, 1, 0, 0, 1, 1, 1, 1, 1, 1, 1, 1, 0])) [11], .code (cd6 [1, 1, 1, 0, 1, 0, 0, 1, 0, 0, 1, 1, 1, 1, 1, 1, 1, 1, 1]), .inBlock 1, .code (cd6 [1, 1, 1, 0, 1, 0, 0, 1, 1]), .inLoop (cd6 [1, 1, 1, 0, 1, 0, 0]), .inBlock 0, .code (cd6 [1, 1, 1, 1])]) (us := []) (d := 113) (t := (!t601)) (by kernel_rfl) (fun h614 => ?_) (fun h615 => ?_)
                              · skip
                                have hp616 := ite_t hp603 h614
                                refine sx_run 7 (todo' := [.code (cd6 [1, 1, 1, 0, 1, 0, 0, 1, 0, 0, 1, 1, 1, 1, 1, 1, 1, 1, 1, 0, 1]), .inBlock 1, .code (cd6 [1, 1, 1, 0, 1, 0, 0, 1, 1]), .inLoop (cd6 [1, 1, 1, 0, 1, 0, 0]), .inBlock 0, .code (cd6 [1, 1, 1, 1])]) (us := [(114, .bool true), (4, .bool false)]) (by kernel_rfl) ?_
                                have hS617 := hS613.drop
                                have hS618 := hS617.drop
                                have hS619 := hS618.drop
                                have hS620 := hS619.drop
                                have hS621 := hS620.drop
                                refine runs_ret (fn := Try.f6) (v := .bool false) Try.func6 (by kernel_rfl) ?_
                                have hr622 := (hq45 _ (Option.some.inj hp616))
                                cases hr622
                                exact hR _ _ ⟨rfl, hS621⟩
                              · skip
                                have hp623 := ite_f hp603 h615
                                refine sx_run 10 (todo' := [.inLoop (cd6 [1, 1, 1, 0, 1, 0, 0]), .inBlock 0, .code (cd6 [1, 1, 1, 1])]) (us := [(114, .bool false), (25, .int .i64 t35), (26, .int .i64 (IntKind.i64.wrap (t35 + 1))), (6, .int .i64 (IntKind.i64.wrap (t35 + 1)))]) (by kernel_rfl) ?_
                                have hS624 := hS613.pick1
                                have hS625 := hS624.drop
                                have hS626 := hS625.pick1
                                have hS627 := hS626.drop
                                have hS628 := hS627.pick1
                                have hS629 := hS628.drop
                                have hS630 := hS629.pick1
                                refine sx_run 1 (todo' := [.code (cd6 [1, 1, 1, 0, 1, 0, 0]), .inLoop (cd6 [1, 1, 1, 0, 1, 0, 0]), .inBlock 0, .code (cd6 [1, 1, 1, 1])]) (us := []) (by kernel_rfl) ?_
                                refine Runs.fill (m := [none, some (.slice Aa1 a1.length ca1), none, none, none, some (.pointer (some ⟨b19, 0, none⟩)), some (.int .i64 (IntKind.i64.wrap (t35 + 1))), none, none, none, none, none, none, none, none, none, none, none, none, none, none, none, none, none, none, none, none, none, none, none, none, none, none, none, none, none, none, none, none, none, none, none, none, none, none, none, none, none, none, none, none, none, none, none, none, none, none, none, none, none, none, none, none, none, none, none, none, none, none, none, none, none, none, none, none, none, none, none, none, none, none, none, none, none, none, none, none, none, none, none, none, none, none, none, none, none, none, none, none, none, none, none, none, none, none, none, none, none, none, none, none, none, none, none, none]) (by kernel_rfl) ?_
                                exact ih42 (IntKind.i64.wrap (t35 + 1)) _ hp623 he40 _ _ hS630
                            · skip
                              have hp631 := ite_f hp597 h598
                              cases hp631
                      have L641 : ∀ (t632 : Int) (e636 : Sum Unit (Sum Unit Bool)), weirlaw10_StateProjects.l2 a1 t632 = some e636 → e636 = v532 → ∀ (l635 : List Value) (w633 : World) (hS634 : St w0 Z (xblk b19 49 ([.slice Aa0 a0.length ca0, .slice Q12 t11.length Q13]) :: xrow Q12 Q13 24 49 (t11.flatMap enc_api_Final) :: xrow Q54 Q55 24 49 (t52.flatMap enc_api_Final) :: xrow A79 c80 3 1 (((([] : List Int) ++ a1) ++ ([(-7)] : List Int)).flatMap (encI .i64)) :: xrow Q94 Q95 24 49 (t92.flatMap enc_api_Final) :: xrow Q124 Q125 24 49 (t122.flatMap enc_api_Final) :: xrow Q415 Q416 24 49 (t413.flatMap enc_api_Final) :: fs) w633), Runs Try.prog 6 [.code (cd6 [1, 1, 1, 0, 1, 0, 0, 1, 0, 0, 1, 1, 1, 1, 1, 1, 0, 1, 0, 0]), .inLoop (cd6 [1, 1, 1, 0, 1, 0, 0, 1, 0, 0, 1, 1, 1, 1, 1, 1, 0, 1, 0, 0]), .inBlock 2, .code (cd6 [1, 1, 1, 0, 1, 0, 0, 1, 0, 0, 1, 1, 1, 1, 1, 1, 1]), .inBlock 1, .code (cd6 [1, 1, 1, 0, 1, 0, 0, 1, 1]), .inLoop (cd6 [1, 1, 1, 0, 1, 0, 0]), .inBlock 0, .code (cd6 [1, 1, 1, 1])] (fill [none, some (.slice Aa1 a1.length ca1), none, none, none, some (.pointer (some ⟨b19, 0, none⟩)), some (.int .i64 t35), some (.slice Q54 t53 Q55), some (.slice A79 ((([] : List Int) ++ a1) ++ ([(-7)] : List Int)).length c80), some (.slice Q94 t92.length Q95), none, some (.slice Q124 t122.length Q125), none, some (.slice Q415 t413.length Q416), none, some (.int .i64 t632), none, none, none, none, none, none, none, none, none, none, none, none, none, none, none, none, none, none, none, none, none, none, none, none, none, none, none, none, none, none, none, none, none, none, none, none, none, none, none, none, none, none, none, none, none, none, none, none, none, none, none, none, none, none, none, none, none, none, none, none, none, none, none, none, none, none, none, none, none, none, none, none, none, none, none, none, none, none, none, none, none, none, none, none, none, none, none, none, none, none, none, none, none, none, none, none, none, none, none] l635) w633 R := by
                        refine weirlaw10_StateProjects.l2.partial_correctness a1 (fun t632 e636 => e636 = v532 → ∀ (l635 : List Value) (w633 : World) (hS634 : St w0 Z (xblk b19 49 ([.slice Aa0 a0.length ca0, .slice Q12 t11.length Q13]) :: xrow Q12 Q13 24 49 (t11.flatMap enc_api_Final) :: xrow Q54 Q55 24 49 (t52.flatMap enc_api_Final) :: xrow A79 c80 3 1 (((([] : List Int) ++ a1) ++ ([(-7)] : List Int)).flatMap (encI .i64)) :: xrow Q94 Q95 24 49 (t92.flatMap enc_api_Final) :: xrow Q124 Q125 24 49 (t122.flatMap enc_api_Final) :: xrow Q415 Q416 24 49 (t413.flatMap enc_api_Final) :: fs) w633), Runs Try.prog 6 [.code (cd6 [1, 1, 1, 0, 1, 0, 0, 1, 0, 0, 1, 1, 1, 1, 1, 1, 0, 1, 0, 0]), .inLoop (cd6 [1, 1, 1, 0, 1, 0, 0, 1, 0, 0, 1, 1, 1, 1, 1, 1, 0, 1, 0, 0]), .inBlock 2, .code (cd6 [1, 1, 1, 0, 1, 0, 0, 1, 0, 0, 1, 1, 1, 1, 1, 1, 1]), .inBlock 1, .code (cd6 [1, 1, 1, 0, 1, 0, 0, 1, 1]), .inLoop (cd6 [1, 1, 1, 0, 1, 0, 0]), .inBlock 0, .code (cd6 [1, 1, 1, 1])] (fill [none, some (.slice Aa1 a1.length ca1), none, none, none, some (.pointer (some ⟨b19, 0, none⟩)), some (.int .i64 t35), some (.slice Q54 t53 Q55), some (.slice A79 ((([] : List Int) ++ a1) ++ ([(-7)] : List Int)).length c80), some (.slice Q94 t92.length Q95), none, some (.slice Q124 t122.length Q125), none, some (.slice Q415 t413.length Q416), none, some (.int .i64 t632), none, none, none, none, none, none, none, none, none, none, none, none, none, none, none, none, none, none, none, none, none, none, none, none, none, none, none, none, none, none, none, none, none, none, none, none, none, none, none, none, none, none, none, none, none, none, none, none, none, none, none, none, none, none, none, none, none, none, none, none, none, none, none, none, none, none, none, none, none, none, none, none, none, none, none, none, none, none, none, none, none, none, none, none, none, none, none, none, none, none, none, none, none, none, none, none, none, none, none] l635) w633 R) ?_
                        intro rec640 ih639 t632 e636 hb638 he637 l635 w633 hS634
                        have hq642 : ∀ x, Sum.inr x = e636 → x = e39 := fun x hx => hq537 x (hx.trans he637)
                        refine sx_split 7 (todo' := [.inRegion (opsOf (cd6 [1, 1, 1, 0, 1, 0, 0, 1, 0, 0, 1, 1, 1, 1, 1, 1, 0, 1, 0, 0, 0, 0])) [], .code (cd6 [1, 1, 1, 0, 1, 0, 0, 1, 0, 0, 1, 1, 1, 1, 1, 1, 0, 1, 0, 0, 0, 1]), .code (cd6 [1, 1, 1, 0, 1, 0, 0, 1, 0, 0, 1, 1, 1, 1, 1, 1, 0, 1, 0, 0, 1]), .inLoop (cd6 [1, 1, 1, 0, 1, 0, 0, 1, 0, 0, 1, 1, 1, 1, 1, 1, 0, 1, 0, 0]), .inBlock 2, .code (cd6 [1, 1, 1, 0, 1, 0, 0, 1, 0, 0, 1, 1, 1, 1, 1, 1, 1]), .inBlock 1, .code (cd6 [1, 1, 1, 0, 1, 0, 0, 1, 1]), .inLoop (cd6 [1, 1, 1, 0, 1, 0, 0]), .inBlock 0, .code (cd6 [1, 1, 1, 1])]) (us := [(86, .int .i64 t632), (87, .slice Aa1 a1.length ca1), (88, .int .i64 (a1.length : Int))]) (d := 89) (t := (decide (t632 < (a1.length : Int)))) (by kernel_rfl) (fun h643 => ?_) (fun h644 => ?_)
                        · skip
                          have hp645 := ite_t hb638 h643
                          refine sx_run 6 (todo' := [.code (cd6 [1, 1, 1, 0, 1, 0, 0, 1, 0, 0, 1, 1, 1, 1, 1, 1, 0, 1, 0, 0, 1, 0, 0, 0]), .code (cd6 [1, 1, 1, 0, 1, 0, 0, 1, 0, 0, 1, 1, 1, 1, 1, 1, 0, 1, 0, 0, 1, 0, 0, 1]), .inBlock 3, .code (cd6 [1, 1, 1, 0, 1, 0, 0, 1, 0, 0, 1, 1, 1, 1, 1, 1, 0, 1, 0, 0, 1, 1]), .inLoop (cd6 [1, 1, 1, 0, 1, 0, 0, 1, 0, 0, 1, 1, 1, 1, 1, 1, 0, 1, 0, 0]), .inBlock 2, .code (cd6 [1, 1, 1, 0, 1, 0, 0, 1, 0, 0, 1, 1, 1, 1, 1, 1, 1]), .inBlock 1, .code (cd6 [1, 1, 1, 0, 1, 0, 0, 1, 1]), .inLoop (cd6 [1, 1, 1, 0, 1, 0, 0]), .inBlock 0, .code (cd6 [1, 1, 1, 1])]) (us := []) (by kernel_rfl) ?_
                          refine r_quiet hS634 (c := (cd6 [1, 1, 1, 0, 1, 0, 0, 1, 0, 0, 1, 1, 1, 1, 1, 1, 0, 1, 0, 0, 1, 0, 0, 0])) (id := 17) (by kernel_rfl) (by kernel_rfl) (by kernel_rfl) (is := [0, 1, 2, 3, 4, 5, 6, 7, 8]) (by kernel_rfl) ?_
                          refine q_run 2 (is' := [2, 3, 4, 5, 6, 7, 8]) (us := [(92, .slice A79 ((([] : List Int) ++ a1) ++ ([(-7)] : List Int)).length c80), (93, .int .i64 t632)]) (by kernel_rfl) ?_
                          obtain ⟨g646, hp647⟩ := ite_some hp645
                          obtain ⟨b648, p649, hA650, -⟩ := (hS634.row 3 rfl).at_ (len_encI .i64) (by omega) g646.1 g646.2
                          refine q_indexAddr (c := (cd6 [1, 1, 1, 0, 1, 0, 0, 1, 0, 0, 1, 1, 1, 1, 1, 1, 0, 1, 0, 0, 1, 0, 0, 0])) (i := 2) (d := (some 94)) (ty := 0) (t := 48) (e := 3) (n := ((([] : List Int) ++ a1) ++ ([(-7)] : List Int)).length) (cp := c80) (sz := 1) (kk := .i64) (x := (.tmp 92)) (y := (.tmp 93)) (b := b648) (o' := p649) (j := t632) (by kernel_rfl) (by kernel_rfl) (slv (by kernel_rfl) hA650) (by kernel_rfl) (by kernel_rfl) (by kernel_rfl) g646.1 g646.2 ?_
                          refine q_load (c := (cd6 [1, 1, 1, 0, 1, 0, 0, 1, 0, 0, 1, 1, 1, 1, 1, 1, 0, 1, 0, 0, 1, 0, 0, 0])) (i := 3) (d := (some 95)) (ty := 3) (t := 3) (x := (.tmp 94)) (p := ⟨b648, p649 + t632.toNat * 1, none⟩) (v := .int .i64 (gt ((([] : List Int) ++ a1) ++ ([(-7)] : List Int)) t632)) (by kernel_rfl) (by kernel_rfl) (by kernel_rfl) (fun w hC => (loads_at 0 ((hC.row 3 rfl).at2 hA650 (len_encI .i64) (by omega) g646.1 g646.2) (by kernel_rfl) (by kernel_rfl))) ?_
                          refine q_run 2 (is' := [6, 7, 8]) (us := [(96, .slice Aa1 a1.length ca1), (97, .int .i64 t632)]) (by kernel_rfl) ?_
                          obtain ⟨g652, hp653⟩ := ite_some hp647
                          obtain ⟨b654, p655, hA656, hc657⟩ := ha1.atF g652.1 g652.2
                          refine q_indexAddr (c := (cd6 [1, 1, 1, 0, 1, 0, 0, 1, 0, 0, 1, 1, 1, 1, 1, 1, 0, 1, 0, 0, 1, 0, 0, 0])) (i := 6) (d := (some 98)) (ty := 0) (t := 48) (e := 3) (n := a1.length) (cp := ca1) (sz := 1) (kk := .i64) (x := (.tmp 96)) (y := (.tmp 97)) (b := b654) (o' := p655) (j := t632) (by kernel_rfl) (by kernel_rfl) (slv (by kernel_rfl) hA656) (by kernel_rfl) (by kernel_rfl) (by kernel_rfl) g652.1 g652.2 ?_
                          refine q_load (c := (cd6 [1, 1, 1, 0, 1, 0, 0, 1, 0, 0, 1, 1, 1, 1, 1, 1, 0, 1, 0, 0, 1, 0, 0, 0])) (i := 7) (d := (some 99)) (ty := 3) (t := 3) (x := (.tmp 98)) (p := ⟨b654, p655 + t632.toNat * 1, none⟩) (v := .int .i64 (gt a1 t632)) (by kernel_rfl) (by kernel_rfl) (by kernel_rfl) (fun w hC => (loads_at 0 (hc657.cells hC) (by kernel_rfl) (by kernel_rfl))) ?_
                          refine q_splitr 1 (is' := []) (us := []) (d := 100) (t := ((gt ((([] : List Int) ++ a1) ++ ([(-7)] : List Int)) t632) != (gt a1 t632))) (by kernel_rfl) (fun h658 => ?_) (fun h659 => ?_)
                          · skip
                            have hp660 := ite_t hp653 h658
                            refine Qs.nil ?_
                            intro w661 hS662
                            refine sx_run 5 (todo' := [.code (cd6 [1, 1, 1, 0, 1, 0, 0, 1, 0, 0, 1, 1, 1, 1, 1, 1, 0, 1, 0, 0, 1, 0, 0, 1, 0, 1]), .inBlock 3, .code (cd6 [1, 1, 1, 0, 1, 0, 0, 1, 0, 0, 1, 1, 1, 1, 1, 1, 0, 1, 0, 0, 1, 1]), .inLoop (cd6 [1, 1, 1, 0, 1, 0, 0, 1, 0, 0, 1, 1, 1, 1, 1, 1, 0, 1, 0, 0]), .inBlock 2, .code (cd6 [1, 1, 1, 0, 1, 0, 0, 1, 0, 0, 1, 1, 1, 1, 1, 1, 1]), .inBlock 1, .code (cd6 [1, 1, 1, 0, 1, 0, 0, 1, 1]), .inLoop (cd6 [1, 1, 1, 0, 1, 0, 0]), .inBlock 0, .code (cd6 [1, 1, 1, 1])]) (us := [(4, .bool false)]) (by kernel_rfl) ?_
                            have hS663 := hS662.drop
                            have hS664 := hS663.drop
                            have hS665 := hS664.drop
                            have hS666 := hS665.drop
                            have hS667 := hS666.drop
                            have hS668 := hS667.drop
                            have hS669 := hS668.drop
                            refine runs_ret (fn := Try.f6) (v := .bool false) Try.func6 (by kernel_rfl) ?_
                            have hr670 := (hq45 _ (hq642 _ (Option.some.inj hp660)))
                            cases hr670
                            exact hR _ _ ⟨rfl, hS669⟩
                          · skip
                            have hp671 := ite_f hp653 h659
                            refine Qs.nil ?_
                            intro w672 hS673
                            refine sx_run 8 (todo' := [.inLoop (cd6 [1, 1, 1, 0, 1, 0, 0, 1, 0, 0, 1, 1, 1, 1, 1, 1, 0, 1, 0, 0]), .inBlock 2, .code (cd6 [1, 1, 1, 0, 1, 0, 0, 1, 0, 0, 1, 1, 1, 1, 1, 1, 1]), .inBlock 1, .code (cd6 [1, 1, 1, 0, 1, 0, 0, 1, 1]), .inLoop (cd6 [1, 1, 1, 0, 1, 0, 0]), .inBlock 0, .code (cd6 [1, 1, 1, 1])]) (us := [(90, .int .i64 t632), (91, .int .i64 (IntKind.i64.wrap (t632 + 1))), (15, .int .i64 (IntKind.i64.wrap (t632 + 1)))]) (by kernel_rfl) ?_
                            refine sx_run 1 (todo' := [.code (cd6 [1, 1, 1, 0, 1, 0, 0, 1, 0, 0, 1, 1, 1, 1, 1, 1, 0, 1, 0, 0]), .inLoop (cd6 [1, 1, 1, 0, 1, 0, 0, 1, 0, 0, 1, 1, 1, 1, 1, 1, 0, 1, 0, 0]), .inBlock 2, .code (cd6 [1, 1, 1, 0, 1, 0, 0, 1, 0, 0, 1, 1, 1, 1, 1, 1, 1]), .inBlock 1, .code (cd6 [1, 1, 1, 0, 1, 0, 0, 1, 1]), .inLoop (cd6 [1, 1, 1, 0, 1, 0, 0]), .inBlock 0, .code (cd6 [1, 1, 1, 1])]) (us := []) (by kernel_rfl) ?_
                            refine Runs.fill (m := [none, some (.slice Aa1 a1.length ca1), none, none, none, some (.pointer (some ⟨b19, 0, none⟩)), some (.int .i64 t35), some (.slice Q54 t53 Q55), some (.slice A79 ((([] : List Int) ++ a1) ++ ([(-7)] : List Int)).length c80), some (.slice Q94 t92.length Q95), none, some (.slice Q124 t122.length Q125), none, some (.slice Q415 t413.length Q416), none, some (.int .i64 (IntKind.i64.wrap (t632 + 1))), none, none, none, none, none, none, none, none, none, none, none, none, none, none, none, none, none, none, none, none, none, none, none, none, none, none, none, none, none, none, none, none, none, none, none, none, none, none, none, none, none, none, none, none, none, none, none, none, none, none, none, none, none, none, none, none, none, none, none, none, none, none, none, none, none, none, none, none, none, none, none, none, none, none, none, none, none, none, none, none, none, none, none, none, none, none, none, none, none, none, none, none, none, none, none, none, none, none, none]) (by kernel_rfl) ?_
                            exact ih639 (IntKind.i64.wrap (t632 + 1)) _ hp671 he637 _ _ hS673
                        · skip
                          have hp674 := ite_f hb638 h644
                          refine sx_run 3 (todo' := [.code (cd6 [1, 1, 1, 0, 1, 0, 0, 1, 0, 0, 1, 1, 1, 1, 1, 1, 1]), .inBlock 1, .code (cd6 [1, 1, 1, 0, 1, 0, 0, 1, 1]), .inLoop (cd6 [1, 1, 1, 0, 1, 0, 0]), .inBlock 0, .code (cd6 [1, 1, 1, 1])]) (us := []) (by kernel_rfl) ?_
                          have hS675 := hS634.pick3
                          have hS676 := hS675.drop
                          refine Runs.fill (m := [none, some (.slice Aa1 a1.length ca1), none, none, none, some (.pointer (some ⟨b19, 0, none⟩)), some (.int .i64 t35), some (.slice Q54 t53 Q55), none, some (.slice Q94 t92.length Q95), none, some (.slice Q124 t122.length Q125), none, some (.slice Q415 t413.length Q416), none, none, none, none, none, none, none, none, none, none, none, none, none, none, none, none, none, none, none, none, none, none, none, none, none, none, none, none, none, none, none, none, none, none, none, none, none, none, none, none, none, none, none, none, none, none, none, none, none, none, none, none, none, none, none, none, none, none, none, none, none, none, none, none, none, none, none, none, none, none, none, none, none, none, none, none, none, none, none, none, none, none, none, none, none, none, none, none, none, none, none, none, none, none, none, none, none, none, none, none, none]) (by kernel_rfl) ?_
                          exact J538 ((Option.some.inj hp674).trans he637) _ _ hS676
                      have hS677 := hS531.pick1
                      have hS678 := hS677.pick1
                      have hS679 := hS678.pick2
                      have hS680 := hS679.pick5
                      have hS681 := hS680.pick5
                      have hS682 := hS681.pick5
                      have hS683 := hS682.pick6
                      refine Runs.fill (m := [none, some (.slice Aa1 a1.length ca1), none, none, none, some (.pointer (some ⟨b19, 0, none⟩)), some (.int .i64 t35), some (.slice Q54 t53 Q55), some (.slice A79 ((([] : List Int) ++ a1) ++ ([(-7)] : List Int)).length c80), some (.slice Q94 t92.length Q95), none, some (.slice Q124 t122.length Q125), none, some (.slice Q415 t413.length Q416), none, some (.int .i64 0), none, none, none, none, none, none, none, none, none, none, none, none, none, none, none, none, none, none, none, none, none, none, none, none, none, none, none, none, none, none, none, none, none, none, none, none, none, none, none, none, none, none, none, none, none, none, none, none, none, none, none, none, none, none, none, none, none, none, none, none, none, none, none, none, none, none, none, none, none, none, none, none, none, none, none, none, none, none, none, none, none, none, none, none, none, none, none, none, none, none, none, none, none, none, none, none, none, none, none]) (by kernel_rfl) ?_
                      exact L641 0 _ hv533 rfl _ _ hS683
            · skip
              have hp684 := ite_f hp409 h410
              cases hp684
        · skip
          have hp685 := ite_f hp48 h49
          rcases Bool.eq_false_or_eq_true (t35 == 1) with h686 | h686
          · skip
            have hp687 := ite_t hp685 h686
            have he688 : t35 = ((1 : Nat) : Int) := by simpa using h686
            refine r_indexArrL (c := (cd6 [1, 1, 1, 0, 1, 0, 0, 1, 0, 0, 0])) (i := 1) (d := (some 28)) (ty := 0) (t := 49) (e := 36) (sz := 1) (kk := .i64) (x := (.tmp 5)) (y := (.tmp 27)) (b := b19) (o' := 0) (n := 2) (j := t35) (m := 1) (by kernel_rfl) (by kernel_rfl) (by kernel_rfl) (by kernel_rfl) (by kernel_rfl) (by kernel_rfl) he688 (by decide) ?_
            refine r_load (c := (cd6 [1, 1, 1, 0, 1, 0, 0, 1, 0, 0, 0])) (i := 2) (d := (some 29)) (ty := 36) (t := 36) (x := (.tmp 28)) (p := ⟨b19, 1, none⟩) (v := .slice Q12 t11.length Q13) (by kernel_rfl) (by kernel_rfl) (by kernel_rfl) (loads_at 1 (hS37.blk 0 rfl) (by kernel_rfl) (by kernel_rfl)) ?_
            obtain ⟨⟨t689, t690⟩, hr693, hp694⟩ := bind_some' hp687
            try dsimp only at hp694
            have hS696 := hS37.pick1
            obtain ⟨Z697, hz698, hS699, hs700, hb701⟩ := hS696.lendrow len_api_Final (by omega)
            refine r_call1 (c := (cd6 [1, 1, 1, 0, 1, 0, 0, 1, 0, 0, 0])) (i := 3) (d := (some 30)) (g := 16) (args := #[.slice Q12 t11.length Q13]) (by kernel_rfl) (by kernel_rfl) (by kernel_rfl) (by kernel_rfl) (weirlaw10_Lent.ok t11 Q12 Q13 hS699 hs700 hr693) ?_
            rintro _ w702 ⟨Q691, Q692, rfl, hS703⟩
            refine ⟨.slice Q691 t690 Q692, rfl, ?_⟩
            have hS704 := hb701 _ _ hS703
            refine sx_run 4 (todo' := [.inRegion (opsOf (cd6 [1, 1, 1, 0, 1, 0, 0, 1, 0, 0, 1, 0])) [0, 1, 2, 3, 4, 5], .code (cd6 [1, 1, 1, 0, 1, 0, 0, 1, 0, 0, 1, 1]), .inBlock 1, .code (cd6 [1, 1, 1, 0, 1, 0, 0, 1, 1]), .inLoop (cd6 [1, 1, 1, 0, 1, 0, 0]), .inBlock 0, .code (cd6 [1, 1, 1, 1])]) (us := [(7, .slice Q691 t690 Q692)]) (by kernel_rfl) ?_
            refine r_lit0 (c := (cd6 [1, 1, 1, 0, 1, 0, 0, 1, 0, 0, 1, 0])) (i := 0) (d := (some 31)) (ty := 48) (t := 48) (e := 3) (sz := 1) hS704 (by kernel_rfl) (by kernel_rfl) (by kernel_rfl) (by kernel_rfl) ?_
            intro b706 w707 hS708
            refine sx_run 1 (todo' := [.inRegion (opsOf (cd6 [1, 1, 1, 0, 1, 0, 0, 1, 0, 0, 1, 0])) [2, 3, 4, 5], .code (cd6 [1, 1, 1, 0, 1, 0, 0, 1, 0, 0, 1, 1]), .inBlock 1, .code (cd6 [1, 1, 1, 0, 1, 0, 0, 1, 1]), .inLoop (cd6 [1, 1, 1, 0, 1, 0, 0]), .inBlock 0, .code (cd6 [1, 1, 1, 1])]) (us := [(32, .slice Aa1 a1.length ca1)]) (by kernel_rfl) ?_
            obtain ⟨g709, hp710⟩ := ite_some hp694
            refine r_append (c := (cd6 [1, 1, 1, 0, 1, 0, 0, 1, 0, 0, 1, 0])) (i := 2) (d := (some 33)) (ty := 48) (enc := (encI .i64)) (e := 3) (u := 3) (t := 48) (t2 := 48) (sz := 1) (cp := 0) (A := (some ⟨b706, 0, none⟩)) (bytes := 8) (xs := ([] : List Int)) (ys := a1) (s := (.tmp 31)) (x := (.tmp 32)) (xv := .slice Aa1 a1.length ca1) (info := infoOf Try.prog 3) (z := zeroOf Try.prog 3) (ycs := a1.flatMap (encI .i64)) hS708 (by kernel_rfl) (by kernel_rfl) (by kernel_rfl) (by kernel_rfl) (by kernel_rfl) (.inl (by kernel_rfl)) (by kernel_rfl) (by kernel_rfl) (by kernel_rfl) (by kernel_rfl) (by kernel_rfl) (by omega) (len_encI .i64) (one_encI .i64) (src_slz hS708 ha1 (by omega) (len_encI .i64)) rfl g709 (by omega) ?_
            intro A711 c712 w713 hS714
            refine r_lit (c := (cd6 [1, 1, 1, 0, 1, 0, 0, 1, 0, 0, 1, 0])) (i := 3) (d := (some 34)) (ty := 48) (t := 48) (e := 3) (sz := 1) (n := 1) (parts := #[(0, (.const (.int .i64 (-7))))]) (vs := [(0, .int .i64 (-7))]) (z := zeroOf Try.prog 3) (cs' := ([(-7)] : List Int).flatMap (encI .i64)) hS714 (by kernel_rfl) (by kernel_rfl) (by kernel_rfl) (by kernel_rfl) (by kernel_rfl) (by decide) (by decide) (by kernel_rfl) rfl (Parts.cons (c := [.int .i64 (-7)]) (by kernel_rfl) rfl Parts.nil) rfl ?_
            intro b717 w718 hS719
            have hS720 := hS719.pick1
            obtain ⟨g721, hp722⟩ := ite_some hp710
            refine r_append (c := (cd6 [1, 1, 1, 0, 1, 0, 0, 1, 0, 0, 1, 0])) (i := 4) (d := (some 35)) (ty := 48) (enc := (encI .i64)) (e := 3) (u := 3) (t := 48) (t2 := 48) (sz := 1) (cp := c712) (A := A711) (bytes := 8) (xs := (([] : List Int) ++ a1)) (ys := ([(-7)] : List Int)) (s := (.tmp 33)) (x := (.tmp 34)) (xv := .slice (some ⟨b717, 0, none⟩) ([(-7)] : List Int).length 1) (info := infoOf Try.prog 3) (z := zeroOf Try.prog 3) (ycs := ([(-7)] : List Int).flatMap (encI .i64)) hS720 (by kernel_rfl) (by kernel_rfl) (by kernel_rfl) (by kernel_rfl) (by kernel_rfl) (.inl (by kernel_rfl)) (by kernel_rfl) (by kernel_rfl) (by kernel_rfl) (by kernel_rfl) (by kernel_rfl) (by omega) (len_encI .i64) (one_encI .i64) (src_row (hS720.row 1 rfl) (by omega) (len_encI .i64)) rfl g721 (by omega) ?_
            intro A723 c724 w725 hS726
            refine sx_run 8 (todo' := [.inRegion (opsOf (cd6 [1, 1, 1, 0, 1, 0, 0, 1, 0, 0, 1, 1, 0])) [4, 5, 6, 7, 8, 9, 10], .code (cd6 [1, 1, 1, 0, 1, 0, 0, 1, 0, 0, 1, 1, 1]), .inBlock 1, .code (cd6 [1, 1, 1, 0, 1, 0, 0, 1, 1]), .inLoop (cd6 [1, 1, 1, 0, 1, 0, 0]), .inBlock 0, .code (cd6 [1, 1, 1, 1])]) (us := [(8, .slice A723 ((([] : List Int) ++ a1) ++ ([(-7)] : List Int)).length c724), (37, .slice Q691 t690 Q692), (38, .slice A723 ((([] : List Int) ++ a1) ++ ([(-7)] : List Int)).length c724), (39, .slice Aa1 a1.length ca1), (40, .int .i64 (a1.length : Int))]) (by kernel_rfl) ?_
            obtain ⟨g728, hp729⟩ := ite_some hp722
            have hc730 := (hS726.row 0 rfl).cap (len_encI .i64) (by omega)
            have g731 : 0 ≤ (a1.length : Int) ∧ (a1.length : Int) ≤ (c724 : Int) := by omega
            refine r_val (c := (cd6 [1, 1, 1, 0, 1, 0, 0, 1, 0, 0, 1, 1, 0])) (i := 4) (d := (some 41)) (ty := 48) (op := .slice 48 (.tmp 38) none (some (.tmp 40)) none) (v := .slice A723 ((a1.length : Int).toNat) c724) (by kernel_rfl) (by kernel_rfl) (fun o ho _ => x_cutSl_nsC (e := 3) (sz := 1) (A := A723) (n := ((([] : List Int) ++ a1) ++ ([(-7)] : List Int)).length) (c := c724) (k := .i64) (by kernel_rfl) (by kernel_rfl) (by kernel_rfl) (by kernel_rfl) g731 cut0 ho) ?_
            obtain ⟨g732, hp733⟩ := ite_some hp729
            obtain ⟨g734, hp735⟩ := ite_some hp733
            obtain ⟨⟨t736, t737⟩, hr740, hp741⟩ := bind_some' hp735
            try dsimp only at hp741
            have hS743 := hS726.pick3
            obtain ⟨Z744, hz745, hS746, hs747, hb748⟩ := hS743.lendrow len_api_Final (by omega)
            obtain ⟨Z749, hz750, hS751, hs752, hb753⟩ := hS746.lendrow (len_encI .i64) (by omega)
            refine r_call1 (c := (cd6 [1, 1, 1, 0, 1, 0, 0, 1, 0, 0, 1, 1, 0])) (i := 5) (d := (some 42)) (g := 28) (args := #[.slice Q691 t690 Q692, .slice A723 ((a1.length : Int).toNat) c724]) (by kernel_rfl) (by kernel_rfl) (by kernel_rfl) (by kernel_rfl) (args_eq (by rw [lenTake g732, lenTake g734]) (state_Project.ok (t689.take t690) (((([] : List Int) ++ a1) ++ ([(-7)] : List Int)).take ((a1.length : Int).toNat)) Q691 Q692 A723 c724 hS751 ((hs747.up hz750).take0 t690) (hs752.take0 ((a1.length : Int).toNat)) hr740)) ?_
            rintro _ w754 ⟨Q738, Q739, rfl, hS755⟩
            refine ⟨.tuple #[.slice Q738 t736.length Q739, .int .i64 t737], rfl, ?_⟩
            have hS756 := hb753 _ _ hS755
            have hS757 := hb748 _ _ hS756
            refine sx_run 12 (todo' := [.inRegion (opsOf (cd6 [1, 1, 1, 0, 1, 0, 0, 1, 0, 0, 1, 1, 1, 0])) [4, 5, 6, 7, 8, 9, 10], .code (cd6 [1, 1, 1, 0, 1, 0, 0, 1, 0, 0, 1, 1, 1, 1]), .inBlock 1, .code (cd6 [1, 1, 1, 0, 1, 0, 0, 1, 1]), .inLoop (cd6 [1, 1, 1, 0, 1, 0, 0]), .inBlock 0, .code (cd6 [1, 1, 1, 1])]) (us := [(36, .tuple #[.slice Q738 t736.length Q739, .int .i64 t737]), (43, .slice Q738 t736.length Q739), (44, .int .i64 t737), (9, .slice Q738 t736.length Q739), (10, .int .i64 t737), (46, .slice Q691 t690 Q692), (47, .slice A723 ((([] : List Int) ++ a1) ++ ([(-7)] : List Int)).length c724), (48, .slice Aa1 a1.length ca1), (49, .int .i64 (a1.length : Int))]) (by kernel_rfl) ?_
            obtain ⟨g758, hp759⟩ := ite_some hp741
            have hc760 := (hS757.row 1 rfl).cap (len_encI .i64) (by omega)
            have g761 : 0 ≤ (a1.length : Int) ∧ (a1.length : Int) ≤ (c724 : Int) := by omega
            refine r_val (c := (cd6 [1, 1, 1, 0, 1, 0, 0, 1, 0, 0, 1, 1, 1, 0])) (i := 4) (d := (some 50)) (ty := 48) (op := .slice 48 (.tmp 47) none (some (.tmp 49)) none) (v := .slice A723 ((a1.length : Int).toNat) c724) (by kernel_rfl) (by kernel_rfl) (fun o ho _ => x_cutSl_nsC (e := 3) (sz := 1) (A := A723) (n := ((([] : List Int) ++ a1) ++ ([(-7)] : List Int)).length) (c := c724) (k := .i64) (by kernel_rfl) (by kernel_rfl) (by kernel_rfl) (by kernel_rfl) g761 cut0 ho) ?_
            obtain ⟨g762, hp763⟩ := ite_some hp759
            obtain ⟨g764, hp765⟩ := ite_some hp763
            obtain ⟨⟨t766, t767⟩, hr770, hp771⟩ := bind_some' hp765
            try dsimp only at hp771
            obtain ⟨Z773, hz774, hS775, hs776, hb777⟩ := hS757.lendrow len_api_Final (by omega)
            obtain ⟨Z778, hz779, hS780, hs781, hb782⟩ := hS775.lendrow (len_encI .i64) (by omega)
            refine r_call1 (c := (cd6 [1, 1, 1, 0, 1, 0, 0, 1, 0, 0, 1, 1, 1, 0])) (i := 5) (d := (some 51)) (g := 28) (args := #[.slice Q691 t690 Q692, .slice A723 ((a1.length : Int).toNat) c724]) (by kernel_rfl) (by kernel_rfl) (by kernel_rfl) (by kernel_rfl) (args_eq (by rw [lenTake g762, lenTake g764]) (state_Project.ok (t689.take t690) (((([] : List Int) ++ a1) ++ ([(-7)] : List Int)).take ((a1.length : Int).toNat)) Q691 Q692 A723 c724 hS780 ((hs776.up hz779).take0 t690) (hs781.take0 ((a1.length : Int).toNat)) hr770)) ?_
            rintro _ w783 ⟨Q768, Q769, rfl, hS784⟩
            refine ⟨.tuple #[.slice Q768 t766.length Q769, .int .i64 t767], rfl, ?_⟩
            have hS785 := hb782 _ _ hS784
            have hS786 := hb777 _ _ hS785
            refine sx_run 9 (todo' := [.inRegion (opsOf (cd6 [1, 1, 1, 0, 1, 0, 0, 1, 0, 0, 1, 1, 1, 1, 0])) [1, 2, 3, 4, 5, 6, 7, 8, 9], .code (cd6 [1, 1, 1, 0, 1, 0, 0, 1, 0, 0, 1, 1, 1, 1, 1]), .inBlock 1, .code (cd6 [1, 1, 1, 0, 1, 0, 0, 1, 1]), .inLoop (cd6 [1, 1, 1, 0, 1, 0, 0]), .inBlock 0, .code (cd6 [1, 1, 1, 1])]) (us := [(45, .tuple #[.slice Q768 t766.length Q769, .int .i64 t767]), (52, .slice Q768 t766.length Q769), (53, .int .i64 t767), (11, .slice Q768 t766.length Q769), (12, .int .i64 t767), (55, .int .i64 t35)]) (by kernel_rfl) ?_
            rcases Bool.eq_false_or_eq_true (t35 == 0) with h787 | h787
            · skip
              have hp788 := ite_t hp771 h787
              have he789 : t35 = ((0 : Nat) : Int) := by simpa using h787
              refine r_indexArrL (c := (cd6 [1, 1, 1, 0, 1, 0, 0, 1, 0, 0, 1, 1, 1, 1, 0])) (i := 1) (d := (some 56)) (ty := 0) (t := 49) (e := 36) (sz := 1) (kk := .i64) (x := (.tmp 5)) (y := (.tmp 55)) (b := b19) (o' := 0) (n := 2) (j := t35) (m := 0) (by kernel_rfl) (by kernel_rfl) (by kernel_rfl) (by kernel_rfl) (by kernel_rfl) (by kernel_rfl) he789 (by decide) ?_
              refine r_load (c := (cd6 [1, 1, 1, 0, 1, 0, 0, 1, 0, 0, 1, 1, 1, 1, 0])) (i := 2) (d := (some 57)) (ty := 36) (t := 36) (x := (.tmp 56)) (p := ⟨b19, 0, none⟩) (v := .slice Aa0 a0.length ca0) (by kernel_rfl) (by kernel_rfl) (by kernel_rfl) (loads_at 0 (hS786.blk 6 rfl) (by kernel_rfl) (by kernel_rfl)) ?_
              refine sx_run 1 (todo' := [.inRegion (opsOf (cd6 [1, 1, 1, 0, 1, 0, 0, 1, 0, 0, 1, 1, 1, 1, 0])) [4, 5, 6, 7, 8, 9], .code (cd6 [1, 1, 1, 0, 1, 0, 0, 1, 0, 0, 1, 1, 1, 1, 1]), .inBlock 1, .code (cd6 [1, 1, 1, 0, 1, 0, 0, 1, 1]), .inLoop (cd6 [1, 1, 1, 0, 1, 0, 0]), .inBlock 0, .code (cd6 [1, 1, 1, 1])]) (us := [(58, .slice Aa1 a1.length ca1)]) (by kernel_rfl) ?_
              obtain ⟨⟨t790, t791⟩, hr794, hp795⟩ := bind_some' hp788
              try dsimp only at hp795
              refine r_call1 (c := (cd6 [1, 1, 1, 0, 1, 0, 0, 1, 0, 0, 1, 1, 1, 1, 0])) (i := 4) (d := (some 59)) (g := 29) (args := #[.slice Aa0 a0.length ca0, .slice Aa1 a1.length ca1]) (by kernel_rfl) (by kernel_rfl) (by kernel_rfl) (by kernel_rfl) (weirref10_Project.ok a0 a1 Aa0 ca0 Aa1 ca1 hS786 ha0 ha1 hr794) ?_
              rintro _ w797 ⟨Q792, Q793, rfl, hS798⟩
              refine ⟨.tuple #[.slice Q792 t790.length Q793, .int .i64 t791], rfl, ?_⟩
              refine sx_run 10 (todo' := [.inRegion (opsOf (cd6 [1, 1, 1, 0, 1, 0, 0, 1, 0, 0, 1, 1, 1, 1, 1, 0, 0])) [1, 2, 3, 4, 5, 6, 7, 8, 9, 10, 11, 12, 13, 14, 15, 16, 17, 18, 19, 20, 21, 22, 23], .code (cd6 [1, 1, 1, 0, 1, 0, 0, 1, 0, 0, 1, 1, 1, 1, 1, 0, 1]), .code (cd6 [1, 1, 1, 0, 1, 0, 0, 1, 0, 0, 1, 1, 1, 1, 1, 1]), .inBlock 1, .code (cd6 [1, 1, 1, 0, 1, 0, 0, 1, 1]), .inLoop (cd6 [1, 1, 1, 0, 1, 0, 0]), .inBlock 0, .code (cd6 [1, 1, 1, 1])]) (us := [(54, .tuple #[.slice Q792 t790.length Q793, .int .i64 t791]), (60, .slice Q792 t790.length Q793), (61, .int .i64 t791), (13, .slice Q792 t790.length Q793), (14, .int .i64 t791), (62, .int .i64 t737)]) (by kernel_rfl) ?_
              obtain ⟨t799, hr800, hp801⟩ := bind_some' hp795
              refine r_call1 (c := (cd6 [1, 1, 1, 0, 1, 0, 0, 1, 0, 0, 1, 1, 1, 1, 1, 0, 0])) (i := 1) (d := (some 63)) (g := 11) (args := #[.int .i64 t737]) (by kernel_rfl) (by kernel_rfl) (by kernel_rfl) (by kernel_rfl) (weirlaw10_num.ok t737 hS798 hr800) ?_
              rintro _ w802 ⟨rfl, hS803⟩
              refine ⟨.int .i64 t799, rfl, ?_⟩
              refine sx_split 2 (todo' := [.inRegion (opsOf (cd6 [1, 1, 1, 0, 1, 0, 0, 1, 0, 0, 1, 1, 1, 1, 1, 0, 0])) [4, 5, 6, 7, 8, 9, 10, 11, 12, 13, 14, 15, 16, 17, 18, 19, 20, 21, 22, 23], .code (cd6 [1, 1, 1, 0, 1, 0, 0, 1, 0, 0, 1, 1, 1, 1, 1, 0, 1]), .code (cd6 [1, 1, 1, 0, 1, 0, 0, 1, 0, 0, 1, 1, 1, 1, 1, 1]), .inBlock 1, .code (cd6 [1, 1, 1, 0, 1, 0, 0, 1, 1]), .inLoop (cd6 [1, 1, 1, 0, 1, 0, 0]), .inBlock 0, .code (cd6 [1, 1, 1, 1])]) (us := [(64, .int .i64 t791)]) (d := 65) (t := (t799 != t791)) (by kernel_rfl) (fun h804 => ?_) (fun h805 => ?_)
              · skip
                have hp806 := ite_t hp801 h804
                refine sx_run 26 (todo' := [.code (cd6 [1, 1, 1, 0, 1, 0, 0, 1, 0, 0, 1, 1, 1, 1, 1, 0, 1, 0, 1]), .code (cd6 [1, 1, 1, 0, 1, 0, 0, 1, 0, 0, 1, 1, 1, 1, 1, 1]), .inBlock 1, .code (cd6 [1, 1, 1, 0, 1, 0, 0, 1, 1]), .inLoop (cd6 [1, 1, 1, 0, 1, 0, 0]), .inBlock 0, .code (cd6 [1, 1, 1, 1])]) (us := [(66, .bool true), (67, undef), (68, undef), (69, undef), (70, undef), (71, .bool true), (72, .bool true), (73, undef), (74, undef), (75, undef), (76, undef), (77, .bool true), (78, .bool true), (79, undef), (80, undef), (81, undef), (82, undef), (83, undef), (84, undef), (85, .bool true), (4, .bool false)]) (by kernel_rfl) ?_
                have hS807 := hS803.drop
                have hS808 := hS807.drop
                have hS809 := hS808.drop
                have hS810 := hS809.drop
                have hS811 := hS810.drop
                have hS812 := hS811.drop
                have hS813 := hS812.drop
                have hS814 := hS813.drop
                refine runs_ret (fn := Try.f6) (v := .bool false) Try.func6 (by kernel_rfl) ?_
                have hr815 := (hq45 _ (Option.some.inj hp806))
                cases hr815
                exact hR _ _ ⟨rfl, hS814⟩
              · skip
                have hp816 := ite_f hp801 h805
                refine sx_run 3 (todo' := [.inRegion (opsOf (cd6 [1, 1, 1, 0, 1, 0, 0, 1, 0, 0, 1, 1, 1, 1, 1, 0, 0])) [7, 8, 9, 10, 11, 12, 13, 14, 15, 16, 17, 18, 19, 20, 21, 22, 23], .code (cd6 [1, 1, 1, 0, 1, 0, 0, 1, 0, 0, 1, 1, 1, 1, 1, 0, 1]), .code (cd6 [1, 1, 1, 0, 1, 0, 0, 1, 0, 0, 1, 1, 1, 1, 1, 1]), .inBlock 1, .code (cd6 [1, 1, 1, 0, 1, 0, 0, 1, 1]), .inLoop (cd6 [1, 1, 1, 0, 1, 0, 0]), .inBlock 0, .code (cd6 [1, 1, 1, 1])]) (us := [(66, .bool false), (67, .slice Q738 t736.length Q739), (68, .slice Q792 t790.length Q793)]) (by kernel_rfl) ?_
                obtain ⟨t817, hr818, hp819⟩ := bind_some' hp816
                have hS820 := hS803.pick4
                obtain ⟨Z821, hz822, hS823, hs824, hb825⟩ := hS820.lendrow len_api_Final (by omega)
                obtain ⟨Z826, hz827, hS828, hs829, hb830⟩ := hS823.lendrow len_api_Final (by omega)
                refine r_call1 (c := (cd6 [1, 1, 1, 0, 1, 0, 0, 1, 0, 0, 1, 1, 1, 1, 1, 0, 0])) (i := 7) (d := (some 69)) (g := 25) (args := #[.slice Q738 t736.length Q739, .slice Q792 t790.length Q793]) (by kernel_rfl) (by kernel_rfl) (by kernel_rfl) (by kernel_rfl) (weirlaw10_Same.ok t736 t790 Q738 Q739 Q792 Q793 hS828 (hs824.up hz827) hs829 hr818) ?_
                rintro _ w831 ⟨rfl, hS832⟩
                refine ⟨.bool t817, rfl, ?_⟩
                have hS833 := hb830 _ _ hS832
                have hS834 := hb825 _ _ hS833
                refine sx_split 1 (todo' := [.inRegion (opsOf (cd6 [1, 1, 1, 0, 1, 0, 0, 1, 0, 0, 1, 1, 1, 1, 1, 0, 0])) [9, 10, 11, 12, 13, 14, 15, 16, 17, 18, 19, 20, 21, 22, 23], .code (cd6 [1, 1, 1, 0, 1, 0, 0, 1, 0, 0, 1, 1, 1, 1, 1, 0, 1]), .code (cd6 [1, 1, 1, 0, 1, 0, 0, 1, 0, 0, 1, 1, 1, 1, 1, 1]), .inBlock 1, .code (cd6 [1, 1, 1, 0, 1, 0, 0, 1, 1]), .inLoop (cd6 [1, 1, 1, 0, 1, 0, 0]), .inBlock 0, .code (cd6 [1, 1, 1, 1])]) (us := []) (d := 70) (t := (!t817)) (by kernel_rfl) (fun h835 => ?_) (fun h836 => ?_)
                · skip
                  have hp837 := ite_t hp819 h835
                  refine sx_run 21 (todo' := [.code (cd6 [1, 1, 1, 0, 1, 0, 0, 1, 0, 0, 1, 1, 1, 1, 1, 0, 1, 0, 1]), .code (cd6 [1, 1, 1, 0, 1, 0, 0, 1, 0, 0, 1, 1, 1, 1, 1, 1]), .inBlock 1, .code (cd6 [1, 1, 1, 0, 1, 0, 0, 1, 1]), .inLoop (cd6 [1, 1, 1, 0, 1, 0, 0]), .inBlock 0, .code (cd6 [1, 1, 1, 1])]) (us := [(71, .bool true), (72, .bool true), (73, undef), (74, undef), (75, undef), (76, undef), (77, .bool true), (78, .bool true), (79, undef), (80, undef), (81, undef), (82, undef), (83, undef), (84, undef), (85, .bool true), (4, .bool false)]) (by kernel_rfl) ?_
                  have hS838 := hS834.drop
                  have hS839 := hS838.drop
                  have hS840 := hS839.drop
                  have hS841 := hS840.drop
                  have hS842 := hS841.drop
                  have hS843 := hS842.drop
                  have hS844 := hS843.drop
                  have hS845 := hS844.drop
                  refine runs_ret (fn := Try.f6) (v := .bool false) Try.func6 (by kernel_rfl) ?_
                  have hr846 := (hq45 _ (Option.some.inj hp837))
                  cases hr846
                  exact hR _ _ ⟨rfl, hS845⟩
                · skip
                  have hp847 := ite_f hp819 h836
                  refine sx_run 4 (todo' := [.inRegion (opsOf (cd6 [1, 1, 1, 0, 1, 0, 0, 1, 0, 0, 1, 1, 1, 1, 1, 0, 0])) [13, 14, 15, 16, 17, 18, 19, 20, 21, 22, 23], .code (cd6 [1, 1, 1, 0, 1, 0, 0, 1, 0, 0, 1, 1, 1, 1, 1, 0, 1]), .code (cd6 [1, 1, 1, 0, 1, 0, 0, 1, 0, 0, 1, 1, 1, 1, 1, 1]), .inBlock 1, .code (cd6 [1, 1, 1, 0, 1, 0, 0, 1, 1]), .inLoop (cd6 [1, 1, 1, 0, 1, 0, 0]), .inBlock 0, .code (cd6 [1, 1, 1, 1])]) (us := [(71, .bool false), (72, .bool false), (73, .slice Q768 t766.length Q769), (74, .slice Q792 t790.length Q793)]) (by kernel_rfl) ?_
                  obtain ⟨t848, hr849, hp850⟩ := bind_some' hp847
                  have hS851 := hS834.pick4
                  obtain ⟨Z852, hz853, hS854, hs855, hb856⟩ := hS851.lendrow len_api_Final (by omega)
                  have hS857 := hS854.pick1
                  obtain ⟨Z858, hz859, hS860, hs861, hb862⟩ := hS857.lendrow len_api_Final (by omega)
                  refine r_call1 (c := (cd6 [1, 1, 1, 0, 1, 0, 0, 1, 0, 0, 1, 1, 1, 1, 1, 0, 0])) (i := 13) (d := (some 75)) (g := 25) (args := #[.slice Q768 t766.length Q769, .slice Q792 t790.length Q793]) (by kernel_rfl) (by kernel_rfl) (by kernel_rfl) (by kernel_rfl) (weirlaw10_Same.ok t766 t790 Q768 Q769 Q792 Q793 hS860 (hs855.up hz859) hs861 hr849) ?_
                  rintro _ w863 ⟨rfl, hS864⟩
                  refine ⟨.bool t848, rfl, ?_⟩
                  have hS865 := hb862 _ _ hS864
                  have hS866 := hb856 _ _ hS865
                  refine sx_split 1 (todo' := [.inRegion (opsOf (cd6 [1, 1, 1, 0, 1, 0, 0, 1, 0, 0, 1, 1, 1, 1, 1, 0, 0])) [15, 16, 17, 18, 19, 20, 21, 22, 23], .code (cd6 [1, 1, 1, 0, 1, 0, 0, 1, 0, 0, 1, 1, 1, 1, 1, 0, 1]), .code (cd6 [1, 1, 1, 0, 1, 0, 0, 1, 0, 0, 1, 1, 1, 1, 1, 1]), .inBlock 1, .code (cd6 [1, 1, 1, 0, 1, 0, 0, 1, 1]), .inLoop (cd6 [1, 1, 1, 0, 1, 0, 0]), .inBlock 0, .code (cd6 [1, 1, 1, 1])]) (us := []) (d := 76) (t := (!t848)) (by kernel_rfl) (fun h867 => ?_) (fun h868 => ?_)
                  · skip
                    have hp869 := ite_t hp850 h867
                    refine sx_run 15 (todo' := [.code (cd6 [1, 1, 1, 0, 1, 0, 0, 1, 0, 0, 1, 1, 1, 1, 1, 0, 1, 0, 1]), .code (cd6 [1, 1, 1, 0, 1, 0, 0, 1, 0, 0, 1, 1, 1, 1, 1, 1]), .inBlock 1, .code (cd6 [1, 1, 1, 0, 1, 0, 0, 1, 1]), .inLoop (cd6 [1, 1, 1, 0, 1, 0, 0]), .inBlock 0, .code (cd6 [1, 1, 1, 1])]) (us := [(77, .bool true), (78, .bool true), (79, undef), (80, undef), (81, undef), (82, undef), (83, undef), (84, undef), (85, .bool true), (4, .bool false)]) (by kernel_rfl) ?_
                    have hS870 := hS866.drop
                    have hS871 := hS870.drop
                    have hS872 := hS871.drop
                    have hS873 := hS872.drop
                    have hS874 := hS873.drop
                    have hS875 := hS874.drop
                    have hS876 := hS875.drop
                    have hS877 := hS876.drop
                    refine runs_ret (fn := Try.f6) (v := .bool false) Try.func6 (by kernel_rfl) ?_
                    have hr878 := (hq45 _ (Option.some.inj hp869))
                    cases hr878
                    exact hR _ _ ⟨rfl, hS877⟩
                  · skip
                    have hp879 := ite_f hp850 h868
                    refine sx_run 5 (todo' := [.inRegion (opsOf (cd6 [1, 1, 1, 0, 1, 0, 0, 1, 0, 0, 1, 1, 1, 1, 1, 0, 0])) [20, 21, 22, 23], .code (cd6 [1, 1, 1, 0, 1, 0, 0, 1, 0, 0, 1, 1, 1, 1, 1, 0, 1]), .code (cd6 [1, 1, 1, 0, 1, 0, 0, 1, 0, 0, 1, 1, 1, 1, 1, 1]), .inBlock 1, .code (cd6 [1, 1, 1, 0, 1, 0, 0, 1, 1]), .inLoop (cd6 [1, 1, 1, 0, 1, 0, 0]), .inBlock 0, .code (cd6 [1, 1, 1, 1])]) (us := [(77, .bool false), (78, .bool false), (79, .slice A723 ((([] : List Int) ++ a1) ++ ([(-7)] : List Int)).length c724), (80, .slice Aa1 a1.length ca1), (81, .int .i64 (a1.length : Int))]) (by kernel_rfl) ?_
                    obtain ⟨g880, hp881⟩ := ite_some hp879
                    obtain ⟨b882, p883, hA884, -⟩ := (hS866.row 4 rfl).at_ (len_encI .i64) (by omega) g880.1 g880.2
                    refine r_indexAddr (c := (cd6 [1, 1, 1, 0, 1, 0, 0, 1, 0, 0, 1, 1, 1, 1, 1, 0, 0])) (i := 20) (d := (some 82)) (ty := 0) (t := 48) (e := 3) (n := ((([] : List Int) ++ a1) ++ ([(-7)] : List Int)).length) (cp := c724) (sz := 1) (kk := .i64) (x := (.tmp 79)) (y := (.tmp 81)) (b := b882) (o' := p883) (j := (a1.length : Int)) (by kernel_rfl) (by kernel_rfl) (slv (by kernel_rfl) hA884) (by kernel_rfl) (by kernel_rfl) (by kernel_rfl) g880.1 g880.2 ?_
                    refine r_load (c := (cd6 [1, 1, 1, 0, 1, 0, 0, 1, 0, 0, 1, 1, 1, 1, 1, 0, 0])) (i := 21) (d := (some 83)) (ty := 3) (t := 3) (x := (.tmp 82)) (p := ⟨b882, p883 + (a1.length : Int).toNat * 1, none⟩) (v := .int .i64 (gt ((([] : List Int) ++ a1) ++ ([(-7)] : List Int)) (a1.length : Int))) (by kernel_rfl) (by kernel_rfl) (by kernel_rfl) (loads_at 0 ((hS866.row 4 rfl).at2 hA884 (len_encI .i64) (by omega) g880.1 g880.2) (by kernel_rfl) (by kernel_rfl)) ?_
                    refine sx_split 1 (todo' := [.inRegion (opsOf (cd6 [1, 1, 1, 0, 1, 0, 0, 1, 0, 0, 1, 1, 1, 1, 1, 0, 0])) [23], .code (cd6 [1, 1, 1, 0, 1, 0, 0, 1, 0, 0, 1, 1, 1, 1, 1, 0, 1]), .code (cd6 [1, 1, 1, 0, 1, 0, 0, 1, 0, 0, 1, 1, 1, 1, 1, 1]), .inBlock 1, .code (cd6 [1, 1, 1, 0, 1, 0, 0, 1, 1]), .inLoop (cd6 [1, 1, 1, 0, 1, 0, 0]), .inBlock 0, .code (cd6 [1, 1, 1, 1])]) (us := []) (d := 84) (t := ((gt ((([] : List Int) ++ a1) ++ ([(-7)] : List Int)) (a1.length : Int)) != (-7))) (by kernel_rfl) (fun h886 => ?_) (fun h887 => ?_)
                    · skip
                      have hp888 := ite_t hp881 h886
                      refine sx_run 7 (todo' := [.code (cd6 [1, 1, 1, 0, 1, 0, 0, 1, 0, 0, 1, 1, 1, 1, 1, 0, 1, 0, 1]), .code (cd6 [1, 1, 1, 0, 1, 0, 0, 1, 0, 0, 1, 1, 1, 1, 1, 1]), .inBlock 1, .code (cd6 [1, 1, 1, 0, 1, 0, 0, 1, 1]), .inLoop (cd6 [1, 1, 1, 0, 1, 0, 0]), .inBlock 0, .code (cd6 [1, 1, 1, 1])]) (us := [(85, .bool true), (4, .bool false)]) (by kernel_rfl) ?_
                      have hS889 := hS866.drop
                      have hS890 := hS889.drop
                      have hS891 := hS890.drop
                      have hS892 := hS891.drop
                      have hS893 := hS892.drop
                      have hS894 := hS893.drop
                      have hS895 := hS894.drop
                      have hS896 := hS895.drop
                      refine runs_ret (fn := Try.f6) (v := .bool false) Try.func6 (by kernel_rfl) ?_
                      have hr897 := (hq45 _ (Option.some.inj hp888))
                      cases hr897
                      exact hR _ _ ⟨rfl, hS896⟩
                    · skip
                      have hp898 := ite_f hp881 h887
                      refine sx_run 11 (todo' := [.code (cd6 [1, 1, 1, 0, 1, 0, 0, 1, 0, 0, 1, 1, 1, 1, 1, 1, 0, 1, 0, 0]), .inLoop (cd6 [1, 1, 1, 0, 1, 0, 0, 1, 0, 0, 1, 1, 1, 1, 1, 1, 0, 1, 0, 0]), .inBlock 2, .code (cd6 [1, 1, 1, 0, 1, 0, 0, 1, 0, 0, 1, 1, 1, 1, 1, 1, 1]), .inBlock 1, .code (cd6 [1, 1, 1, 0, 1, 0, 0, 1, 1]), .inLoop (cd6 [1, 1, 1, 0, 1, 0, 0]), .inBlock 0, .code (cd6 [1, 1, 1, 1])]) (us := [(85, .bool false), (15, .int .i64 0)]) (by kernel_rfl) ?_
                      have hS899 := hS866.pick5
                      have hS900 := hS899.drop
                      obtain ⟨v901, hv902, hp903⟩ := bind_some' hp898
                      have hq906 : ∀ x, Sum.inr x = v901 → x = e39 := by intro x hx; subst hx; simpa using hp903
                      have J907 : ∀ (he909 : Sum.inl () = v901) (l908 : List Value) (w904 : World) (hS905 : St w0 Z (xblk b19 49 ([.slice Aa0 a0.length ca0, .slice Q12 t11.length Q13]) :: xrow Q12 Q13 24 49 (t11.flatMap enc_api_Final) :: xrow Q691 Q692 24 49 (t689.flatMap enc_api_Final) :: xrow Q738 Q739 24 49 (t736.flatMap enc_api_Final) :: xrow Q768 Q769 24 49 (t766.flatMap enc_api_Final) :: xrow Q792 Q793 24 49 (t790.flatMap enc_api_Final) :: fs) w904), Runs Try.prog 6 [.code (cd6 [1, 1, 1, 0, 1, 0, 0, 1, 0, 0, 1, 1, 1, 1, 1, 1, 1]), .inBlock 1, .code (cd6 [1, 1, 1, 0, 1, 0, 0, 1, 1]), .inLoop (cd6 [1, 1, 1, 0, 1, 0, 0]), .inBlock 0, .code (cd6 [1, 1, 1, 1])] (fill [none, some (.slice Aa1 a1.length ca1), none, none, none, some (.pointer (some ⟨b19, 0, none⟩)), some (.int .i64 t35), some (.slice Q691 t690 Q692), none, some (.slice Q738 t736.length Q739), none, some (.slice Q768 t766.length Q769), none, some (.slice Q792 t790.length Q793), none, none, none, none, none, none, none, none, none, none, none, none, none, none, none, none, none, none, none, none, none, none, none, none, none, none, none, none, none, none, none, none, none, none, none, none, none, none, none, none, none, none, none, none, none, none, none, none, none, none, none, none, none, none, none, none, none, none, none, none, none, none, none, none, none, none, none, none, none, none, none, none, none, none, none, none, none, none, none, none, none, none, none, none, none, none, none, none, none, none, none, none, none, none, none, none, none, none, none, none, none] l908) w904 R := by
                        intro he909 l908 w904 hS905
                        subst he909
                        try dsimp only at hp903
                        refine sx_run 3 (todo' := [.inRegion (opsOf (cd6 [1, 1, 1, 0, 1, 0, 0, 1, 0, 0, 1, 1, 1, 1, 1, 1, 1, 0])) [1], .code (cd6 [1, 1, 1, 0, 1, 0, 0, 1, 0, 0, 1, 1, 1, 1, 1, 1, 1, 1]), .inBlock 1, .code (cd6 [1, 1, 1, 0, 1, 0, 0, 1, 1]), .inLoop (cd6 [1, 1, 1, 0, 1, 0, 0]), .inBlock 0, .code (cd6 [1, 1, 1, 1])]) (us := [(101, .slice Q738 t736.length Q739)]) (by kernel_rfl) ?_
                        obtain ⟨_, hr910, hp911⟩ := bind_some' hp903
                        have hS912 := hS905.pick3
                        refine r_call1 (c := (cd6 [1, 1, 1, 0, 1, 0, 0, 1, 0, 0, 1, 1, 1, 1, 1, 1, 1, 0])) (i := 1) (d := (some 102)) (g := 27) (args := #[.slice Q738 t736.length Q739]) (by kernel_rfl) (by kernel_rfl) (by kernel_rfl) (by kernel_rfl) (weirlaw10_Spoil.ok t736 Q738 Q739 hS912 hr910) ?_
                        rintro _ w913 ⟨rfl, hS914⟩
                        refine ⟨.tuple #[], rfl, ?_⟩
                        refine sx_run 5 (todo' := [.inRegion (opsOf (cd6 [1, 1, 1, 0, 1, 0, 0, 1, 0, 0, 1, 1, 1, 1, 1, 1, 1, 1, 0])) [2, 3, 4, 5, 6, 7, 8, 9, 10, 11], .code (cd6 [1, 1, 1, 0, 1, 0, 0, 1, 0, 0, 1, 1, 1, 1, 1, 1, 1, 1, 1]), .inBlock 1, .code (cd6 [1, 1, 1, 0, 1, 0, 0, 1, 1]), .inLoop (cd6 [1, 1, 1, 0, 1, 0, 0]), .inBlock 0, .code (cd6 [1, 1, 1, 1])]) (us := [(103, .slice Q768 t766.length Q769), (104, .slice Q792 t790.length Q793)]) (by kernel_rfl) ?_
                        obtain ⟨t915, hr916, hp917⟩ := bind_some' hp911
                        have hS918 := hS914.pick3
                        obtain ⟨Z919, hz920, hS921, hs922, hb923⟩ := hS918.lendrow len_api_Final (by omega)
                        have hS924 := hS921.pick3
                        obtain ⟨Z925, hz926, hS927, hs928, hb929⟩ := hS924.lendrow len_api_Final (by omega)
                        refine r_call1 (c := (cd6 [1, 1, 1, 0, 1, 0, 0, 1, 0, 0, 1, 1, 1, 1, 1, 1, 1, 1, 0])) (i := 2) (d := (some 105)) (g := 25) (args := #[.slice Q768 t766.length Q769, .slice Q792 t790.length Q793]) (by kernel_rfl) (by kernel_rfl) (by kernel_rfl) (by kernel_rfl) (weirlaw10_Same.ok t766 t790 Q768 Q769 Q792 Q793 hS927 (hs922.up hz926) hs928 hr916) ?_
                        rintro _ w930 ⟨rfl, hS931⟩
                        refine ⟨.bool t915, rfl, ?_⟩
                        have hS932 := hb929 _ _ hS931
                        have hS933 := hb923 _ _ hS932
                        refine sx_split 1 (todo' := [.inRegion (opsOf (cd6 [1, 1, 1, 0, 1, 0, 0, 1, 0, 0, 1, 1, 1, 1, 1, 1, 1, 1, 0])) [4, 5, 6, 7, 8, 9, 10, 11], .code (cd6 [1, 1, 1, 0, 1, 0, 0, 1, 0, 0, 1, 1, 1, 1, 1, 1, 1, 1, 1]), .inBlock 1, .code (cd6 [1, 1, 1, 0, 1, 0, 0, 1, 1]), .inLoop (cd6 [1, 1, 1, 0, 1, 0, 0]), .inBlock 0, .code (cd6 [1, 1, 1, 1])]) (us := []) (d := 106) (t := (!t915)) (by kernel_rfl) (fun h934 => ?_) (fun h935 => ?_)
                        · skip
                          have hp936 := ite_t hp917 h934
                          refine sx_run 14 (todo' := [.code (cd6 [1, 1, 1, 0, 1, 0, 0, 1, 0, 0, 1, 1, 1, 1, 1, 1, 1, 1, 1, 0, 1]), .inBlock 1, .code (cd6 [1, 1, 1, 0, 1, 0, 0, 1, 1]), .inLoop (cd6 [1, 1, 1, 0, 1, 0, 0]), .inBlock 0, .code (cd6 [1, 1, 1, 1])]) (us := [(107, .bool true), (108, undef), (109, undef), (110, undef), (111, undef), (112, undef), (113, undef), (114, .bool true), (4, .bool false)]) (by kernel_rfl) ?_
                          have hS937 := hS933.drop
                          have hS938 := hS937.drop
                          have hS939 := hS938.drop
                          have hS940 := hS939.drop
                          have hS941 := hS940.drop
                          refine runs_ret (fn := Try.f6) (v := .bool false) Try.func6 (by kernel_rfl) ?_
                          have hr942 := (hq45 _ (Option.some.inj hp936))
                          cases hr942
                          exact hR _ _ ⟨rfl, hS941⟩
                        · skip
                          have hp943 := ite_f hp917 h935
                          refine sx_run 3 (todo' := [.inRegion (opsOf (cd6 [1, 1, 1, 0, 1, 0, 0, 1, 0, 0, 1, 1, 1, 1, 1, 1, 1, 1, 0])) [7, 8, 9, 10, 11], .code (cd6 [1, 1, 1, 0, 1, 0, 0, 1, 0, 0, 1, 1, 1, 1, 1, 1, 1, 1, 1]), .inBlock 1, .code (cd6 [1, 1, 1, 0, 1, 0, 0, 1, 1]), .inLoop (cd6 [1, 1, 1, 0, 1, 0, 0]), .inBlock 0, .code (cd6 [1, 1, 1, 1])]) (us := [(107, .bool false), (108, .slice Q691 t690 Q692), (109, .int .i64 t35)]) (by kernel_rfl) ?_
                          rcases Bool.eq_false_or_eq_true (t35 == 0) with h944 | h944
                          · skip
                            have hp945 := ite_t hp943 h944
                            have he946 : t35 = ((0 : Nat) : Int) := by simpa using h944
                            refine r_indexArrL (c := (cd6 [1, 1, 1, 0, 1, 0, 0, 1, 0, 0, 1, 1, 1, 1, 1, 1, 1, 1, 0])) (i := 7) (d := (some 110)) (ty := 0) (t := 49) (e := 36) (sz := 1) (kk := .i64) (x := (.tmp 5)) (y := (.tmp 109)) (b := b19) (o' := 0) (n := 2) (j := t35) (m := 0) (by kernel_rfl) (by kernel_rfl) (by kernel_rfl) (by kernel_rfl) (by kernel_rfl) (by kernel_rfl) he946 (by decide) ?_
                            refine r_load (c := (cd6 [1, 1, 1, 0, 1, 0, 0, 1, 0, 0, 1, 1, 1, 1, 1, 1, 1, 1, 0])) (i := 8) (d := (some 111)) (ty := 36) (t := 36) (x := (.tmp 110)) (p := ⟨b19, 0, none⟩) (v := .slice Aa0 a0.length ca0) (by kernel_rfl) (by kernel_rfl) (by kernel_rfl) (loads_at 0 (hS933.blk 2 rfl) (by kernel_rfl) (by kernel_rfl)) ?_
                            obtain ⟨t947, hr948, hp949⟩ := bind_some' hp945
                            have hS950 := hS933.pick4
                            refine r_call1 (c := (cd6 [1, 1, 1, 0, 1, 0, 0, 1, 0, 0, 1, 1, 1, 1, 1, 1, 1, 1, 0])) (i := 9) (d := (some 112)) (g := 26) (args := #[.slice Q691 t690 Q692, .slice Aa0 a0.length ca0]) (by kernel_rfl) (by kernel_rfl) (by kernel_rfl) (by kernel_rfl) (weirlaw10_Back.ok t689 t690 a0 Q691 Q692 Aa0 ca0 hS950 ha0 hr948) ?_
                            rintro _ w951 ⟨rfl, hS952⟩
                            refine ⟨.bool t947, rfl, ?_⟩
                            refine sx_split 1 (todo' := [.inRegion (opsOf (cd6 [1, 1, 1, 0, 1, 0, 0, 1, 0, 0, 1, 1, 1, 1, 1, 1, 1, 1, 0])) [11], .code (cd6 [1, 1, 1, 0, 1, 0, 0, 1, 0, 0, 1, 1, 1, 1, 1, 1, 1, 1, 1]), .inBlock 1, .code (cd6 [1, 1, 1, 0, 1, 0, 0, 1, 1]), .inLoop (cd6 [1, 1, 1, 0, 1, 0, 0]), .inBlock 0, .code (cd6 [1, 1, 1, 1])]) (us := []) (d := 113) (t := (!t947)) (by kernel_rfl) (fun h953 => ?_) (fun h954 => ?_)
                            · skip
                              have hp955 := ite_t hp949 h953
                              refine sx_run 7 (todo' := [.code (cd6 [1, 1, 1, 0, 1, 0, 0, 1, 0, 0, 1, 1, 1, 1, 1, 1, 1, 1, 1, 0, 1]), .inBlock 1, .code (cd6 [1, 1, 1, 0, 1, 0, 0, 1, 1]), .inLoop (cd6 [1, 1, 1, 0, 1, 0, 0]), .inBlock 0, .code (cd6 [1, 1, 1, 1])]) (us := [(114, .bool true), (4, .bool false)]) (by kernel_rfl) ?_
                              have hS956 := hS952.drop
                              have hS957 := hS956.drop
                              have hS958 := hS957.drop
                              have hS959 := hS958.drop
                              have hS960 := hS959.drop
                              refine runs_ret (fn := Try.f6) (v := .bool false) Try.func6 (by kernel_rfl) ?_
                              have hr961 := (hq45 _ (Option.some.inj hp955))
                              cases hr961
                              exact hR _ _ ⟨rfl, hS960⟩
                            · skip
                              have hp962 := ite_f hp949 h954
                              refine sx_run 10 (todo' := [.inLoop (cd6 [1, 1, 1, 0, 1, 0, 0]), .inBlock 0, .code (cd6 [1, 1, 1, 1])]) (us := [(114, .bool false), (25, .int .i64 t35), (26, .int .i64 (IntKind.i64.wrap (t35 + 1))), (6, .int .i64 (IntKind.i64.wrap (t35 + 1)))]) (by kernel_rfl) ?_
                              have hS963 := hS952.drop
                              have hS964 := hS963.drop
                              have hS965 := hS964.drop
                              refine sx_run 1 (todo' := [.code (cd6 [1, 1, 1, 0, 1, 0, 0]), .inLoop (cd6 [1, 1, 1, 0, 1, 0, 0]), .inBlock 0, .code (cd6 [1, 1, 1, 1])]) (us := []) (by kernel_rfl) ?_
                              refine Runs.fill (m := [none, some (.slice Aa1 a1.length ca1), none, none, none, some (.pointer (some ⟨b19, 0, none⟩)), some (.int .i64 (IntKind.i64.wrap (t35 + 1))), none, none, none, none, none, none, none, none, none, none, none, none, none, none, none, none, none, none, none, none, none, none, none, none, none, none, none, none, none, none, none, none, none, none, none, none, none, none, none, none, none, none, none, none, none, none, none, none, none, none, none, none, none, none, none, none, none, none, none, none, none, none, none, none, none, none, none, none, none, none, none, none, none, none, none, none, none, none, none, none, none, none, none, none, none, none, none, none, none, none, none, none, none, none, none, none, none, none, none, none, none, none, none, none, none, none, none, none]) (by kernel_rfl) ?_
                              exact ih42 (IntKind.i64.wrap (t35 + 1)) _ hp962 he40 _ _ hS965
                          · skip
                            have hp966 := ite_f hp943 h944
                            rcases Bool.eq_false_or_eq_true (t35 == 1) with h967 | h967
                            · skip
                              have hp968 := ite_t hp966 h967
                              have he969 : t35 = ((1 : Nat) : Int) := by simpa using h967
                              refine r_indexArrL (c := (cd6 [1, 1, 1, 0, 1, 0, 0, 1, 0, 0, 1, 1, 1, 1, 1, 1, 1, 1, 0])) (i := 7) (d := (some 110)) (ty := 0) (t := 49) (e := 36) (sz := 1) (kk := .i64) (x := (.tmp 5)) (y := (.tmp 109)) (b := b19) (o' := 0) (n := 2) (j := t35) (m := 1) (by kernel_rfl) (by kernel_rfl) (by kernel_rfl) (by kernel_rfl) (by kernel_rfl) (by kernel_rfl) he969 (by decide) ?_
                              refine r_load (c := (cd6 [1, 1, 1, 0, 1, 0, 0, 1, 0, 0, 1, 1, 1, 1, 1, 1, 1, 1, 0])) (i := 8) (d := (some 111)) (ty := 36) (t := 36) (x := (.tmp 110)) (p := ⟨b19, 1, none⟩) (v := .slice Q12 t11.length Q13) (by kernel_rfl) (by kernel_rfl) (by kernel_rfl) (loads_at 1 (hS933.blk 2 rfl) (by kernel_rfl) (by kernel_rfl)) ?_
                              obtain ⟨t970, hr971, hp972⟩ := bind_some' hp968
                              have hS973 := hS933.pick3
                              obtain ⟨Z974, hz975, hS976, hs977, hb978⟩ := hS973.lendrow len_api_Final (by omega)
                              have hS979 := hS976.pick3
                              refine r_call1 (c := (cd6 [1, 1, 1, 0, 1, 0, 0, 1, 0, 0, 1, 1, 1, 1, 1, 1, 1, 1, 0])) (i := 9) (d := (some 112)) (g := 26) (args := #[.slice Q691 t690 Q692, .slice Q12 t11.length Q13]) (by kernel_rfl) (by kernel_rfl) (by kernel_rfl) (by kernel_rfl) (weirlaw10_Back.ok t689 t690 t11 Q691 Q692 Q12 Q13 hS979 hs977 hr971) ?_
                              rintro _ w980 ⟨rfl, hS981⟩
                              refine ⟨.bool t970, rfl, ?_⟩
                              have hS982 := hb978 _ _ hS981
                              refine sx_split 1 (todo' := [.inRegion (opsOf (cd6 [1, 1, 1, 0, 1, 0, 0, 1, 0, 0, 1, 1, 1, 1, 1, 1, 1, 1, 0])) [11], .code (cd6 [1, 1, 1, 0, 1, 0, 0, 1, 0, 0, 1, 1, 1, 1, 1, 1, 1, 1, 1]), .inBlock 1, .code (cd6 [1, 1, 1, 0, 1, 0, 0, 1, 1]), .inLoop (cd6 [1, 1, 1, 0, 1, 0, 0]), .inBlock 0, .code (cd6 [1, 1, 1, 1])]) (us := []) (d := 113) (t := (!t970)) (by kernel_rfl) (fun h983 => ?_) (fun h984 => ?_)
                              · skip
                                have hp985 := ite_t hp972 h983
                                refine sx_run 7 (todo' := [.code (cd6 [1, 1, 1, 0, 1, 0, 0, 1, 0, 0, 1, 1, 1, 1, 1, 1, 1, 1, 1, 0, 1]), .inBlock 1, .code (cd6 [1, 1, 1, 0, 1, 0, 0, 1, 1]), .inLoop (cd6 [1, 1, 1, 0, 1, 0, 0]), .inBlock 0, .code (cd6 [1, 1, 1, 1])]) (us := [(114, .bool true), (4, .bool false)]) (by kernel_rfl) ?_
                                have hS986 := hS982.drop
                                have hS987 := hS986.drop
                                have hS988 := hS987.drop
                                have hS989 := hS988.drop
                                have hS990 := hS989.drop
                                refine runs_ret (fn := Try.f6) (v := .bool false) Try.func6 (by kernel_rfl) ?_
                                have hr991 := (hq45 _ (Option.some.inj hp985))
                                cases hr991
                                exact hR _ _ ⟨rfl, hS990⟩
                              · skip
                                have hp992 := ite_f hp972 h984
                                refine sx_run 10 (todo' := [.inLoop (cd6 [1, 1, 1, 0, 1, 0, 0]), .inBlock 0, .code (cd6 [1, 1, 1, 1])]) (us := [(114, .bool false), (25, .int .i64 t35), (26, .int .i64 (IntKind.i64.wrap (t35 + 1))), (6, .int .i64 (IntKind.i64.wrap (t35 + 1)))]) (by kernel_rfl) ?_
                                have hS993 := hS982.pick1
                                have hS994 := hS993.drop
                                have hS995 := hS994.pick1
                                have hS996 := hS995.drop
                                have hS997 := hS996.pick1
                                have hS998 := hS997.drop
                                have hS999 := hS998.pick1
                                refine sx_run 1 (todo' := [.code (cd6 [1, 1, 1, 0, 1, 0, 0]), .inLoop (cd6 [1, 1, 1, 0, 1, 0, 0]), .inBlock 0, .code (cd6 [1, 1, 1, 1])]) (us := []) (by kernel_rfl) ?_
                                refine Runs.fill (m := [none, some (.slice Aa1 a1.length ca1), none, none, none, some (.pointer (some ⟨b19, 0, none⟩)), some (.int .i64 (IntKind.i64.wrap (t35 + 1))), none, none, none, none, none, none, none, none, none, none, none, none, none, none, none, none, none, none, none, none, none, none, none, none, none, none, none, none, none, none, none, none, none, none, none, none, none, none, none, none, none, none, none, none, none, none, none, none, none, none, none, none, none, none, none, none, none, none, none, none, none, none, none, none, none, none, none, none, none, none, none, none, none, none, none, none, none, none, none, none, none, none, none, none, none, none, none, none, none, none, none, none, none, none, none, none, none, none, none, none, none, none, none, none, none, none, none, none]) (by kernel_rfl) ?_
                                exact ih42 (IntKind.i64.wrap (t35 + 1)) _ hp992 he40 _ _ hS999
                            · skip
                              have hp1000 := ite_f hp966 h967
                              cases hp1000
                      have L1010 : ∀ (t1001 : Int) (e1005 : Sum Unit (Sum Unit Bool)), weirlaw10_StateProjects.l3 a1 t1001 = some e1005 → e1005 = v901 → ∀ (l1004 : List Value) (w1002 : World) (hS1003 : St w0 Z (xblk b19 49 ([.slice Aa0 a0.length ca0, .slice Q12 t11.length Q13]) :: xrow Q12 Q13 24 49 (t11.flatMap enc_api_Final) :: xrow Q691 Q692 24 49 (t689.flatMap enc_api_Final) :: xrow A723 c724 3 1 (((([] : List Int) ++ a1) ++ ([(-7)] : List Int)).flatMap (encI .i64)) :: xrow Q738 Q739 24 49 (t736.flatMap enc_api_Final) :: xrow Q768 Q769 24 49 (t766.flatMap enc_api_Final) :: xrow Q792 Q793 24 49 (t790.flatMap enc_api_Final) :: fs) w1002), Runs Try.prog 6 [.code (cd6 [1, 1, 1, 0, 1, 0, 0, 1, 0, 0, 1, 1, 1, 1, 1, 1, 0, 1, 0, 0]), .inLoop (cd6 [1, 1, 1, 0, 1, 0, 0, 1, 0, 0, 1, 1, 1, 1, 1, 1, 0, 1, 0, 0]), .inBlock 2, .code (cd6 [1, 1, 1, 0, 1, 0, 0, 1, 0, 0, 1, 1, 1, 1, 1, 1, 1]), .inBlock 1, .code (cd6 [1, 1, 1, 0, 1, 0, 0, 1, 1]), .inLoop (cd6 [1, 1, 1, 0, 1, 0, 0]), .inBlock 0, .code (cd6 [1, 1, 1, 1])] (fill [none, some (.slice Aa1 a1.length ca1), none, none, none, some (.pointer (some ⟨b19, 0, none⟩)), some (.int .i64 t35), some (.slice Q691 t690 Q692), some (.slice A723 ((([] : List Int) ++ a1) ++ ([(-7)] : List Int)).length c724), some (.slice Q738 t736.length Q739), none, some (.slice Q768 t766.length Q769), none, some (.slice Q792 t790.length Q793), none, some (.int .i64 t1001), none, none, none, none, none, none, none, none, none, none, none, none, none, none, none, none, none, none, none, none, none, none, none, none, none, none, none, none, none, none, none, none, none, none, none, none, none, none, none, none, none, none, none, none, none, none, none, none, none, none, none, none, none, none, none, none, none, none, none, none, none, none, none, none, none, none, none, none, none, none, none, none, none, none, none, none, none, none, none, none, none, none, none, none, none, none, none, none, none, none, none, none, none, none, none, none, none, none, none] l1004) w1002 R := by
                        refine weirlaw10_StateProjects.l3.partial_correctness a1 (fun t1001 e1005 => e1005 = v901 → ∀ (l1004 : List Value) (w1002 : World) (hS1003 : St w0 Z (xblk b19 49 ([.slice Aa0 a0.length ca0, .slice Q12 t11.length Q13]) :: xrow Q12 Q13 24 49 (t11.flatMap enc_api_Final) :: xrow Q691 Q692 24 49 (t689.flatMap enc_api_Final) :: xrow A723 c724 3 1 (((([] : List Int) ++ a1) ++ ([(-7)] : List Int)).flatMap (encI .i64)) :: xrow Q738 Q739 24 49 (t736.flatMap enc_api_Final) :: xrow Q768 Q769 24 49 (t766.flatMap enc_api_Final) :: xrow Q792 Q793 24 49 (t790.flatMap enc_api_Final) :: fs) w1002), Runs Try.prog 6 [.code (cd6 [1, 1, 1, 0, 1, 0, 0, 1, 0, 0, 1, 1, 1, 1, 1, 1, 0, 1, 0, 0]), .inLoop (cd6 [1, 1, 1, 0, 1, 0, 0, 1, 0, 0, 1, 1, 1, 1, 1, 1, 0, 1, 0, 0]), .inBlock 2, .code (cd6 [1, 1, 1, 0, 1, 0, 0, 1, 0, 0, 1, 1, 1, 1, 1, 1, 1]), .inBlock 1, .code (cd6 [1, 1, 1, 0, 1, 0, 0, 1, 1]), .inLoop (cd6 [1, 1, 1, 0, 1, 0, 0]), .inBlock 0, .code (cd6 [1, 1, 1, 1])] (fill [none, some (.slice Aa1 a1.length ca1), none, none, none, some (.pointer (some ⟨b19, 0, none⟩)), some (.int .i64 t35), some (.slice Q691 t690 Q692), some (.slice A723 ((([] : List Int) ++ a1) ++ ([(-7)] : List Int)).length c724), some (.slice Q738 t736.length Q739), none, some (.slice Q768 t766.length Q769), none, some (.slice Q792 t790.length Q793), none, some (.int .i64 t1001), none, none, none, none, none, none, none, none, none, none, none, none, none, none, none, none, none, none, none, none, none, none, none, none, none, none, none, none, none, none, none, none, none, none, none, none, none, none, none, none, none, none, none, none, none, none, none, none, none, none, none, none, none, none, none, none, none, none, none, none, none, none, none, none, none, none, none, none, none, none, none, none, none, none, none, none, none, none, none, none, none, none, none, none, none, none, none, none, none, none, none, none, none, none, none, none, none, none, none] l1004) w1002 R) ?_
                        intro rec1009 ih1008 t1001 e1005 hb1007 he1006 l1004 w1002 hS1003
                        have hq1011 : ∀ x, Sum.inr x = e1005 → x = e39 := fun x hx => hq906 x (hx.trans he1006)
                        refine sx_split 7 (todo' := [.inRegion (opsOf (cd6 [1, 1, 1, 0, 1, 0, 0, 1, 0, 0, 1, 1, 1, 1, 1, 1, 0, 1, 0, 0, 0, 0])) [], .code (cd6 [1, 1, 1, 0, 1, 0, 0, 1, 0, 0, 1, 1, 1, 1, 1, 1, 0, 1, 0, 0, 0, 1]), .code (cd6 [1, 1, 1, 0, 1, 0, 0, 1, 0, 0, 1, 1, 1, 1, 1, 1, 0, 1, 0, 0, 1]), .inLoop (cd6 [1, 1, 1, 0, 1, 0, 0, 1, 0, 0, 1, 1, 1, 1, 1, 1, 0, 1, 0, 0]), .inBlock 2, .code (cd6 [1, 1, 1, 0, 1, 0, 0, 1, 0, 0, 1, 1, 1, 1, 1, 1, 1]), .inBlock 1, .code (cd6 [1, 1, 1, 0, 1, 0, 0, 1, 1]), .inLoop (cd6 [1, 1, 1, 0, 1, 0, 0]), .inBlock 0, .code (cd6 [1, 1, 1, 1])]) (us := [(86, .int .i64 t1001), (87, .slice Aa1 a1.length ca1), (88, .int .i64 (a1.length : Int))]) (d := 89) (t := (decide (t1001 < (a1.length : Int)))) (by kernel_rfl) (fun h1012 => ?_) (fun h1013 => ?_)
                        · skip
                          have hp1014 := ite_t hb1007 h1012
                          refine sx_run 6 (todo' := [.code (cd6 [1, 1, 1, 0, 1, 0, 0, 1, 0, 0, 1, 1, 1, 1, 1, 1, 0, 1, 0, 0, 1, 0, 0, 0]), .code (cd6 [1, 1, 1, 0, 1, 0, 0, 1, 0, 0, 1, 1, 1, 1, 1, 1, 0, 1, 0, 0, 1, 0, 0, 1]), .inBlock 3, .code (cd6 [1, 1, 1, 0, 1, 0, 0, 1, 0, 0, 1, 1, 1, 1, 1, 1, 0, 1, 0, 0, 1, 1]), .inLoop (cd6 [1, 1, 1, 0, 1, 0, 0, 1, 0, 0, 1, 1, 1, 1, 1, 1, 0, 1, 0, 0]), .inBlock 2, .code (cd6 [1, 1, 1, 0, 1, 0, 0, 1, 0, 0, 1, 1, 1, 1, 1, 1, 1]), .inBlock 1, .code (cd6 [1, 1, 1, 0, 1, 0, 0, 1, 1]), .inLoop (cd6 [1, 1, 1, 0, 1, 0, 0]), .inBlock 0, .code (cd6 [1, 1, 1, 1])]) (us := []) (by kernel_rfl) ?_
                          refine r_quiet hS1003 (c := (cd6 [1, 1, 1, 0, 1, 0, 0, 1, 0, 0, 1, 1, 1, 1, 1, 1, 0, 1, 0, 0, 1, 0, 0, 0])) (id := 17) (by kernel_rfl) (by kernel_rfl) (by kernel_rfl) (is := [0, 1, 2, 3, 4, 5, 6, 7, 8]) (by kernel_rfl) ?_
                          refine q_run 2 (is' := [2, 3, 4, 5, 6, 7, 8]) (us := [(92, .slice A723 ((([] : List Int) ++ a1) ++ ([(-7)] : List Int)).length c724), (93, .int .i64 t1001)]) (by kernel_rfl) ?_
                          obtain ⟨g1015, hp1016⟩ := ite_some hp1014
                          obtain ⟨b1017, p1018, hA1019, -⟩ := (hS1003.row 3 rfl).at_ (len_encI .i64) (by omega) g1015.1 g1015.2
                          refine q_indexAddr (c := (cd6 [1, 1, 1, 0, 1, 0, 0, 1, 0, 0, 1, 1, 1, 1, 1, 1, 0, 1, 0, 0, 1, 0, 0, 0])) (i := 2) (d := (some 94)) (ty := 0) (t := 48) (e := 3) (n := ((([] : List Int) ++ a1) ++ ([(-7)] : List Int)).length) (cp := c724) (sz := 1) (kk := .i64) (x := (.tmp 92)) (y := (.tmp 93)) (b := b1017) (o' := p1018) (j := t1001) (by kernel_rfl) (by kernel_rfl) (slv (by kernel_rfl) hA1019) (by kernel_rfl) (by kernel_rfl) (by kernel_rfl) g1015.1 g1015.2 ?_
                          refine q_load (c := (cd6 [1, 1, 1, 0, 1, 0, 0, 1, 0, 0, 1, 1, 1, 1, 1, 1, 0, 1, 0, 0, 1, 0, 0, 0])) (i := 3) (d := (some 95)) (ty := 3) (t := 3) (x := (.tmp 94)) (p := ⟨b1017, p1018 + t1001.toNat * 1, none⟩) (v := .int .i64 (gt ((([] : List Int) ++ a1) ++ ([(-7)] : List Int)) t1001)) (by kernel_rfl) (by kernel_rfl) (by kernel_rfl) (fun w hC => (loads_at 0 ((hC.row 3 rfl).at2 hA1019 (len_encI .i64) (by omega) g1015.1 g1015.2) (by kernel_rfl) (by kernel_rfl))) ?_
                          refine q_run 2 (is' := [6, 7, 8]) (us := [(96, .slice Aa1 a1.length ca1), (97, .int .i64 t1001)]) (by kernel_rfl) ?_
                          obtain ⟨g1021, hp1022⟩ := ite_some hp1016
                          obtain ⟨b1023, p1024, hA1025, hc1026⟩ := ha1.atF g1021.1 g1021.2
                          refine q_indexAddr (c := (cd6 [1, 1, 1, 0, 1, 0, 0, 1, 0, 0, 1, 1, 1, 1, 1, 1, 0, 1, 0, 0, 1, 0, 0, 0])) (i := 6) (d := (some 98)) (ty := 0) (t := 48) (e := 3) (n := a1.length) (cp := ca1) (sz := 1) (kk := .i64) (x := (.tmp 96)) (y := (.tmp 97)) (b := b1023) (o' := p1024) (j := t1001) (by kernel_rfl) (by kernel_rfl) (slv (by kernel_rfl) hA1025) (by kernel_rfl) (by kernel_rfl) (by kernel_rfl) g1021.1 g1021.2 ?_
                          refine q_load (c := (cd6 [1, 1, 1, 0, 1, 0, 0, 1, 0, 0, 1, 1, 1, 1, 1, 1, 0, 1, 0, 0, 1, 0, 0, 0])) (i := 7) (d := (some 99)) (ty := 3) (t := 3) (x := (.tmp 98)) (p := ⟨b1023, p1024 + t1001.toNat * 1, none⟩) (v := .int .i64 (gt a1 t1001)) (by kernel_rfl) (by kernel_rfl) (by kernel_rfl) (fun w hC => (loads_at 0 (hc1026.cells hC) (by kernel_rfl) (by kernel_rfl))) ?_
                          refine q_splitr 1 (is' := []) (us := []) (d := 100) (t := ((gt ((([] : List Int) ++ a1) ++ ([(-7)] : List Int)) t1001) != (gt a1 t1001))) (by kernel_rfl) (fun h1027 => ?_) (fun h1028 => ?_)
                          · skip
                            have hp1029 := ite_t hp1022 h1027
                            refine Qs.nil ?_
                            intro w1030 hS1031
                            refine sx_run 5 (todo' := [.code (cd6 [1, 1, 1, 0, 1, 0, 0, 1, 0, 0, 1, 1, 1, 1, 1, 1, 0, 1, 0, 0, 1, 0, 0, 1, 0, 1]), .inBlock 3, .code (cd6 [1, 1, 1, 0, 1, 0, 0, 1, 0, 0, 1, 1, 1, 1, 1, 1, 0, 1, 0, 0, 1, 1]), .inLoop (cd6 [1, 1, 1, 0, 1, 0, 0, 1, 0, 0, 1, 1, 1, 1, 1, 1, 0, 1, 0, 0]), .inBlock 2, .code (cd6 [1, 1, 1, 0, 1, 0, 0, 1, 0, 0, 1, 1, 1, 1, 1, 1, 1]), .inBlock 1, .code (cd6 [1, 1, 1, 0, 1, 0, 0, 1, 1]), .inLoop (cd6 [1, 1, 1, 0, 1, 0, 0]), .inBlock 0, .code (cd6 [1, 1, 1, 1])]) (us := [(4, .bool false)]) (by kernel_rfl) ?_
                            have hS1032 := hS1031.drop
                            have hS1033 := hS1032.drop
                            have hS1034 := hS1033.drop
                            have hS1035 := hS1034.drop
                            have hS1036 := hS1035.drop
                            have hS1037 := hS1036.drop
                            have hS1038 := hS1037.drop
                            refine runs_ret (fn := Try.f6) (v := .bool false) Try.func6 (by kernel_rfl) ?_
                            have hr1039 := (hq45 _ (hq1011 _ (Option.some.inj hp1029)))
                            cases hr1039
                            exact hR _ _ ⟨rfl, hS1038⟩
                          · skip
                            have hp1040 := ite_f hp1022 h1028
                            refine Qs.nil ?_
                            intro w1041 hS1042
                            refine sx_run 8 (todo' := [.inLoop (cd6 [1, 1, 1, 0, 1, 0, 0, 1, 0, 0, 1, 1, 1, 1, 1, 1, 0, 1, 0, 0]), .inBlock 2, .code (cd6 [1, 1, 1, 0, 1, 0, 0, 1, 0, 0, 1, 1, 1, 1, 1, 1, 1]), .inBlock 1, .code (cd6 [1, 1, 1, 0, 1, 0, 0, 1, 1]), .inLoop (cd6 [1, 1, 1, 0, 1, 0, 0]), .inBlock 0, .code (cd6 [1, 1, 1, 1])]) (us := [(90, .int .i64 t1001), (91, .int .i64 (IntKind.i64.wrap (t1001 + 1))), (15, .int .i64 (IntKind.i64.wrap (t1001 + 1)))]) (by kernel_rfl) ?_
                            refine sx_run 1 (todo' := [.code (cd6 [1, 1, 1, 0, 1, 0, 0, 1, 0, 0, 1, 1, 1, 1, 1, 1, 0, 1, 0, 0]), .inLoop (cd6 [1, 1, 1, 0, 1, 0, 0, 1, 0, 0, 1, 1, 1, 1, 1, 1, 0, 1, 0, 0]), .inBlock 2, .code (cd6 [1, 1, 1, 0, 1, 0, 0, 1, 0, 0, 1, 1, 1, 1, 1, 1, 1]), .inBlock 1, .code (cd6 [1, 1, 1, 0, 1, 0, 0, 1, 1]), .inLoop (cd6 [1, 1, 1, 0, 1, 0, 0]), .inBlock 0, .code (cd6 [1, 1, 1, 1])]) (us := []) (by kernel_rfl) ?_
                            refine Runs.fill (m := [none, some (.slice Aa1 a1.length ca1), none, none, none, some (.pointer (some ⟨b19, 0, none⟩)), some (.int .i64 t35), some (.slice Q691 t690 Q692), some (.slice A723 ((([] : List Int) ++ a1) ++ ([(-7)] : List Int)).length c724), some (.slice Q738 t736.length Q739), none, some (.slice Q768 t766.length Q769), none, some (.slice Q792 t790.length Q793), none, some (.int .i64 (IntKind.i64.wrap (t1001 + 1))), none, none, none, none, none, none, none, none, none, none, none, none, none, none, none, none, none, none, none, none, none, none, none, none, none, none, none, none, none, none, none, none, none, none, none, none, none, none, none, none, none, none, none, none, none, none, none, none, none, none, none, none, none, none, none, none, none, none, none, none, none, none, none, none, none, none, none, none, none, none, none, none, none, none, none, none, none, none, none, none, none, none, none, none, none, none, none, none, none, none, none, none, none, none, none, none, none, none, none]) (by kernel_rfl) ?_
                            exact ih1008 (IntKind.i64.wrap (t1001 + 1)) _ hp1040 he1006 _ _ hS1042
                        · skip
                          have hp1043 := ite_f hb1007 h1013
                          refine sx_run 3 (todo' := [.code (cd6 [1, 1, 1, 0, 1, 0, 0, 1, 0, 0, 1, 1, 1, 1, 1, 1, 1]), .inBlock 1, .code (cd6 [1, 1, 1, 0, 1, 0, 0, 1, 1]), .inLoop (cd6 [1, 1, 1, 0, 1, 0, 0]), .inBlock 0, .code (cd6 [1, 1, 1, 1])]) (us := []) (by kernel_rfl) ?_
                          have hS1044 := hS1003.pick3
                          have hS1045 := hS1044.drop
                          refine Runs.fill (m := [none, some (.slice Aa1 a1.length ca1), none, none, none, some (.pointer (some ⟨b19, 0, none⟩)), some (.int .i64 t35), some (.slice Q691 t690 Q692), none, some (.slice Q738 t736.length Q739), none, some (.slice Q768 t766.length Q769), none, some (.slice Q792 t790.length Q793), none, none, none, none, none, none, none, none, none, none, none, none, none, none, none, none, none, none, none, none, none, none, none, none, none, none, none, none, none, none, none, none, none, none, none, none, none, none, none, none, none, none, none, none, none, none, none, none, none, none, none, none, none, none, none, none, none, none, none, none, none, none, none, none, none, none, none, none, none, none, none, none, none, none, none, none, none, none, none, none, none, none, none, none, none, none, none, none, none, none, none, none, none, none, none, none, none, none, none, none, none]) (by kernel_rfl) ?_
                          exact J907 ((Option.some.inj hp1043).trans he1006) _ _ hS1045
                      have hS1046 := hS900.pick1
                      have hS1047 := hS1046.pick1
                      have hS1048 := hS1047.pick2
                      have hS1049 := hS1048.pick4
                      have hS1050 := hS1049.pick4
                      have hS1051 := hS1050.pick5
                      have hS1052 := hS1051.pick6
                      refine Runs.fill (m := [none, some (.slice Aa1 a1.length ca1), none, none, none, some (.pointer (some ⟨b19, 0, none⟩)), some (.int .i64 t35), some (.slice Q691 t690 Q692), some (.slice A723 ((([] : List Int) ++ a1) ++ ([(-7)] : List Int)).length c724), some (.slice Q738 t736.length Q739), none, some (.slice Q768 t766.length Q769), none, some (.slice Q792 t790.length Q793), none, some (.int .i64 0), none, none, none, none, none, none, none, none, none, none, none, none, none, none, none, none, none, none, none, none, none, none, none, none, none, none, none, none, none, none, none, none, none, none, none, none, none, none, none, none, none, none, none, none, none, none, none, none, none, none, none, none, none, none, none, none, none, none, none, none, none, none, none, none, none, none, none, none, none, none, none, none, none, none, none, none, none, none, none, none, none, none, none, none, none, none, none, none, none, none, none, none, none, none, none, none, none, none, none]) (by kernel_rfl) ?_
                      exact L1010 0 _ hv902 rfl _ _ hS1052
            · skip
              have hp1053 := ite_f hp771 h787
              rcases Bool.eq_false_or_eq_true (t35 == 1) with h1054 | h1054
              · skip
                have hp1055 := ite_t hp1053 h1054
                have he1056 : t35 = ((1 : Nat) : Int) := by simpa using h1054
                refine r_indexArrL (c := (cd6 [1, 1, 1, 0, 1, 0, 0, 1, 0, 0, 1, 1, 1, 1, 0])) (i := 1) (d := (some 56)) (ty := 0) (t := 49) (e := 36) (sz := 1) (kk := .i64) (x := (.tmp 5)) (y := (.tmp 55)) (b := b19) (o' := 0) (n := 2) (j := t35) (m := 1) (by kernel_rfl) (by kernel_rfl) (by kernel_rfl) (by kernel_rfl) (by kernel_rfl) (by kernel_rfl) he1056 (by decide) ?_
                refine r_load (c := (cd6 [1, 1, 1, 0, 1, 0, 0, 1, 0, 0, 1, 1, 1, 1, 0])) (i := 2) (d := (some 57)) (ty := 36) (t := 36) (x := (.tmp 56)) (p := ⟨b19, 1, none⟩) (v := .slice Q12 t11.length Q13) (by kernel_rfl) (by kernel_rfl) (by kernel_rfl) (loads_at 1 (hS786.blk 6 rfl) (by kernel_rfl) (by kernel_rfl)) ?_
                refine sx_run 1 (todo' := [.inRegion (opsOf (cd6 [1, 1, 1, 0, 1, 0, 0, 1, 0, 0, 1, 1, 1, 1, 0])) [4, 5, 6, 7, 8, 9], .code (cd6 [1, 1, 1, 0, 1, 0, 0, 1, 0, 0, 1, 1, 1, 1, 1]), .inBlock 1, .code (cd6 [1, 1, 1, 0, 1, 0, 0, 1, 1]), .inLoop (cd6 [1, 1, 1, 0, 1, 0, 0]), .inBlock 0, .code (cd6 [1, 1, 1, 1])]) (us := [(58, .slice Aa1 a1.length ca1)]) (by kernel_rfl) ?_
                obtain ⟨⟨t1057, t1058⟩, hr1061, hp1062⟩ := bind_some' hp1055
                try dsimp only at hp1062
                have hS1064 := hS786.pick5
                obtain ⟨Z1065, hz1066, hS1067, hs1068, hb1069⟩ := hS1064.lendrow len_api_Final (by omega)
                refine r_call1 (c := (cd6 [1, 1, 1, 0, 1, 0, 0, 1, 0, 0, 1, 1, 1, 1, 0])) (i := 4) (d := (some 59)) (g := 29) (args := #[.slice Q12 t11.length Q13, .slice Aa1 a1.length ca1]) (by kernel_rfl) (by kernel_rfl) (by kernel_rfl) (by kernel_rfl) (weirref10_Project.ok t11 a1 Q12 Q13 Aa1 ca1 hS1067 hs1068 (ha1.up hz1066) hr1061) ?_
                rintro _ w1070 ⟨Q1059, Q1060, rfl, hS1071⟩
                refine ⟨.tuple #[.slice Q1059 t1057.length Q1060, .int .i64 t1058], rfl, ?_⟩
                have hS1072 := hb1069 _ _ hS1071
                refine sx_run 10 (todo' := [.inRegion (opsOf (cd6 [1, 1, 1, 0, 1, 0, 0, 1, 0, 0, 1, 1, 1, 1, 1, 0, 0])) [1, 2, 3, 4, 5, 6, 7, 8, 9, 10, 11, 12, 13, 14, 15, 16, 17, 18, 19, 20, 21, 22, 23], .code (cd6 [1, 1, 1, 0, 1, 0, 0, 1, 0, 0, 1, 1, 1, 1, 1, 0, 1]), .code (cd6 [1, 1, 1, 0, 1, 0, 0, 1, 0, 0, 1, 1, 1, 1, 1, 1]), .inBlock 1, .code (cd6 [1, 1, 1, 0, 1, 0, 0, 1, 1]), .inLoop (cd6 [1, 1, 1, 0, 1, 0, 0]), .inBlock 0, .code (cd6 [1, 1, 1, 1])]) (us := [(54, .tuple #[.slice Q1059 t1057.length Q1060, .int .i64 t1058]), (60, .slice Q1059 t1057.length Q1060), (61, .int .i64 t1058), (13, .slice Q1059 t1057.length Q1060), (14, .int .i64 t1058), (62, .int .i64 t737)]) (by kernel_rfl) ?_
                obtain ⟨t1073, hr1074, hp1075⟩ := bind_some' hp1062
                refine r_call1 (c := (cd6 [1, 1, 1, 0, 1, 0, 0, 1, 0, 0, 1, 1, 1, 1, 1, 0, 0])) (i := 1) (d := (some 63)) (g := 11) (args := #[.int .i64 t737]) (by kernel_rfl) (by kernel_rfl) (by kernel_rfl) (by kernel_rfl) (weirlaw10_num.ok t737 hS1072 hr1074) ?_
                rintro _ w1076 ⟨rfl, hS1077⟩
                refine ⟨.int .i64 t1073, rfl, ?_⟩
                refine sx_split 2 (todo' := [.inRegion (opsOf (cd6 [1, 1, 1, 0, 1, 0, 0, 1, 0, 0, 1, 1, 1, 1, 1, 0, 0])) [4, 5, 6, 7, 8, 9, 10, 11, 12, 13, 14, 15, 16, 17, 18, 19, 20, 21, 22, 23], .code (cd6 [1, 1, 1, 0, 1, 0, 0, 1, 0, 0, 1, 1, 1, 1, 1, 0, 1]), .code (cd6 [1, 1, 1, 0, 1, 0, 0, 1, 0, 0, 1, 1, 1, 1, 1, 1]), .inBlock 1, .code (cd6 [1, 1, 1, 0, 1, 0, 0, 1, 1]), .inLoop (cd6 [1, 1, 1, 0, 1, 0, 0]), .inBlock 0, .code (cd6 [1, 1, 1, 1])]) (us := [(64, .int .i64 t1058)]) (d := 65) (t := (t1073 != t1058)) (by kernel_rfl) (fun h1078 => ?_) (fun h1079 => ?_)
                · skip
                  have hp1080 := ite_t hp1075 h1078
                  refine sx_run 26 (todo' := [.code (cd6 [1, 1, 1, 0, 1, 0, 0, 1, 0, 0, 1, 1, 1, 1, 1, 0, 1, 0, 1]), .code (cd6 [1, 1, 1, 0, 1, 0, 0, 1, 0, 0, 1, 1, 1, 1, 1, 1]), .inBlock 1, .code (cd6 [1, 1, 1, 0, 1, 0, 0, 1, 1]), .inLoop (cd6 [1, 1, 1, 0, 1, 0, 0]), .inBlock 0, .code (cd6 [1, 1, 1, 1])]) (us := [(66, .bool true), (67, undef), (68, undef), (69, undef), (70, undef), (71, .bool true), (72, .bool true), (73, undef), (74, undef), (75, undef), (76, undef), (77, .bool true), (78, .bool true), (79, undef), (80, undef), (81, undef), (82, undef), (83, undef), (84, undef), (85, .bool true), (4, .bool false)]) (by kernel_rfl) ?_
                  have hS1081 := hS1077.drop
                  have hS1082 := hS1081.drop
                  have hS1083 := hS1082.drop
                  have hS1084 := hS1083.drop
                  have hS1085 := hS1084.drop
                  have hS1086 := hS1085.drop
                  have hS1087 := hS1086.drop
                  have hS1088 := hS1087.drop
                  refine runs_ret (fn := Try.f6) (v := .bool false) Try.func6 (by kernel_rfl) ?_
                  have hr1089 := (hq45 _ (Option.some.inj hp1080))
                  cases hr1089
                  exact hR _ _ ⟨rfl, hS1088⟩
                · skip
                  have hp1090 := ite_f hp1075 h1079
                  refine sx_run 3 (todo' := [.inRegion (opsOf (cd6 [1, 1, 1, 0, 1, 0, 0, 1, 0, 0, 1, 1, 1, 1, 1, 0, 0])) [7, 8, 9, 10, 11, 12, 13, 14, 15, 16, 17, 18, 19, 20, 21, 22, 23], .code (cd6 [1, 1, 1, 0, 1, 0, 0, 1, 0, 0, 1, 1, 1, 1, 1, 0, 1]), .code (cd6 [1, 1, 1, 0, 1, 0, 0, 1, 0, 0, 1, 1, 1, 1, 1, 1]), .inBlock 1, .code (cd6 [1, 1, 1, 0, 1, 0, 0, 1, 1]), .inLoop (cd6 [1, 1, 1, 0, 1, 0, 0]), .inBlock 0, .code (cd6 [1, 1, 1, 1])]) (us := [(66, .bool false), (67, .slice Q738 t736.length Q739), (68, .slice Q1059 t1057.length Q1060)]) (by kernel_rfl) ?_
                  obtain ⟨t1091, hr1092, hp1093⟩ := bind_some' hp1090
                  have hS1094 := hS1077.pick5
                  obtain ⟨Z1095, hz1096, hS1097, hs1098, hb1099⟩ := hS1094.lendrow len_api_Final (by omega)
                  have hS1100 := hS1097.pick1
                  obtain ⟨Z1101, hz1102, hS1103, hs1104, hb1105⟩ := hS1100.lendrow len_api_Final (by omega)
                  refine r_call1 (c := (cd6 [1, 1, 1, 0, 1, 0, 0, 1, 0, 0, 1, 1, 1, 1, 1, 0, 0])) (i := 7) (d := (some 69)) (g := 25) (args := #[.slice Q738 t736.length Q739, .slice Q1059 t1057.length Q1060]) (by kernel_rfl) (by kernel_rfl) (by kernel_rfl) (by kernel_rfl) (weirlaw10_Same.ok t736 t1057 Q738 Q739 Q1059 Q1060 hS1103 (hs1098.up hz1102) hs1104 hr1092) ?_
                  rintro _ w1106 ⟨rfl, hS1107⟩
                  refine ⟨.bool t1091, rfl, ?_⟩
                  have hS1108 := hb1105 _ _ hS1107
                  have hS1109 := hb1099 _ _ hS1108
                  refine sx_split 1 (todo' := [.inRegion (opsOf (cd6 [1, 1, 1, 0, 1, 0, 0, 1, 0, 0, 1, 1, 1, 1, 1, 0, 0])) [9, 10, 11, 12, 13, 14, 15, 16, 17, 18, 19, 20, 21, 22, 23], .code (cd6 [1, 1, 1, 0, 1, 0, 0, 1, 0, 0, 1, 1, 1, 1, 1, 0, 1]), .code (cd6 [1, 1, 1, 0, 1, 0, 0, 1, 0, 0, 1, 1, 1, 1, 1, 1]), .inBlock 1, .code (cd6 [1, 1, 1, 0, 1, 0, 0, 1, 1]), .inLoop (cd6 [1, 1, 1, 0, 1, 0, 0]), .inBlock 0, .code (cd6 [1, 1, 1, 1])]) (us := []) (d := 70) (t := (!t1091)) (by kernel_rfl) (fun h1110 => ?_) (fun h1111 => ?_)
                  · skip
                    have hp1112 := ite_t hp1093 h1110
                    refine sx_run 21 (todo' := [.code (cd6 [1, 1, 1, 0, 1, 0, 0, 1, 0, 0, 1, 1, 1, 1, 1, 0, 1, 0, 1]), .code (cd6 [1, 1, 1, 0, 1, 0, 0, 1, 0, 0, 1, 1, 1, 1, 1, 1]), .inBlock 1, .code (cd6 [1, 1, 1, 0, 1, 0, 0, 1, 1]), .inLoop (cd6 [1, 1, 1, 0, 1, 0, 0]), .inBlock 0, .code (cd6 [1, 1, 1, 1])]) (us := [(71, .bool true), (72, .bool true), (73, undef), (74, undef), (75, undef), (76, undef), (77, .bool true), (78, .bool true), (79, undef), (80, undef), (81, undef), (82, undef), (83, undef), (84, undef), (85, .bool true), (4, .bool false)]) (by kernel_rfl) ?_
                    have hS1113 := hS1109.drop
                    have hS1114 := hS1113.drop
                    have hS1115 := hS1114.drop
                    have hS1116 := hS1115.drop
                    have hS1117 := hS1116.drop
                    have hS1118 := hS1117.drop
                    have hS1119 := hS1118.drop
                    have hS1120 := hS1119.drop
                    refine runs_ret (fn := Try.f6) (v := .bool false) Try.func6 (by kernel_rfl) ?_
                    have hr1121 := (hq45 _ (Option.some.inj hp1112))
                    cases hr1121
                    exact hR _ _ ⟨rfl, hS1120⟩
                  · skip
                    have hp1122 := ite_f hp1093 h1111
                    refine sx_run 4 (todo' := [.inRegion (opsOf (cd6 [1, 1, 1, 0, 1, 0, 0, 1, 0, 0, 1, 1, 1, 1, 1, 0, 0])) [13, 14, 15, 16, 17, 18, 19, 20, 21, 22, 23], .code (cd6 [1, 1, 1, 0, 1, 0, 0, 1, 0, 0, 1, 1, 1, 1, 1, 0, 1]), .code (cd6 [1, 1, 1, 0, 1, 0, 0, 1, 0, 0, 1, 1, 1, 1, 1, 1]), .inBlock 1, .code (cd6 [1, 1, 1, 0, 1, 0, 0, 1, 1]), .inLoop (cd6 [1, 1, 1, 0, 1, 0, 0]), .inBlock 0, .code (cd6 [1, 1, 1, 1])]) (us := [(71, .bool false), (72, .bool false), (73, .slice Q768 t766.length Q769), (74, .slice Q1059 t1057.length Q1060)]) (by kernel_rfl) ?_
                    obtain ⟨t1123, hr1124, hp1125⟩ := bind_some' hp1122
                    have hS1126 := hS1109.pick5
                    obtain ⟨Z1127, hz1128, hS1129, hs1130, hb1131⟩ := hS1126.lendrow len_api_Final (by omega)
                    have hS1132 := hS1129.pick1
                    obtain ⟨Z1133, hz1134, hS1135, hs1136, hb1137⟩ := hS1132.lendrow len_api_Final (by omega)
                    refine r_call1 (c := (cd6 [1, 1, 1, 0, 1, 0, 0, 1, 0, 0, 1, 1, 1, 1, 1, 0, 0])) (i := 13) (d := (some 75)) (g := 25) (args := #[.slice Q768 t766.length Q769, .slice Q1059 t1057.length Q1060]) (by kernel_rfl) (by kernel_rfl) (by kernel_rfl) (by kernel_rfl) (weirlaw10_Same.ok t766 t1057 Q768 Q769 Q1059 Q1060 hS1135 (hs1130.up hz1134) hs1136 hr1124) ?_
                    rintro _ w1138 ⟨rfl, hS1139⟩
                    refine ⟨.bool t1123, rfl, ?_⟩
                    have hS1140 := hb1137 _ _ hS1139
                    have hS1141 := hb1131 _ _ hS1140
                    refine sx_split 1 (todo' := [.inRegion (opsOf (cd6 [1, 1, 1, 0, 1, 0, 0, 1, 0, 0, 1, 1, 1, 1, 1, 0, 0])) [15, 16, 17, 18, 19, 20, 21, 22, 23], .code (cd6 [1, 1, 1, 0, 1, 0, 0, 1, 0, 0, 1, 1, 1, 1, 1, 0, 1]), .code (cd6 [1, 1, 1, 0, 1, 0, 0, 1, 0, 0, 1, 1, 1, 1, 1, 1]), .inBlock 1, .code (cd6 [1, 1, 1, 0, 1, 0, 0, 1, 1]), .inLoop (cd6 [1, 1, 1, 0, 1, 0, 0]), .inBlock 0, .code (cd6 [1, 1, 1, 1])]) (us := []) (d := 76) (t := (!t1123)) (by kernel_rfl) (fun h1142 => ?_) (fun h1143 => ?_)
                    · skip
                      have hp1144 := ite_t hp1125 h1142
                      refine sx_run 15 (todo' := [.code (cd6 [1, 1, 1, 0, 1, 0, 0, 1, 0, 0, 1, 1, 1, 1, 1, 0, 1, 0, 1]), .code (cd6 [1, 1, 1, 0, 1, 0, 0, 1, 0, 0, 1, 1, 1, 1, 1, 1]), .inBlock 1, .code (cd6 [1, 1, 1, 0, 1, 0, 0, 1, 1]), .inLoop (cd6 [1, 1, 1, 0, 1, 0, 0]), .inBlock 0, .code (cd6 [1, 1, 1, 1])]) (us := [(77, .bool true), (78, .bool true), (79, undef), (80, undef), (81, undef), (82, undef), (83, undef), (84, undef), (85, .bool true), (4, .bool false)]) (by kernel_rfl) ?_
                      have hS1145 := hS1141.drop
                      have hS1146 := hS1145.drop
                      have hS1147 := hS1146.drop
                      have hS1148 := hS1147.drop
                      have hS1149 := hS1148.drop
                      have hS1150 := hS1149.drop
                      have hS1151 := hS1150.drop
                      have hS1152 := hS1151.drop
                      refine runs_ret (fn := Try.f6) (v := .bool false) Try.func6 (by kernel_rfl) ?_
                      have hr1153 := (hq45 _ (Option.some.inj hp1144))
                      cases hr1153
                      exact hR _ _ ⟨rfl, hS1152⟩
                    · skip
                      have hp1154 := ite_f hp1125 h1143
                      refine sx_run 5 (todo' := [.inRegion (opsOf (cd6 [1, 1, 1, 0, 1, 0, 0, 1, 0, 0, 1, 1, 1, 1, 1, 0, 0])) [20, 21, 22, 23], .code (cd6 [1, 1, 1, 0, 1, 0, 0, 1, 0, 0, 1, 1, 1, 1, 1, 0, 1]), .code (cd6 [1, 1, 1, 0, 1, 0, 0, 1, 0, 0, 1, 1, 1, 1, 1, 1]), .inBlock 1, .code (cd6 [1, 1, 1, 0, 1, 0, 0, 1, 1]), .inLoop (cd6 [1, 1, 1, 0, 1, 0, 0]), .inBlock 0, .code (cd6 [1, 1, 1, 1])]) (us := [(77, .bool false), (78, .bool false), (79, .slice A723 ((([] : List Int) ++ a1) ++ ([(-7)] : List Int)).length c724), (80, .slice Aa1 a1.length ca1), (81, .int .i64 (a1.length : Int))]) (by kernel_rfl) ?_
                      obtain ⟨g1155, hp1156⟩ := ite_some hp1154
                      obtain ⟨b1157, p1158, hA1159, -⟩ := (hS1141.row 5 rfl).at_ (len_encI .i64) (by omega) g1155.1 g1155.2
                      refine r_indexAddr (c := (cd6 [1, 1, 1, 0, 1, 0, 0, 1, 0, 0, 1, 1, 1, 1, 1, 0, 0])) (i := 20) (d := (some 82)) (ty := 0) (t := 48) (e := 3) (n := ((([] : List Int) ++ a1) ++ ([(-7)] : List Int)).length) (cp := c724) (sz := 1) (kk := .i64) (x := (.tmp 79)) (y := (.tmp 81)) (b := b1157) (o' := p1158) (j := (a1.length : Int)) (by kernel_rfl) (by kernel_rfl) (slv (by kernel_rfl) hA1159) (by kernel_rfl) (by kernel_rfl) (by kernel_rfl) g1155.1 g1155.2 ?_
                      refine r_load (c := (cd6 [1, 1, 1, 0, 1, 0, 0, 1, 0, 0, 1, 1, 1, 1, 1, 0, 0])) (i := 21) (d := (some 83)) (ty := 3) (t := 3) (x := (.tmp 82)) (p := ⟨b1157, p1158 + (a1.length : Int).toNat * 1, none⟩) (v := .int .i64 (gt ((([] : List Int) ++ a1) ++ ([(-7)] : List Int)) (a1.length : Int))) (by kernel_rfl) (by kernel_rfl) (by kernel_rfl) (loads_at 0 ((hS1141.row 5 rfl).at2 hA1159 (len_encI .i64) (by omega) g1155.1 g1155.2) (by kernel_rfl) (by kernel_rfl)) ?_
                      refine sx_split 1 (todo' := [.inRegion (opsOf (cd6 [1, 1, 1, 0, 1, 0, 0, 1, 0, 0, 1, 1, 1, 1, 1, 0, 0])) [23], .code (cd6 [1, 1, 1, 0, 1, 0, 0, 1, 0, 0, 1, 1, 1, 1, 1, 0, 1]), .code (cd6 [1, 1, 1, 0, 1, 0, 0, 1, 0, 0, 1, 1, 1, 1, 1, 1]), .inBlock 1, .code (cd6 [1, 1, 1, 0, 1, 0, 0, 1, 1]), .inLoop (cd6 [1, 1, 1, 0, 1, 0, 0]), .inBlock 0, .code (cd6 [1, 1, 1, 1])]) (us := []) (d := 84) (t := ((gt ((([] : List Int) ++ a1) ++ ([(-7)] : List Int)) (a1.length : Int)) != (-7))) (by kernel_rfl) (fun h1161 => ?_) (fun h1162 => ?_)
                      · skip
                        have hp1163 := ite_t hp1156 h1161
                        refine sx_run 7 (todo' := [.code (cd6 [1, 1, 1, 0, 1, 0, 0, 1, 0, 0, 1, 1, 1, 1, 1, 0, 1, 0, 1]), .code (cd6 [1, 1, 1, 0, 1, 0, 0, 1, 0, 0, 1, 1, 1, 1, 1, 1]), .inBlock 1, .code (cd6 [1, 1, 1, 0, 1, 0, 0, 1, 1]), .inLoop (cd6 [1, 1, 1, 0, 1, 0, 0]), .inBlock 0, .code (cd6 [1, 1, 1, 1])]) (us := [(85, .bool true), (4, .bool false)]) (by kernel_rfl) ?_
                        have hS1164 := hS1141.drop
                        have hS1165 := hS1164.drop
                        have hS1166 := hS1165.drop
                        have hS1167 := hS1166.drop
                        have hS1168 := hS1167.drop
                        have hS1169 := hS1168.drop
                        have hS1170 := hS1169.drop
                        have hS1171 := hS1170.drop
                        refine runs_ret (fn := Try.f6) (v := .bool false) Try.func6 (by kernel_rfl) ?_
                        have hr1172 := (hq45 _ (Option.some.inj hp1163))
                        cases hr1172
                        exact hR _ _ ⟨rfl, hS1171⟩
                      · skip
                        have hp1173 := ite_f hp1156 h1162
                        refine sx_run 11 (todo' := [.code (cd6 [1, 1, 1, 0, 1, 0, 0, 1, 0, 0, 1, 1, 1, 1, 1, 1, 0, 1, 0, 0]), .inLoop (cd6 [1, 1, 1, 0, 1, 0, 0, 1, 0, 0, 1, 1, 1, 1, 1, 1, 0, 1, 0, 0]), .inBlock 2, .code (cd6 [1, 1, 1, 0, 1, 0, 0, 1, 0, 0, 1, 1, 1, 1, 1, 1, 1]), .inBlock 1, .code (cd6 [1, 1, 1, 0, 1, 0, 0, 1, 1]), .inLoop (cd6 [1, 1, 1, 0, 1, 0, 0]), .inBlock 0, .code (cd6 [1, 1, 1, 1])]) (us := [(85, .bool false), (15, .int .i64 0)]) (by kernel_rfl) ?_
                        have hS1174 := hS1141.pick6
                        have hS1175 := hS1174.drop
                        obtain ⟨v1176, hv1177, hp1178⟩ := bind_some' hp1173
                        have hq1181 : ∀ x, Sum.inr x = v1176 → x = e39 := by intro x hx; subst hx; simpa using hp1178
                        have J1182 : ∀ (he1184 : Sum.inl () = v1176) (l1183 : List Value) (w1179 : World) (hS1180 : St w0 Z (xblk b19 49 ([.slice Aa0 a0.length ca0, .slice Q12 t11.length Q13]) :: xrow Q12 Q13 24 49 (t11.flatMap enc_api_Final) :: xrow Q691 Q692 24 49 (t689.flatMap enc_api_Final) :: xrow Q738 Q739 24 49 (t736.flatMap enc_api_Final) :: xrow Q768 Q769 24 49 (t766.flatMap enc_api_Final) :: xrow Q1059 Q1060 24 49 (t1057.flatMap enc_api_Final) :: fs) w1179), Runs Try.prog 6 [.code (cd6 [1, 1, 1, 0, 1, 0, 0, 1, 0, 0, 1, 1, 1, 1, 1, 1, 1]), .inBlock 1, .code (cd6 [1, 1, 1, 0, 1, 0, 0, 1, 1]), .inLoop (cd6 [1, 1, 1, 0, 1, 0, 0]), .inBlock 0, .code (cd6 [1, 1, 1, 1])] (fill [none, some (.slice Aa1 a1.length ca1), none, none, none, some (.pointer (some ⟨b19, 0, none⟩)), some (.int .i64 t35), some (.slice Q691 t690 Q692), none, some (.slice Q738 t736.length Q739), none, some (.slice Q768 t766.length Q769), none, some (.slice Q1059 t1057.length Q1060), none, none, none, none, none, none, none, none, none, none, none, none, none, none, none, none, none, none, none, none, none, none, none, none, none, none, none, none, none, none, none, none, none, none, none, none, none, none, none, none, none, none, none, none, none, none, none, none, none, none, none, none, none, none, none, none, none, none, none, none, none, none, none, none, none, none, none, none, none, none, none, none, none, none, none, none, none, none, none, none, none, none, none, none, none, none, none, none, none, none, none, none, none, none, none, none, none, none, none, none, none] l1183) w1179 R := by
                          intro he1184 l1183 w1179 hS1180
                          subst he1184
                          try dsimp only at hp1178
                          refine sx_run 3 (todo' := [.inRegion (opsOf (cd6 [1, 1, 1, 0, 1, 0, 0, 1, 0, 0, 1, 1, 1, 1, 1, 1, 1, 0])) [1], .code (cd6 [1, 1, 1, 0, 1, 0, 0, 1, 0, 0, 1, 1, 1, 1, 1, 1, 1, 1]), .inBlock 1, .code (cd6 [1, 1, 1, 0, 1, 0, 0, 1, 1]), .inLoop (cd6 [1, 1, 1, 0, 1, 0, 0]), .inBlock 0, .code (cd6 [1, 1, 1, 1])]) (us := [(101, .slice Q738 t736.length Q739)]) (by kernel_rfl) ?_
                          obtain ⟨_, hr1185, hp1186⟩ := bind_some' hp1178
                          have hS1187 := hS1180.pick3
                          refine r_call1 (c := (cd6 [1, 1, 1, 0, 1, 0, 0, 1, 0, 0, 1, 1, 1, 1, 1, 1, 1, 0])) (i := 1) (d := (some 102)) (g := 27) (args := #[.slice Q738 t736.length Q739]) (by kernel_rfl) (by kernel_rfl) (by kernel_rfl) (by kernel_rfl) (weirlaw10_Spoil.ok t736 Q738 Q739 hS1187 hr1185) ?_
                          rintro _ w1188 ⟨rfl, hS1189⟩
                          refine ⟨.tuple #[], rfl, ?_⟩
                          refine sx_run 5 (todo' := [.inRegion (opsOf (cd6 [1, 1, 1, 0, 1, 0, 0, 1, 0, 0, 1, 1, 1, 1, 1, 1, 1, 1, 0])) [2, 3, 4, 5, 6, 7, 8, 9, 10, 11], .code (cd6 [1, 1, 1, 0, 1, 0, 0, 1, 0, 0, 1, 1, 1, 1, 1, 1, 1, 1, 1]), .inBlock 1, .code (cd6 [1, 1, 1, 0, 1, 0, 0, 1, 1]), .inLoop (cd6 [1, 1, 1, 0, 1, 0, 0]), .inBlock 0, .code (cd6 [1, 1, 1, 1])]) (us := [(103, .slice Q768 t766.length Q769), (104, .slice Q1059 t1057.length Q1060)]) (by kernel_rfl) ?_
                          obtain ⟨t1190, hr1191, hp1192⟩ := bind_some' hp1186
                          have hS1193 := hS1189.pick3
                          obtain ⟨Z1194, hz1195, hS1196, hs1197, hb1198⟩ := hS1193.lendrow len_api_Final (by omega)
                          have hS1199 := hS1196.pick3
                          obtain ⟨Z1200, hz1201, hS1202, hs1203, hb1204⟩ := hS1199.lendrow len_api_Final (by omega)
                          refine r_call1 (c := (cd6 [1, 1, 1, 0, 1, 0, 0, 1, 0, 0, 1, 1, 1, 1, 1, 1, 1, 1, 0])) (i := 2) (d := (some 105)) (g := 25) (args := #[.slice Q768 t766.length Q769, .slice Q1059 t1057.length Q1060]) (by kernel_rfl) (by kernel_rfl) (by kernel_rfl) (by kernel_rfl) (weirlaw10_Same.ok t766 t1057 Q768 Q769 Q1059 Q1060 hS1202 (hs1197.up hz1201) hs1203 hr1191) ?_
                          rintro _ w1205 ⟨rfl, hS1206⟩
                          refine ⟨.bool t1190, rfl, ?_⟩
                          have hS1207 := hb1204 _ _ hS1206
                          have hS1208 := hb1198 _ _ hS1207
                          refine sx_split 1 (todo' := [.inRegion (opsOf (cd6 [1, 1, 1, 0, 1, 0, 0, 1, 0, 0, 1, 1, 1, 1, 1, 1, 1, 1, 0])) [4, 5, 6, 7, 8, 9, 10, 11], .code (cd6 [1, 1, 1, 0, 1, 0, 0, 1, 0, 0, 1, 1, 1, 1, 1, 1, 1, 1, 1]), .inBlock 1, .code (cd6 [1, 1, 1, 0, 1, 0, 0, 1, 1]), .inLoop (cd6 [1, 1, 1, 0, 1, 0, 0]), .inBlock 0, .code (cd6 [1, 1, 1, 1])]) (us := []) (d := 106) (t := (!t1190)) (by kernel_rfl) (fun h1209 => ?_) (fun h1210 => ?_)
                          · skip
                            have hp1211 := ite_t hp1192 h1209
                            refine sx_run 14 (todo' := [.code (cd6 [1, 1, 1, 0, 1, 0, 0, 1, 0, 0, 1, 1, 1, 1, 1, 1, 1, 1, 1, 0, 1]), .inBlock 1, .code (cd6 [1, 1, 1, 0, 1, 0, 0, 1, 1]), .inLoop (cd6 [1, 1, 1, 0, 1, 0, 0]), .inBlock 0, .code (cd6 [1, 1, 1, 1])]) (us := [(107, .bool true), (108, undef), (109, undef), (110, undef), (111, undef), (112, undef), (113, undef), (114, .bool true), (4, .bool false)]) (by kernel_rfl) ?_
                            have hS1212 := hS1208.drop
                            have hS1213 := hS1212.drop
                            have hS1214 := hS1213.drop
                            have hS1215 := hS1214.drop
                            have hS1216 := hS1215.drop
                            refine runs_ret (fn := Try.f6) (v := .bool false) Try.func6 (by kernel_rfl) ?_
                            have hr1217 := (hq45 _ (Option.some.inj hp1211))
                            cases hr1217
                            exact hR _ _ ⟨rfl, hS1216⟩
                          · skip
                            have hp1218 := ite_f hp1192 h1210
                            refine sx_run 3 (todo' := [.inRegion (opsOf (cd6 [1, 1, 1, 0, 1, 0, 0, 1, 0, 0, 1, 1, 1, 1, 1, 1, 1, 1, 0])) [7, 8, 9, 10, 11], .code (cd6 [1, 1, 1, 0, 1, 0, 0, 1, 0, 0, 1, 1, 1, 1, 1, 1, 1, 1, 1]), .inBlock 1, .code (cd6 [1, 1, 1, 0, 1, 0, 0, 1, 1]), .inLoop (cd6 [1, 1, 1, 0, 1, 0, 0]), .inBlock 0, .code (cd6 [1, 1, 1, 1])]) (us := [(107, .bool false), (108, .slice Q691 t690 Q692), (109, .int .i64 t35)]) (by kernel_rfl) ?_
                            rcases Bool.eq_false_or_eq_true (t35 == 0) with h1219 | h1219
                            · skip
                              have hp1220 := ite_t hp1218 h1219
                              have he1221 : t35 = ((0 : Nat) : Int) := by simpa using h1219
                              refine r_indexArrL (c := (cd6 [1, 1, 1, 0, 1, 0, 0, 1, 0, 0, 1, 1, 1, 1, 1, 1, 1, 1, 0])) (i := 7) (d := (some 110)) (ty := 0) (t := 49) (e := 36) (sz := 1) (kk := .i64) (x := (.tmp 5)) (y := (.tmp 109)) (b := b19) (o' := 0) (n := 2) (j := t35) (m := 0) (by kernel_rfl) (by kernel_rfl) (by kernel_rfl) (by kernel_rfl) (by kernel_rfl) (by kernel_rfl) he1221 (by decide) ?_
                              refine r_load (c := (cd6 [1, 1, 1, 0, 1, 0, 0, 1, 0, 0, 1, 1, 1, 1, 1, 1, 1, 1, 0])) (i := 8) (d := (some 111)) (ty := 36) (t := 36) (x := (.tmp 110)) (p := ⟨b19, 0, none⟩) (v := .slice Aa0 a0.length ca0) (by kernel_rfl) (by kernel_rfl) (by kernel_rfl) (loads_at 0 (hS1208.blk 2 rfl) (by kernel_rfl) (by kernel_rfl)) ?_
                              obtain ⟨t1222, hr1223, hp1224⟩ := bind_some' hp1220
                              have hS1225 := hS1208.pick4
                              refine r_call1 (c := (cd6 [1, 1, 1, 0, 1, 0, 0, 1, 0, 0, 1, 1, 1, 1, 1, 1, 1, 1, 0])) (i := 9) (d := (some 112)) (g := 26) (args := #[.slice Q691 t690 Q692, .slice Aa0 a0.length ca0]) (by kernel_rfl) (by kernel_rfl) (by kernel_rfl) (by kernel_rfl) (weirlaw10_Back.ok t689 t690 a0 Q691 Q692 Aa0 ca0 hS1225 ha0 hr1223) ?_
                              rintro _ w1226 ⟨rfl, hS1227⟩
                              refine ⟨.bool t1222, rfl, ?_⟩
                              refine sx_split 1 (todo' := [.inRegion (opsOf (cd6 [1, 1, 1, 0, 1, 0, 0, 1, 0, 0, 1, 1, 1, 1, 1, 1, 1, 1, 0])) [11], .code (cd6 [1, 1, 1, 0, 1, 0, 0, 1, 0, 0, 1, 1, 1, 1, 1, 1, 1, 1, 1]), .inBlock 1, .code (cd6 [1, 1, 1, 0, 1, 0, 0, 1, 1]), .inLoop (cd6 [1, 1, 1, 0, 1, 0, 0]), .inBlock 0, .code (cd6 [1, 1, 1, 1])]) (us := []) (d := 113) (t := (!t1222)) (by kernel_rfl) (fun h1228 => ?_) (fun h1229 => ?_)
                              · skip
                                have hp1230 := ite_t hp1224 h1228
                                refine sx_run 7 (todo' := [.code (cd6 [1, 1, 1, 0, 1, 0, 0, 1, 0, 0, 1, 1, 1, 1, 1, 1, 1, 1, 1, 0, 1]), .inBlock 1, .code (cd6 [1, 1, 1, 0, 1, 0, 0, 1, 1]), .inLoop (cd6 [1, 1, 1, 0, 1, 0, 0]), .inBlock 0, .code (cd6 [1, 1, 1, 1])]) (us := [(114, .bool true), (4, .bool false)]) (by kernel_rfl) ?_
                                have hS1231 := hS1227.drop
                                have hS1232 := hS1231.drop
                                have hS1233 := hS1232.drop
                                have hS1234 := hS1233.drop
                                have hS1235 := hS1234.drop
                                refine runs_ret (fn := Try.f6) (v := .bool false) Try.func6 (by kernel_rfl) ?_
                                have hr1236 := (hq45 _ (Option.some.inj hp1230))
                                cases hr1236
                                exact hR _ _ ⟨rfl, hS1235⟩
                              · skip
                                have hp1237 := ite_f hp1224 h1229
                                refine sx_run 10 (todo' := [.inLoop (cd6 [1, 1, 1, 0, 1, 0, 0]), .inBlock 0, .code (cd6 [1, 1, 1, 1])]) (us := [(114, .bool false), (25, .int .i64 t35), (26, .int .i64 (IntKind.i64.wrap (t35 + 1))), (6, .int .i64 (IntKind.i64.wrap (t35 + 1)))]) (by kernel_rfl) ?_
                                have hS1238 := hS1227.drop
                                have hS1239 := hS1238.drop
                                have hS1240 := hS1239.drop
                                refine sx_run 1 (todo' := [.code (cd6 [1, 1, 1, 0, 1, 0, 0]), .inLoop (cd6 [1, 1, 1, 0, 1, 0, 0]), .inBlock 0, .code (cd6 [1, 1, 1, 1])]) (us := []) (by kernel_rfl) ?_
                                refine Runs.fill (m := [none, some (.slice Aa1 a1.length ca1), none, none, none, some (.pointer (some ⟨b19, 0, none⟩)), some (.int .i64 (IntKind.i64.wrap (t35 + 1))), none, none, none, none, none, none, none, none, none, none, none, none, none, none, none, none, none, none, none, none, none, none, none, none, none, none, none, none, none, none, none, none, none, none, none, none, none, none, none, none, none, none, none, none, none, none, none, none, none, none, none, none, none, none, none, none, none, none, none, none, none, none, none, none, none, none, none, none, none, none, none, none, none, none, none, none, none, none, none, none, none, none, none, none, none, none, none, none, none, none, none, none, none, none, none, none, none, none, none, none, none, none, none, none, none, none, none, none]) (by kernel_rfl) ?_
                                exact ih42 (IntKind.i64.wrap (t35 + 1)) _ hp1237 he40 _ _ hS1240
                            · skip
                              have hp1241 := ite_f hp1218 h1219
                              rcases Bool.eq_false_or_eq_true (t35 == 1) with h1242 | h1242
                              · skip
                                have hp1243 := ite_t hp1241 h1242
                                have he1244 : t35 = ((1 : Nat) : Int) := by simpa using h1242
                                refine r_indexArrL (c := (cd6 [1, 1, 1, 0, 1, 0, 0, 1, 0, 0, 1, 1, 1, 1, 1, 1, 1, 1, 0])) (i := 7) (d := (some 110)) (ty := 0) (t := 49) (e := 36) (sz := 1) (kk := .i64) (x := (.tmp 5)) (y := (.tmp 109)) (b := b19) (o' := 0) (n := 2) (j := t35) (m := 1) (by kernel_rfl) (by kernel_rfl) (by kernel_rfl) (by kernel_rfl) (by kernel_rfl) (by kernel_rfl) he1244 (by decide) ?_
                                refine r_load (c := (cd6 [1, 1, 1, 0, 1, 0, 0, 1, 0, 0, 1, 1, 1, 1, 1, 1, 1, 1, 0])) (i := 8) (d := (some 111)) (ty := 36) (t := 36) (x := (.tmp 110)) (p := ⟨b19, 1, none⟩) (v := .slice Q12 t11.length Q13) (by kernel_rfl) (by kernel_rfl) (by kernel_rfl) (loads_at 1 (hS1208.blk 2 rfl) (by kernel_rfl) (by kernel_rfl)) ?_
                                obtain ⟨t1245, hr1246, hp1247⟩ := bind_some' hp1243
                                have hS1248 := hS1208.pick3
                                obtain ⟨Z1249, hz1250, hS1251, hs1252, hb1253⟩ := hS1248.lendrow len_api_Final (by omega)
                                have hS1254 := hS1251.pick3
                                refine r_call1 (c := (cd6 [1, 1, 1, 0, 1, 0, 0, 1, 0, 0, 1, 1, 1, 1, 1, 1, 1, 1, 0])) (i := 9) (d := (some 112)) (g := 26) (args := #[.slice Q691 t690 Q692, .slice Q12 t11.length Q13]) (by kernel_rfl) (by kernel_rfl) (by kernel_rfl) (by kernel_rfl) (weirlaw10_Back.ok t689 t690 t11 Q691 Q692 Q12 Q13 hS1254 hs1252 hr1246) ?_
                                rintro _ w1255 ⟨rfl, hS1256⟩
                                refine ⟨.bool t1245, rfl, ?_⟩
                                have hS1257 := hb1253 _ _ hS1256
                                refine sx_split 1 (todo' := [.inRegion (opsOf (cd6 [1, 1, 1, 0, 1, 0, 0, 1, 0, 0, 1, 1, 1, 1, 1, 1, 1, 1, 0])) [11], .code (cd6 [1, 1, 1, 0, 1, 0, 0, 1, 0, 0, 1, 1, 1, 1, 1, 1, 1, 1, 1]), .inBlock 1, .code (cd6 [1, 1, 1, 0, 1, 0, 0, 1, 1]), .inLoop (cd6 [1, 1, 1, 0, 1, 0, 0]), .inBlock 0, .code (cd6 [1, 1, 1, 1])]) (us := []) (d := 113) (t := (!t1245)) (by kernel_rfl) (fun h1258 => ?_) (fun h1259 => ?_)
                                · skip
                                  have hp1260 := ite_t hp1247 h1258
                                  refine sx_run 7 (todo' := [.code (cd6 [1, 1, 1, 0, 1, 0, 0, 1, 0, 0, 1, 1, 1, 1, 1, 1, 1, 1, 1, 0, 1]), .inBlock 1, .code (cd6 [1, 1, 1, 0, 1, 0, 0, 1, 1]), .inLoop (cd6 [1, 1, 1, 0, 1, 0, 0]), .inBlock 0, .code (cd6 [1, 1, 1, 1])]) (us := [(114, .bool true), (4, .bool false)]) (by kernel_rfl) ?_
                                  have hS1261 := hS1257.drop
                                  have hS1262 := hS1261.drop
                                  have hS1263 := hS1262.drop
                                  have hS1264 := hS1263.drop
                                  have hS1265 := hS1264.drop
                                  refine runs_ret (fn := Try.f6) (v := .bool false) Try.func6 (by kernel_rfl) ?_
                                  have hr1266 := (hq45 _ (Option.some.inj hp1260))
                                  cases hr1266
                                  exact hR _ _ ⟨rfl, hS1265⟩
                                · skip
                                  have hp1267 := ite_f hp1247 h1259
                                  refine sx_run 10 (todo' := [.inLoop (cd6 [1, 1, 1, 0, 1, 0, 0]), .inBlock 0, .code (cd6 [1, 1, 1, 1])]) (us := [(114, .bool false), (25, .int .i64 t35), (26, .int .i64 (IntKind.i64.wrap (t35 + 1))), (6, .int .i64 (IntKind.i64.wrap (t35 + 1)))]) (by kernel_rfl) ?_
                                  have hS1268 := hS1257.pick1
                                  have hS1269 := hS1268.drop
                                  have hS1270 := hS1269.pick1
                                  have hS1271 := hS1270.drop
                                  have hS1272 := hS1271.pick1
                                  have hS1273 := hS1272.drop
                                  have hS1274 := hS1273.pick1
                                  refine sx_run 1 (todo' := [.code (cd6 [1, 1, 1, 0, 1, 0, 0]), .inLoop (cd6 [1, 1, 1, 0, 1, 0, 0]), .inBlock 0, .code (cd6 [1, 1, 1, 1])]) (us := []) (by kernel_rfl) ?_
                                  refine Runs.fill (m := [none, some (.slice Aa1 a1.length ca1), none, none, none, some (.pointer (some ⟨b19, 0, none⟩)), some (.int .i64 (IntKind.i64.wrap (t35 + 1))), none, none, none, none, none, none, none, none, none, none, none, none, none, none, none, none, none, none, none, none, none, none, none, none, none, none, none, none, none, none, none, none, none, none, none, none, none, none, none, none, none, none, none, none, none, none, none, none, none, none, none, none, none, none, none, none, none, none, none, none, none, none, none, none, none, none, none, none, none, none, none, none, none, none, none, none, none, none, none, none, none, none, none, none, none, none, none, none, none, none, none, none, none, none, none, none, none, none, none, none, none, none, none, none, none, none, none, none]) (by kernel_rfl) ?_
                                  exact ih42 (IntKind.i64.wrap (t35 + 1)) _ hp1267 he40 _ _ hS1274
                              · skip
                                have hp1275 := ite_f hp1241 h1242
                                cases hp1275
                        have L1285 : ∀ (t1276 : Int) (e1280 : Sum Unit (Sum Unit Bool)), weirlaw10_StateProjects.l4 a1 t1276 = some e1280 → e1280 = v1176 → ∀ (l1279 : List Value) (w1277 : World) (hS1278 : St w0 Z (xblk b19 49 ([.slice Aa0 a0.length ca0, .slice Q12 t11.length Q13]) :: xrow Q12 Q13 24 49 (t11.flatMap enc_api_Final) :: xrow Q691 Q692 24 49 (t689.flatMap enc_api_Final) :: xrow A723 c724 3 1 (((([] : List Int) ++ a1) ++ ([(-7)] : List Int)).flatMap (encI .i64)) :: xrow Q738 Q739 24 49 (t736.flatMap enc_api_Final) :: xrow Q768 Q769 24 49 (t766.flatMap enc_api_Final) :: xrow Q1059 Q1060 24 49 (t1057.flatMap enc_api_Final) :: fs) w1277), Runs Try.prog 6 [.code (cd6 [1, 1, 1, 0, 1, 0, 0, 1, 0, 0, 1, 1, 1, 1, 1, 1, 0, 1, 0, 0]), .inLoop (cd6 [1, 1, 1, 0, 1, 0, 0, 1, 0, 0, 1, 1, 1, 1, 1, 1, 0, 1, 0, 0]), .inBlock 2, .code (cd6 [1, 1, 1, 0, 1, 0, 0, 1, 0, 0, 1, 1, 1, 1, 1, 1, 1]), .inBlock 1, .code (cd6 [1, 1, 1, 0, 1, 0, 0, 1, 1]), .inLoop (cd6 [1, 1, 1, 0, 1, 0, 0]), .inBlock 0, .code (cd6 [1, 1, 1, 1])] (fill [none, some (.slice Aa1 a1.length ca1), none, none, none, some (.pointer (some ⟨b19, 0, none⟩)), some (.int .i64 t35), some (.slice Q691 t690 Q692), some (.slice A723 ((([] : List Int) ++ a1) ++ ([(-7)] : List Int)).length c724), some (.slice Q738 t736.length Q739), none, some (.slice Q768 t766.length Q769), none, some (.slice Q1059 t1057.length Q1060), none, some (.int .i64 t1276), none, none, none, none, none, none, none, none, none, none, none, none, none, none, none, none, none, none, none, none, none, none, none, none, none, none, none, none, none, none, none, none, none, none, none, none, none, none, none, none, none, none, none, none, none, none, none, none, none, none, none, none, none, none, none, none, none, none, none, none, none, none, none, none, none, none, none, none, none, none, none, none, none, none, none, none, none, none, none, none, none, none, none, none, none, none, none, none, none, none, none, none, none, none, none, none, none, none, none] l1279) w1277 R := by
                          refine weirlaw10_StateProjects.l4.partial_correctness a1 (fun t1276 e1280 => e1280 = v1176 → ∀ (l1279 : List Value) (w1277 : World) (hS1278 : St w0 Z (xblk b19 49 ([.slice Aa0 a0.length ca0, .slice Q12 t11.length Q13]) :: xrow Q12 Q13 24 49 (t11.flatMap enc_api_Final) :: xrow Q691 Q692 24 49 (t689.flatMap enc_api_Final) :: xrow A723 c724 3 1 (((([] : List Int) ++ a1) ++ ([(-7)] : List Int)).flatMap (encI .i64)) :: xrow Q738 Q739 24 49 (t736.flatMap enc_api_Final) :: xrow Q768 Q769 24 49 (t766.flatMap enc_api_Final) :: xrow Q1059 Q1060 24 49 (t1057.flatMap enc_api_Final) :: fs) w1277), Runs Try.prog 6 [.code (cd6 [1, 1, 1, 0, 1, 0, 0, 1, 0, 0, 1, 1, 1, 1, 1, 1, 0, 1, 0, 0]), .inLoop (cd6 [1, 1, 1, 0, 1, 0, 0, 1, 0, 0, 1, 1, 1, 1, 1, 1, 0, 1, 0, 0]), .inBlock 2, .code (cd6 [1, 1, 1, 0, 1, 0, 0, 1, 0, 0, 1, 1, 1, 1, 1, 1, 1]), .inBlock 1, .code (cd6 [1, 1, 1, 0, 1, 0, 0, 1, 1]), .inLoop (cd6 [1, 1, 1, 0, 1, 0, 0]), .inBlock 0, .code (cd6 [1, 1, 1, 1])] (fill [none, some (.slice Aa1 a1.length ca1), none, none, none, some (.pointer (some ⟨b19, 0, none⟩)), some (.int .i64 t35), some (.slice Q691 t690 Q692), some (.slice A723 ((([] : List Int) ++ a1) ++ ([(-7)] : List Int)).length c724), some (.slice Q738 t736.length Q739), none, some (.slice Q768 t766.length Q769), none, some (.slice Q1059 t1057.length Q1060), none, some (.int .i64 t1276), none, none, none, none, none, none, none, none, none, none, none, none, none, none, none, none, none, none, none, none, none, none, none, none, none, none, none, none, none, none, none, none, none, none, none, none, none, none, none, none, none, none, none, none, none, none, none, none, none, none, none, none, none, none, none, none, none, none, none, none, none, none, none, none, none, none, none, none, none, none, none, none, none, none, none, none, none, none, none, none, none, none, none, none, none, none, none, none, none, none, none, none, none, none, none, none, none, none, none] l1279) w1277 R) ?_
                          intro rec1284 ih1283 t1276 e1280 hb1282 he1281 l1279 w1277 hS1278
                          have hq1286 : ∀ x, Sum.inr x = e1280 → x = e39 := fun x hx => hq1181 x (hx.trans he1281)
                          refine sx_split 7 (todo' := [.inRegion (opsOf (cd6 [1, 1, 1, 0, 1, 0, 0, 1, 0, 0, 1, 1, 1, 1, 1, 1, 0, 1, 0, 0, 0, 0])) [], .code (cd6 [1, 1, 1, 0, 1, 0, 0, 1, 0, 0, 1, 1, 1, 1, 1, 1, 0, 1, 0, 0, 0, 1]), .code (cd6 [1, 1, 1, 0, 1, 0, 0, 1, 0, 0, 1, 1, 1, 1, 1, 1, 0, 1, 0, 0, 1]), .inLoop (cd6 [1, 1, 1, 0, 1, 0, 0, 1, 0, 0, 1, 1, 1, 1, 1, 1, 0, 1, 0, 0]), .inBlock 2, .code (cd6 [1, 1, 1, 0, 1, 0, 0, 1, 0, 0, 1, 1, 1, 1, 1, 1, 1]), .inBlock 1, .code (cd6 [1, 1, 1, 0, 1, 0, 0, 1, 1]), .inLoop (cd6 [1, 1, 1, 0, 1, 0, 0]), .inBlock 0, .code (cd6 [1, 1, 1, 1])]) (us := [(86, .int .i64 t1276), (87, .slice Aa1 a1.length ca1), (88, .int .i64 (a1.length : Int))]) (d := 89) (t := (decide (t1276 < (a1.length : Int)))) (by kernel_rfl) (fun h1287 => ?_) (fun h1288 => ?_)
                          · skip
                            have hp1289 := ite_t hb1282 h1287
                            refine sx_run 6 (todo' := [.code (cd6 [1, 1, 1, 0, 1, 0, 0, 1, 0, 0, 1, 1, 1, 1, 1, 1, 0, 1, 0, 0, 1, 0, 0, 0]), .code (cd6 [1, 1, 1, 0, 1, 0, 0, 1, 0, 0, 1, 1, 1, 1, 1, 1, 0, 1, 0, 0, 1, 0, 0, 1]), .inBlock 3, .code (cd6 [1, 1, 1, 0, 1, 0, 0, 1, 0, 0, 1, 1, 1, 1, 1, 1, 0, 1, 0, 0, 1, 1]), .inLoop (cd6 [1, 1, 1, 0, 1, 0, 0, 1, 0, 0, 1, 1, 1, 1, 1, 1, 0, 1, 0, 0]), .inBlock 2, .code (cd6 [1, 1, 1, 0, 1, 0, 0, 1, 0, 0, 1, 1, 1, 1, 1, 1, 1]), .inBlock 1, .code (cd6 [1, 1, 1, 0, 1, 0, 0, 1, 1]), .inLoop (cd6 [1, 1, 1, 0, 1, 0, 0]), .inBlock 0, .code (cd6 [1, 1, 1, 1])]) (us := []) (by kernel_rfl) ?_
                            refine r_quiet hS1278 (c := (cd6 [1, 1, 1, 0, 1, 0, 0, 1, 0, 0, 1, 1, 1, 1, 1, 1, 0, 1, 0, 0, 1, 0, 0, 0])) (id := 17) (by kernel_rfl) (by kernel_rfl) (by kernel_rfl) (is := [0, 1, 2, 3, 4, 5, 6, 7, 8]) (by kernel_rfl) ?_
                            refine q_run 2 (is' := [2, 3, 4, 5, 6, 7, 8]) (us := [(92, .slice A723 ((([] : List Int) ++ a1) ++ ([(-7)] : List Int)).length c724), (93, .int .i64 t1276)]) (by kernel_rfl) ?_
                            obtain ⟨g1290, hp1291⟩ := ite_some hp1289
                            obtain ⟨b1292, p1293, hA1294, -⟩ := (hS1278.row 3 rfl).at_ (len_encI .i64) (by omega) g1290.1 g1290.2
                            refine q_indexAddr (c := (cd6 [1, 1, 1, 0, 1, 0, 0, 1, 0, 0, 1, 1, 1, 1, 1, 1, 0, 1, 0, 0, 1, 0, 0, 0])) (i := 2) (d := (some 94)) (ty := 0) (t := 48) (e := 3) (n := ((([] : List Int) ++ a1) ++ ([(-7)] : List Int)).length) (cp := c724) (sz := 1) (kk := .i64) (x := (.tmp 92)) (y := (.tmp 93)) (b := b1292) (o' := p1293) (j := t1276) (by kernel_rfl) (by kernel_rfl) (slv (by kernel_rfl) hA1294) (by kernel_rfl) (by kernel_rfl) (by kernel_rfl) g1290.1 g1290.2 ?_
                            refine q_load (c := (cd6 [1, 1, 1, 0, 1, 0, 0, 1, 0, 0, 1, 1, 1, 1, 1, 1, 0, 1, 0, 0, 1, 0, 0, 0])) (i := 3) (d := (some 95)) (ty := 3) (t := 3) (x := (.tmp 94)) (p := ⟨b1292, p1293 + t1276.toNat * 1, none⟩) (v := .int .i64 (gt ((([] : List Int) ++ a1) ++ ([(-7)] : List Int)) t1276)) (by kernel_rfl) (by kernel_rfl) (by kernel_rfl) (fun w hC => (loads_at 0 ((hC.row 3 rfl).at2 hA1294 (len_encI .i64) (by omega) g1290.1 g1290.2) (by kernel_rfl) (by kernel_rfl))) ?_
                            refine q_run 2 (is' := [6, 7, 8]) (us := [(96, .slice Aa1 a1.length ca1), (97, .int .i64 t1276)]) (by kernel_rfl) ?_
                            obtain ⟨g1296, hp1297⟩ := ite_some hp1291
                            obtain ⟨b1298, p1299, hA1300, hc1301⟩ := ha1.atF g1296.1 g1296.2
                            refine q_indexAddr (c := (cd6 [1, 1, 1, 0, 1, 0, 0, 1, 0, 0, 1, 1, 1, 1, 1, 1, 0, 1, 0, 0, 1, 0, 0, 0])) (i := 6) (d := (some 98)) (ty := 0) (t := 48) (e := 3) (n := a1.length) (cp := ca1) (sz := 1) (kk := .i64) (x := (.tmp 96)) (y := (.tmp 97)) (b := b1298) (o' := p1299) (j := t1276) (by kernel_rfl) (by kernel_rfl) (slv (by kernel_rfl) hA1300) (by kernel_rfl) (by kernel_rfl) (by kernel_rfl) g1296.1 g1296.2 ?_
                            refine q_load (c := (cd6 [1, 1, 1, 0, 1, 0, 0, 1, 0, 0, 1, 1, 1, 1, 1, 1, 0, 1, 0, 0, 1, 0, 0, 0])) (i := 7) (d := (some 99)) (ty := 3) (t := 3) (x := (.tmp 98)) (p := ⟨b1298, p1299 + t1276.toNat * 1, none⟩) (v := .int .i64 (gt a1 t1276)) (by kernel_rfl) (by kernel_rfl) (by kernel_rfl) (fun w hC => (loads_at 0 (hc1301.cells hC) (by kernel_rfl) (by kernel_rfl))) ?_
                            refine q_splitr 1 (is' := []) (us := []) (d := 100) (t := ((gt ((([] : List Int) ++ a1) ++ ([(-7)] : List Int)) t1276) != (gt a1 t1276))) (by kernel_rfl) (fun h1302 => ?_) (fun h1303 => ?_)
                            · skip
                              have hp1304 := ite_t hp1297 h1302
                              refine Qs.nil ?_
                              intro w1305 hS1306
                              refine sx_run 5 (todo' := [.code (cd6 [1, 1, 1, 0, 1, 0, 0, 1, 0, 0, 1, 1, 1, 1, 1, 1, 0, 1, 0, 0, 1, 0, 0, 1, 0, 1]), .inBlock 3, .code (cd6 [1, 1, 1, 0, 1, 0, 0, 1, 0, 0, 1, 1, 1, 1, 1, 1, 0, 1, 0, 0, 1, 1]), .inLoop (cd6 [1, 1, 1, 0, 1, 0, 0, 1, 0, 0, 1, 1, 1, 1, 1, 1, 0, 1, 0, 0]), .inBlock 2, .code (cd6 [1, 1, 1, 0, 1, 0, 0, 1, 0, 0, 1, 1, 1, 1, 1, 1, 1]), .inBlock 1, .code (cd6 [1, 1, 1, 0, 1, 0, 0, 1, 1]), .inLoop (cd6 [1, 1, 1, 0, 1, 0, 0]), .inBlock 0, .code (cd6 [1, 1, 1, 1])]) (us := [(4, .bool false)]) (by kernel_rfl) ?_
                              have hS1307 := hS1306.drop
                              have hS1308 := hS1307.drop
                              have hS1309 := hS1308.drop
                              have hS1310 := hS1309.drop
                              have hS1311 := hS1310.drop
                              have hS1312 := hS1311.drop
                              have hS1313 := hS1312.drop
                              refine runs_ret (fn := Try.f6) (v := .bool false) Try.func6 (by kernel_rfl) ?_
                              have hr1314 := (hq45 _ (hq1286 _ (Option.some.inj hp1304)))
                              cases hr1314
                              exact hR _ _ ⟨rfl, hS1313⟩
                            · skip
                              have hp1315 := ite_f hp1297 h1303
                              refine Qs.nil ?_
                              intro w1316 hS1317
                              refine sx_run 8 (todo' := [.inLoop (cd6 [1, 1, 1, 0, 1, 0, 0, 1, 0, 0, 1, 1, 1, 1, 1, 1, 0, 1, 0, 0]), .inBlock 2, .code (cd6 [1, 1, 1, 0, 1, 0, 0, 1, 0, 0, 1, 1, 1, 1, 1, 1, 1]), .inBlock 1, .code (cd6 [1, 1, 1, 0, 1, 0, 0, 1, 1]), .inLoop (cd6 [1, 1, 1, 0, 1, 0, 0]), .inBlock 0, .code (cd6 [1, 1, 1, 1])]) (us := [(90, .int .i64 t1276), (91, .int .i64 (IntKind.i64.wrap (t1276 + 1))), (15, .int .i64 (IntKind.i64.wrap (t1276 + 1)))]) (by kernel_rfl) ?_
                              refine sx_run 1 (todo' := [.code (cd6 [1, 1, 1, 0, 1, 0, 0, 1, 0, 0, 1, 1, 1, 1, 1, 1, 0, 1, 0, 0]), .inLoop (cd6 [1, 1, 1, 0, 1, 0, 0, 1, 0, 0, 1, 1, 1, 1, 1, 1, 0, 1, 0, 0]), .inBlock 2, .code (cd6 [1, 1, 1, 0, 1, 0, 0, 1, 0, 0, 1, 1, 1, 1, 1, 1, 1]), .inBlock 1, .code (cd6 [1, 1, 1, 0, 1, 0, 0, 1, 1]), .inLoop (cd6 [1, 1, 1, 0, 1, 0, 0]), .inBlock 0, .code (cd6 [1, 1, 1, 1])]) (us := []) (by kernel_rfl) ?_
                              refine Runs.fill (m := [none, some (.slice Aa1 a1.length ca1), none, none, none, some (.pointer (some ⟨b19, 0, none⟩)), some (.int .i64 t35), some (.slice Q691 t690 Q692), some (.slice A723 ((([] : List Int) ++ a1) ++ ([(-7)] : List Int)).length c724), some (.slice Q738 t736.length Q739), none, some (.slice Q768 t766.length Q769), none, some (.slice Q1059 t1057.length Q1060), none, some (.int .i64 (IntKind.i64.wrap (t1276 + 1))), none, none, none, none, none, none, none, none, none, none, none, none, none, none, none, none, none, none, none, none, none, none, none, none, none, none, none, none, none, none, none, none, none, none, none, none, none, none, none, none, none, none, none, none, none, none, none, none, none, none, none, none, none, none, none, none, none, none, none, none, none, none, none, none, none, none, none, none, none, none, none, none, none, none, none, none, none, none, none, none, none, none, none, none, none, none, none, none, none, none, none, none, none, none, none, none, none, none, none]) (by kernel_rfl) ?_
                              exact ih1283 (IntKind.i64.wrap (t1276 + 1)) _ hp1315 he1281 _ _ hS1317
                          · skip
                            have hp1318 := ite_f hb1282 h1288
                            refine sx_run 3 (todo' := [.code (cd6 [1, 1, 1, 0, 1, 0, 0, 1, 0, 0, 1, 1, 1, 1, 1, 1, 1]), .inBlock 1, .code (cd6 [1, 1, 1, 0, 1, 0, 0, 1, 1]), .inLoop (cd6 [1, 1, 1, 0, 1, 0, 0]), .inBlock 0, .code (cd6 [1, 1, 1, 1])]) (us := []) (by kernel_rfl) ?_
                            have hS1319 := hS1278.pick3
                            have hS1320 := hS1319.drop
                            refine Runs.fill (m := [none, some (.slice Aa1 a1.length ca1), none, none, none, some (.pointer (some ⟨b19, 0, none⟩)), some (.int .i64 t35), some (.slice Q691 t690 Q692), none, some (.slice Q738 t736.length Q739), none, some (.slice Q768 t766.length Q769), none, some (.slice Q1059 t1057.length Q1060), none, none, none, none, none, none, none, none, none, none, none, none, none, none, none, none, none, none, none, none, none, none, none, none, none, none, none, none, none, none, none, none, none, none, none, none, none, none, none, none, none, none, none, none, none, none, none, none, none, none, none, none, none, none, none, none, none, none, none, none, none, none, none, none, none, none, none, none, none, none, none, none, none, none, none, none, none, none, none, none, none, none, none, none, none, none, none, none, none, none, none, none, none, none, none, none, none, none, none, none, none]) (by kernel_rfl) ?_
                            exact J1182 ((Option.some.inj hp1318).trans he1281) _ _ hS1320
                        have hS1321 := hS1175.pick1
                        have hS1322 := hS1321.pick1
                        have hS1323 := hS1322.pick2
                        have hS1324 := hS1323.pick5
                        have hS1325 := hS1324.pick5
                        have hS1326 := hS1325.pick5
                        have hS1327 := hS1326.pick6
                        refine Runs.fill (m := [none, some (.slice Aa1 a1.length ca1), none, none, none, some (.pointer (some ⟨b19, 0, none⟩)), some (.int .i64 t35), some (.slice Q691 t690 Q692), some (.slice A723 ((([] : List Int) ++ a1) ++ ([(-7)] : List Int)).length c724), some (.slice Q738 t736.length Q739), none, some (.slice Q768 t766.length Q769), none, some (.slice Q1059 t1057.length Q1060), none, some (.int .i64 0), none, none, none, none, none, none, none, none, none, none, none, none, none, none, none, none, none, none, none, none, none, none, none, none, none, none, none, none, none, none, none, none, none, none, none, none, none, none, none, none, none, none, none, none, none, none, none, none, none, none, none, none, none, none, none, none, none, none, none, none, none, none, none, none, none, none, none, none, none, none, none, none, none, none, none, none, none, none, none, none, none, none, none, none, none, none, none, none, none, none, none, none, none, none, none, none, none, none, none]) (by kernel_rfl) ?_
                        exact L1285 0 _ hv1177 rfl _ _ hS1327
              · skip
                have hp1328 := ite_f hp1053 h1054
                cases hp1328
          · skip
            have hp1329 := ite_f hp685 h686
            cases hp1329
      · skip
        have hp1330 := ite_f hb41 h47
        refine sx_run 3 (todo' := [.code (cd6 [1, 1, 1, 1])]) (us := []) (by kernel_rfl) ?_
        have hS1331 := hS37.drop
        have hS1332 := hS1331.drop
        refine Runs.fill (m := [none, none, none, none, none, none, none, none, none, none, none, none, none, none, none, none, none, none, none, none, none, none, none, none, none, none, none, none, none, none, none, none, none, none, none, none, none, none, none, none, none, none, none, none, none, none, none, none, none, none, none, none, none, none, none, none, none, none, none, none, none, none, none, none, none, none, none, none, none, none, none, none, none, none, none, none, none, none, none, none, none, none, none, none, none, none, none, none, none, none, none, none, none, none, none, none, none, none, none, none, none, none, none, none, none, none, none, none, none, none, none, none, none, none, none]) (by kernel_rfl) ?_
        exact J31 ((Option.some.inj hp1330).trans he40) _ _ hS1332
    refine Runs.fill (m := [none, some (.slice Aa1 a1.length ca1), none, none, none, some (.pointer (some ⟨b19, 0, none⟩)), some (.int .i64 0), none, none, none, none, none, none, none, none, none, none, none, none, none, none, none, none, none, none, none, none, none, none, none, none, none, none, none, none, none, none, none, none, none, none, none, none, none, none, none, none, none, none, none, none, none, none, none, none, none, none, none, none, none, none, none, none, none, none, none, none, none, none, none, none, none, none, none, none, none, none, none, none, none, none, none, none, none, none, none, none, none, none, none, none, none, none, none, none, none, none, none, none, none, none, none, none, none, none, none, none, none, none, none, none, none, none, none, none]) (by kernel_rfl) ?_
    exact L44 0 _ hv26 rfl _ _ hS24

end
end Go.Proofs.Yteppciglfdiljaa.K
