/- The walk, part 2: each Go function as a plain Lean function, and that its call answers as that function says. No condition. -/
import Derived.Test.YteppciglfdiljaaE
import Derived.Test.YteppciglfdiljaaNS
import Derived.Test.YteppciglfdiljaaLS
import Derived.Test.YteppciglfdiljaaF1
set_option linter.unusedVariables false
set_option linter.unusedSimpArgs false
set_option maxRecDepth 100000
namespace Go.Proofs.Yteppciglfdiljaa.K
open Go Go.RowKit
noncomputable section
noncomputable def cd24 (p : List Nat) : Code := sub (bodyOf Try.f24) p
def weirref10_Rises.l0 (a0 : List api_Final) (t11 : Int) : Option (Sum Unit Bool) :=
  (if (decide (t11 < (a0.length : Int))) = true then (if 0 ≤ t11 ∧ t11 < (a0.length : Int) then (weirref10_Check.f (gt a0 t11) >>= (fun t31 => (if (t31 != 0) = true then some (.inr (false)) else (if (decide (t11 > 0)) = true then (if 0 ≤ (IntKind.i64.wrap (t11 - 1)) ∧ (IntKind.i64.wrap (t11 - 1)) < (a0.length : Int) then (if 0 ≤ t11 ∧ t11 < (a0.length : Int) then (weirref10_Compare.f (gt a0 (IntKind.i64.wrap (t11 - 1))) (gt a0 t11) >>= (fun t56 => (if (decide (t56 ≥ 0)) = true then some (.inr (false)) else (weirref10_Rises.l0 a0 (IntKind.i64.wrap (t11 + 1)))))) else none) else none) else (weirref10_Rises.l0 a0 (IntKind.i64.wrap (t11 + 1))))))) else none) else some (.inl ()))
 partial_fixpoint
def weirref10_Rises.f (a0 : List api_Final) : Option Bool :=
  (weirref10_Rises.l0 a0 0 >>= (fun | .inl () => some (true) | .inr e => some e))
set_option maxHeartbeats 16000000 in
theorem weirref10_Rises.ok (a0 : List api_Final) (Aa0 : Option Addr) (ca0 : Nat) {w0 : World} {Z : Zm} {fs : List XObj} {w : World} (hS0 : St w0 Z (fs) w) (ha0 : SlZ (flat enc_api_Final) 49 Z Aa0 ca0 a0) {q0 : Bool} (hp0 : weirref10_Rises.f a0 = some q0) :
    Calls Try.prog 24 #[.slice Aa0 a0.length ca0] w (fun e w' => e = .returned (.bool q0) ∧ St w0 Z (fs) w') := by
  refine calls_abs ?_; intro R hR
  unfold weirref10_Rises.f at hp0
  refine calls_of_runs (fn := Try.f24) (c := cd24 []) Try.func24 (by kernel_rfl) (al := [.slice Aa0 a0.length ca0]) rfl (n := 32) rfl ?_
  refine sx_run 11 (todo' := [.code (cd24 [1, 0, 1, 0, 0]), .inLoop (cd24 [1, 0, 1, 0, 0]), .inBlock 0, .code (cd24 [1, 1])]) (us := [(2, .bool false), (3, .int .i64 0)]) (by kernel_rfl) ?_
  obtain ⟨v1, hv2, hp3⟩ := bind_some' hp0
  have hq6 : ∀ x, Sum.inr x = v1 → x = q0 := by intro x hx; subst hx; simpa using hp3
  have J7 : ∀ (he9 : Sum.inl () = v1) (l8 : List Value) (w4 : World) (hS5 : St w0 Z (fs) w4), Runs Try.prog 24 [.code (cd24 [1, 1])] (fill [none, none, none, none, none, none, none, none, none, none, none, none, none, none, none, none, none, none, none, none, none, none, none, none, none, none, none, none, none, none, none, none, none] l8) w4 R := by
    intro he9 l8 w4 hS5
    subst he9
    try dsimp only at hp3
    refine sx_run 4 (todo' := [.code (cd24 [1, 1, 1])]) (us := [(2, .bool true)]) (by kernel_rfl) ?_
    refine runs_ret (fn := Try.f24) (v := .bool true) Try.func24 (by kernel_rfl) ?_
    have hr10 := (Option.some.inj hp3)
    cases hr10
    exact hR _ _ ⟨rfl, hS5⟩
  have L20 : ∀ (t11 : Int) (e15 : Sum Unit Bool), weirref10_Rises.l0 a0 t11 = some e15 → e15 = v1 → ∀ (l14 : List Value) (w12 : World) (hS13 : St w0 Z (fs) w12), Runs Try.prog 24 [.code (cd24 [1, 0, 1, 0, 0]), .inLoop (cd24 [1, 0, 1, 0, 0]), .inBlock 0, .code (cd24 [1, 1])] (fill [some (.slice Aa0 a0.length ca0), none, none, some (.int .i64 t11), none, none, none, none, none, none, none, none, none, none, none, none, none, none, none, none, none, none, none, none, none, none, none, none, none, none, none, none, none] l14) w12 R := by
    refine weirref10_Rises.l0.partial_correctness a0 (fun t11 e15 => e15 = v1 → ∀ (l14 : List Value) (w12 : World) (hS13 : St w0 Z (fs) w12), Runs Try.prog 24 [.code (cd24 [1, 0, 1, 0, 0]), .inLoop (cd24 [1, 0, 1, 0, 0]), .inBlock 0, .code (cd24 [1, 1])] (fill [some (.slice Aa0 a0.length ca0), none, none, some (.int .i64 t11), none, none, none, none, none, none, none, none, none, none, none, none, none, none, none, none, none, none, none, none, none, none, none, none, none, none, none, none, none] l14) w12 R) ?_
    intro rec19 ih18 t11 e15 hb17 he16 l14 w12 hS13
    have hq21 : ∀ x, Sum.inr x = e15 → x = q0 := fun x hx => hq6 x (hx.trans he16)
    refine sx_split 7 (todo' := [.inRegion (opsOf (cd24 [1, 0, 1, 0, 0, 0, 0])) [], .code (cd24 [1, 0, 1, 0, 0, 0, 1]), .code (cd24 [1, 0, 1, 0, 0, 1]), .inLoop (cd24 [1, 0, 1, 0, 0]), .inBlock 0, .code (cd24 [1, 1])]) (us := [(4, .int .i64 t11), (5, .slice Aa0 a0.length ca0), (6, .int .i64 (a0.length : Int))]) (d := 7) (t := (decide (t11 < (a0.length : Int)))) (by kernel_rfl) (fun h22 => ?_) (fun h23 => ?_)
    · skip
      have hp24 := ite_t hb17 h22
      refine sx_run 6 (todo' := [.code (cd24 [1, 0, 1, 0, 0, 1, 0, 0, 0]), .code (cd24 [1, 0, 1, 0, 0, 1, 0, 0, 1]), .inBlock 1, .code (cd24 [1, 0, 1, 0, 0, 1, 1]), .inLoop (cd24 [1, 0, 1, 0, 0]), .inBlock 0, .code (cd24 [1, 1])]) (us := []) (by kernel_rfl) ?_
      refine r_quiet hS13 (c := (cd24 [1, 0, 1, 0, 0, 1, 0, 0, 0])) (id := 4) (by kernel_rfl) (by kernel_rfl) (by kernel_rfl) (is := [0, 1, 2, 3, 4, 5, 6, 7, 8, 9, 10, 11, 12, 13, 14, 15, 16, 17, 18, 19, 20, 21, 22]) (by kernel_rfl) ?_
      refine q_run 2 (is' := [2, 3, 4, 5, 6, 7, 8, 9, 10, 11, 12, 13, 14, 15, 16, 17, 18, 19, 20, 21, 22]) (us := [(10, .slice Aa0 a0.length ca0), (11, .int .i64 t11)]) (by kernel_rfl) ?_
      obtain ⟨g25, hp26⟩ := ite_some hp24
      obtain ⟨b27, p28, hA29, hc30⟩ := ha0.atF g25.1 g25.2
      refine q_indexAddr (c := (cd24 [1, 0, 1, 0, 0, 1, 0, 0, 0])) (i := 2) (d := (some 12)) (ty := 0) (t := 36) (e := 24) (n := a0.length) (cp := ca0) (sz := 49) (kk := .i64) (x := (.tmp 10)) (y := (.tmp 11)) (b := b27) (o' := p28) (j := t11) (by kernel_rfl) (by kernel_rfl) (slv (by kernel_rfl) hA29) (by kernel_rfl) (by kernel_rfl) (by kernel_rfl) g25.1 g25.2 ?_
      refine q_load (c := (cd24 [1, 0, 1, 0, 0, 1, 0, 0, 0])) (i := 3) (d := (some 13)) (ty := 24) (t := 24) (x := (.tmp 12)) (p := ⟨b27, p28 + t11.toNat * 49, none⟩) (v := .agg (enc_api_Final (gt a0 t11)).toArray) (by kernel_rfl) (by kernel_rfl) (by kernel_rfl) (fun w hC => (loads_agg (hc30.cells hC) (by kernel_rfl) (lenK (len_api_Final _) (by kernel_rfl)))) ?_
      obtain ⟨t31, hr32, hp33⟩ := bind_some' hp26
      refine q_call1 (c := (cd24 [1, 0, 1, 0, 0, 1, 0, 0, 0])) (i := 4) (d := (some 14)) (v := .int .i64 t31) (g := 20) (args := #[.agg (enc_api_Final (gt a0 t11)).toArray]) (by kernel_rfl) (by kernel_rfl) (by kernel_rfl) (by kernel_rfl) (fun w hC => by
        refine (weirref10_Check.ok (gt a0 t11) hC hr32).mono ?_
        rintro e w2 ⟨rfl, h2⟩
        exact ⟨rfl, h2⟩) ?_
      refine q_splitr 1 (is' := [6, 7, 8, 9, 10, 11, 12, 13, 14, 15, 16, 17, 18, 19, 20, 21, 22]) (us := []) (d := 15) (t := (t31 != 0)) (by kernel_rfl) (fun h34 => ?_) (fun h35 => ?_)
      · skip
        have hp36 := ite_t hp33 h34
        refine q_run 17 (is' := []) (us := [(16, .bool true), (17, undef), (18, undef), (19, undef), (20, undef), (21, undef), (22, undef), (23, undef), (24, undef), (25, undef), (26, undef), (27, undef), (28, undef), (29, undef), (30, undef), (31, undef), (32, .bool true)]) (by kernel_rfl) ?_
        refine Qs.nil ?_
        intro w37 hS38
        refine sx_run 5 (todo' := [.code (cd24 [1, 0, 1, 0, 0, 1, 0, 0, 1, 0, 1]), .inBlock 1, .code (cd24 [1, 0, 1, 0, 0, 1, 1]), .inLoop (cd24 [1, 0, 1, 0, 0]), .inBlock 0, .code (cd24 [1, 1])]) (us := [(2, .bool false)]) (by kernel_rfl) ?_
        refine runs_ret (fn := Try.f24) (v := .bool false) Try.func24 (by kernel_rfl) ?_
        have hr39 := (hq21 _ (Option.some.inj hp36))
        cases hr39
        exact hR _ _ ⟨rfl, hS38⟩
      · skip
        have hp40 := ite_f hp33 h35
        refine q_splitr 3 (is' := [9, 10, 11, 12, 13, 14, 15, 16, 17, 18, 19, 20, 21, 22]) (us := [(16, .bool false), (17, .int .i64 t11)]) (d := 18) (t := (decide (t11 > 0))) (by kernel_rfl) (fun h41 => ?_) (fun h42 => ?_)
        · skip
          have hp43 := ite_t hp40 h41
          refine q_run 4 (is' := [13, 14, 15, 16, 17, 18, 19, 20, 21, 22]) (us := [(19, .bool true), (20, .slice Aa0 a0.length ca0), (21, .int .i64 t11), (22, .int .i64 (IntKind.i64.wrap (t11 - 1)))]) (by kernel_rfl) ?_
          obtain ⟨g44, hp45⟩ := ite_some hp43
          obtain ⟨b46, p47, hA48, hc49⟩ := ha0.atF g44.1 g44.2
          refine q_indexAddr (c := (cd24 [1, 0, 1, 0, 0, 1, 0, 0, 0])) (i := 13) (d := (some 23)) (ty := 0) (t := 36) (e := 24) (n := a0.length) (cp := ca0) (sz := 49) (kk := .i64) (x := (.tmp 20)) (y := (.tmp 22)) (b := b46) (o' := p47) (j := (IntKind.i64.wrap (t11 - 1))) (by kernel_rfl) (by kernel_rfl) (slv (by kernel_rfl) hA48) (by kernel_rfl) (by kernel_rfl) (by kernel_rfl) g44.1 g44.2 ?_
          refine q_load (c := (cd24 [1, 0, 1, 0, 0, 1, 0, 0, 0])) (i := 14) (d := (some 24)) (ty := 24) (t := 24) (x := (.tmp 23)) (p := ⟨b46, p47 + (IntKind.i64.wrap (t11 - 1)).toNat * 49, none⟩) (v := .agg (enc_api_Final (gt a0 (IntKind.i64.wrap (t11 - 1)))).toArray) (by kernel_rfl) (by kernel_rfl) (by kernel_rfl) (fun w hC => (loads_agg (hc49.cells hC) (by kernel_rfl) (lenK (len_api_Final _) (by kernel_rfl)))) ?_
          refine q_run 2 (is' := [17, 18, 19, 20, 21, 22]) (us := [(25, .slice Aa0 a0.length ca0), (26, .int .i64 t11)]) (by kernel_rfl) ?_
          obtain ⟨g50, hp51⟩ := ite_some hp45
          obtain ⟨b52, p53, hA54, hc55⟩ := ha0.atF g50.1 g50.2
          refine q_indexAddr (c := (cd24 [1, 0, 1, 0, 0, 1, 0, 0, 0])) (i := 17) (d := (some 27)) (ty := 0) (t := 36) (e := 24) (n := a0.length) (cp := ca0) (sz := 49) (kk := .i64) (x := (.tmp 25)) (y := (.tmp 26)) (b := b52) (o' := p53) (j := t11) (by kernel_rfl) (by kernel_rfl) (slv (by kernel_rfl) hA54) (by kernel_rfl) (by kernel_rfl) (by kernel_rfl) g50.1 g50.2 ?_
          refine q_load (c := (cd24 [1, 0, 1, 0, 0, 1, 0, 0, 0])) (i := 18) (d := (some 28)) (ty := 24) (t := 24) (x := (.tmp 27)) (p := ⟨b52, p53 + t11.toNat * 49, none⟩) (v := .agg (enc_api_Final (gt a0 t11)).toArray) (by kernel_rfl) (by kernel_rfl) (by kernel_rfl) (fun w hC => (loads_agg (hc55.cells hC) (by kernel_rfl) (lenK (len_api_Final _) (by kernel_rfl)))) ?_
          obtain ⟨t56, hr57, hp58⟩ := bind_some' hp51
          refine q_call1 (c := (cd24 [1, 0, 1, 0, 0, 1, 0, 0, 0])) (i := 19) (d := (some 29)) (v := .int .i64 t56) (g := 22) (args := #[.agg (enc_api_Final (gt a0 (IntKind.i64.wrap (t11 - 1)))).toArray, .agg (enc_api_Final (gt a0 t11)).toArray]) (by kernel_rfl) (by kernel_rfl) (by kernel_rfl) (by kernel_rfl) (fun w hC => by
            refine (weirref10_Compare.ok (gt a0 (IntKind.i64.wrap (t11 - 1))) (gt a0 t11) hC hr57).mono ?_
            rintro e w2 ⟨rfl, h2⟩
            exact ⟨rfl, h2⟩) ?_
          refine q_splitr 1 (is' := [21, 22]) (us := []) (d := 30) (t := (decide (t56 ≥ 0))) (by kernel_rfl) (fun h59 => ?_) (fun h60 => ?_)
          · skip
            have hp61 := ite_t hp58 h59
            refine q_run 2 (is' := []) (us := [(31, .bool true), (32, .bool true)]) (by kernel_rfl) ?_
            refine Qs.nil ?_
            intro w62 hS63
            refine sx_run 5 (todo' := [.code (cd24 [1, 0, 1, 0, 0, 1, 0, 0, 1, 0, 1]), .inBlock 1, .code (cd24 [1, 0, 1, 0, 0, 1, 1]), .inLoop (cd24 [1, 0, 1, 0, 0]), .inBlock 0, .code (cd24 [1, 1])]) (us := [(2, .bool false)]) (by kernel_rfl) ?_
            refine runs_ret (fn := Try.f24) (v := .bool false) Try.func24 (by kernel_rfl) ?_
            have hr64 := (hq21 _ (Option.some.inj hp61))
            cases hr64
            exact hR _ _ ⟨rfl, hS63⟩
          · skip
            have hp65 := ite_f hp58 h60
            refine q_run 2 (is' := []) (us := [(31, .bool false), (32, .bool false)]) (by kernel_rfl) ?_
            refine Qs.nil ?_
            intro w66 hS67
            refine sx_run 8 (todo' := [.inLoop (cd24 [1, 0, 1, 0, 0]), .inBlock 0, .code (cd24 [1, 1])]) (us := [(8, .int .i64 t11), (9, .int .i64 (IntKind.i64.wrap (t11 + 1))), (3, .int .i64 (IntKind.i64.wrap (t11 + 1)))]) (by kernel_rfl) ?_
            refine sx_run 1 (todo' := [.code (cd24 [1, 0, 1, 0, 0]), .inLoop (cd24 [1, 0, 1, 0, 0]), .inBlock 0, .code (cd24 [1, 1])]) (us := []) (by kernel_rfl) ?_
            refine Runs.fill (m := [some (.slice Aa0 a0.length ca0), none, none, some (.int .i64 (IntKind.i64.wrap (t11 + 1))), none, none, none, none, none, none, none, none, none, none, none, none, none, none, none, none, none, none, none, none, none, none, none, none, none, none, none, none, none]) (by kernel_rfl) ?_
            exact ih18 (IntKind.i64.wrap (t11 + 1)) _ hp65 he16 _ _ hS67
        · skip
          have hp68 := ite_f hp40 h42
          refine q_run 14 (is' := []) (us := [(19, .bool false), (20, undef), (21, undef), (22, undef), (23, undef), (24, undef), (25, undef), (26, undef), (27, undef), (28, undef), (29, undef), (30, undef), (31, .bool false), (32, .bool false)]) (by kernel_rfl) ?_
          refine Qs.nil ?_
          intro w69 hS70
          refine sx_run 8 (todo' := [.inLoop (cd24 [1, 0, 1, 0, 0]), .inBlock 0, .code (cd24 [1, 1])]) (us := [(8, .int .i64 t11), (9, .int .i64 (IntKind.i64.wrap (t11 + 1))), (3, .int .i64 (IntKind.i64.wrap (t11 + 1)))]) (by kernel_rfl) ?_
          refine sx_run 1 (todo' := [.code (cd24 [1, 0, 1, 0, 0]), .inLoop (cd24 [1, 0, 1, 0, 0]), .inBlock 0, .code (cd24 [1, 1])]) (us := []) (by kernel_rfl) ?_
          refine Runs.fill (m := [some (.slice Aa0 a0.length ca0), none, none, some (.int .i64 (IntKind.i64.wrap (t11 + 1))), none, none, none, none, none, none, none, none, none, none, none, none, none, none, none, none, none, none, none, none, none, none, none, none, none, none, none, none, none]) (by kernel_rfl) ?_
          exact ih18 (IntKind.i64.wrap (t11 + 1)) _ hp68 he16 _ _ hS70
    · skip
      have hp71 := ite_f hb17 h23
      refine sx_run 3 (todo' := [.code (cd24 [1, 1])]) (us := []) (by kernel_rfl) ?_
      refine Runs.fill (m := [none, none, none, none, none, none, none, none, none, none, none, none, none, none, none, none, none, none, none, none, none, none, none, none, none, none, none, none, none, none, none, none, none]) (by kernel_rfl) ?_
      exact J7 ((Option.some.inj hp71).trans he16) _ _ hS13
  refine Runs.fill (m := [some (.slice Aa0 a0.length ca0), none, none, some (.int .i64 0), none, none, none, none, none, none, none, none, none, none, none, none, none, none, none, none, none, none, none, none, none, none, none, none, none, none, none, none, none]) (by kernel_rfl) ?_
  exact L20 0 _ hv2 rfl _ _ hS0

noncomputable def cd25 (p : List Nat) : Code := sub (bodyOf Try.f25) p
def weirlaw10_Same.l0 (a0 : List api_Final) (a1 : List api_Final) (t16 : Int) : Option (Sum Unit Bool) :=
  (if (decide (t16 < (a0.length : Int))) = true then (if 0 ≤ t16 ∧ t16 < (a0.length : Int) then (if 0 ≤ t16 ∧ t16 < (a1.length : Int) then (if (!(decide ((gt a0 t16) = (gt a1 t16)))) = true then some (.inr (false)) else (weirlaw10_Same.l0 a0 a1 (IntKind.i64.wrap (t16 + 1)))) else none) else none) else some (.inl ()))
 partial_fixpoint
def weirlaw10_Same.f (a0 : List api_Final) (a1 : List api_Final) : Option Bool :=
  (if ((a0.length : Int) != (a1.length : Int)) = true then some (false) else (weirlaw10_Same.l0 a0 a1 0 >>= (fun | .inl () => some (true) | .inr e => some e)))
set_option maxHeartbeats 16000000 in
theorem weirlaw10_Same.ok (a0 : List api_Final) (a1 : List api_Final) (Aa0 : Option Addr) (ca0 : Nat) (Aa1 : Option Addr) (ca1 : Nat) {w0 : World} {Z : Zm} {fs : List XObj} {w : World} (hS0 : St w0 Z (fs) w) (ha0 : SlZ (flat enc_api_Final) 49 Z Aa0 ca0 a0) (ha1 : SlZ (flat enc_api_Final) 49 Z Aa1 ca1 a1) {q0 : Bool} (hp0 : weirlaw10_Same.f a0 a1 = some q0) :
    Calls Try.prog 25 #[.slice Aa0 a0.length ca0, .slice Aa1 a1.length ca1] w (fun e w' => e = .returned (.bool q0) ∧ St w0 Z (fs) w') := by
  refine calls_abs ?_; intro R hR
  unfold weirlaw10_Same.f at hp0
  refine calls_of_runs (fn := Try.f25) (c := cd25 []) Try.func25 (by kernel_rfl) (al := [.slice Aa0 a0.length ca0, .slice Aa1 a1.length ca1]) rfl (n := 24) rfl ?_
  refine sx_split 12 (todo' := [.inRegion (opsOf (cd25 [1, 0, 0])) [], .code (cd25 [1, 0, 1]), .code (cd25 [1, 1])]) (us := [(4, .bool false), (6, .slice Aa0 a0.length ca0), (7, .int .i64 (a0.length : Int)), (8, .slice Aa1 a1.length ca1), (9, .int .i64 (a1.length : Int))]) (d := 10) (t := ((a0.length : Int) != (a1.length : Int))) (by kernel_rfl) (fun h1 => ?_) (fun h2 => ?_)
  · skip
    have hp3 := ite_t hp0 h1
    refine sx_run 6 (todo' := [.code (cd25 [1, 0, 1, 0, 1]), .code (cd25 [1, 1])]) (us := [(4, .bool false)]) (by kernel_rfl) ?_
    refine runs_ret (fn := Try.f25) (v := .bool false) Try.func25 (by kernel_rfl) ?_
    have hr4 := (Option.some.inj hp3)
    cases hr4
    exact hR _ _ ⟨rfl, hS0⟩
  · skip
    have hp5 := ite_f hp0 h2
    refine sx_run 10 (todo' := [.code (cd25 [1, 1, 0, 1, 0, 0]), .inLoop (cd25 [1, 1, 0, 1, 0, 0]), .inBlock 0, .code (cd25 [1, 1, 1])]) (us := [(5, .int .i64 0)]) (by kernel_rfl) ?_
    obtain ⟨v6, hv7, hp8⟩ := bind_some' hp5
    have hq11 : ∀ x, Sum.inr x = v6 → x = q0 := by intro x hx; subst hx; simpa using hp8
    have J12 : ∀ (he14 : Sum.inl () = v6) (l13 : List Value) (w9 : World) (hS10 : St w0 Z (fs) w9), Runs Try.prog 25 [.code (cd25 [1, 1, 1])] (fill [none, none, none, none, none, none, none, none, none, none, none, none, none, none, none, none, none, none, none, none, none, none, none, none, none, none] l13) w9 R := by
      intro he14 l13 w9 hS10
      subst he14
      try dsimp only at hp8
      refine sx_run 4 (todo' := [.code (cd25 [1, 1, 1, 1])]) (us := [(4, .bool true)]) (by kernel_rfl) ?_
      refine runs_ret (fn := Try.f25) (v := .bool true) Try.func25 (by kernel_rfl) ?_
      have hr15 := (Option.some.inj hp8)
      cases hr15
      exact hR _ _ ⟨rfl, hS10⟩
    have L25 : ∀ (t16 : Int) (e20 : Sum Unit Bool), weirlaw10_Same.l0 a0 a1 t16 = some e20 → e20 = v6 → ∀ (l19 : List Value) (w17 : World) (hS18 : St w0 Z (fs) w17), Runs Try.prog 25 [.code (cd25 [1, 1, 0, 1, 0, 0]), .inLoop (cd25 [1, 1, 0, 1, 0, 0]), .inBlock 0, .code (cd25 [1, 1, 1])] (fill [some (.slice Aa0 a0.length ca0), some (.slice Aa1 a1.length ca1), none, none, none, some (.int .i64 t16), none, none, none, none, none, none, none, none, none, none, none, none, none, none, none, none, none, none, none, none] l19) w17 R := by
      refine weirlaw10_Same.l0.partial_correctness a0 a1 (fun t16 e20 => e20 = v6 → ∀ (l19 : List Value) (w17 : World) (hS18 : St w0 Z (fs) w17), Runs Try.prog 25 [.code (cd25 [1, 1, 0, 1, 0, 0]), .inLoop (cd25 [1, 1, 0, 1, 0, 0]), .inBlock 0, .code (cd25 [1, 1, 1])] (fill [some (.slice Aa0 a0.length ca0), some (.slice Aa1 a1.length ca1), none, none, none, some (.int .i64 t16), none, none, none, none, none, none, none, none, none, none, none, none, none, none, none, none, none, none, none, none] l19) w17 R) ?_
      intro rec24 ih23 t16 e20 hb22 he21 l19 w17 hS18
      have hq26 : ∀ x, Sum.inr x = e20 → x = q0 := fun x hx => hq11 x (hx.trans he21)
      refine sx_split 7 (todo' := [.inRegion (opsOf (cd25 [1, 1, 0, 1, 0, 0, 0, 0])) [], .code (cd25 [1, 1, 0, 1, 0, 0, 0, 1]), .code (cd25 [1, 1, 0, 1, 0, 0, 1]), .inLoop (cd25 [1, 1, 0, 1, 0, 0]), .inBlock 0, .code (cd25 [1, 1, 1])]) (us := [(11, .int .i64 t16), (12, .slice Aa0 a0.length ca0), (13, .int .i64 (a0.length : Int))]) (d := 14) (t := (decide (t16 < (a0.length : Int)))) (by kernel_rfl) (fun h27 => ?_) (fun h28 => ?_)
      · skip
        have hp29 := ite_t hb22 h27
        refine sx_run 6 (todo' := [.code (cd25 [1, 1, 0, 1, 0, 0, 1, 0, 0, 0]), .code (cd25 [1, 1, 0, 1, 0, 0, 1, 0, 0, 1]), .inBlock 1, .code (cd25 [1, 1, 0, 1, 0, 0, 1, 1]), .inLoop (cd25 [1, 1, 0, 1, 0, 0]), .inBlock 0, .code (cd25 [1, 1, 1])]) (us := []) (by kernel_rfl) ?_
        refine r_quiet hS18 (c := (cd25 [1, 1, 0, 1, 0, 0, 1, 0, 0, 0])) (id := 6) (by kernel_rfl) (by kernel_rfl) (by kernel_rfl) (is := [0, 1, 2, 3, 4, 5, 6, 7, 8]) (by kernel_rfl) ?_
        refine q_run 2 (is' := [2, 3, 4, 5, 6, 7, 8]) (us := [(17, .slice Aa0 a0.length ca0), (18, .int .i64 t16)]) (by kernel_rfl) ?_
        obtain ⟨g30, hp31⟩ := ite_some hp29
        obtain ⟨b32, p33, hA34, hc35⟩ := ha0.atF g30.1 g30.2
        refine q_indexAddr (c := (cd25 [1, 1, 0, 1, 0, 0, 1, 0, 0, 0])) (i := 2) (d := (some 19)) (ty := 0) (t := 36) (e := 24) (n := a0.length) (cp := ca0) (sz := 49) (kk := .i64) (x := (.tmp 17)) (y := (.tmp 18)) (b := b32) (o' := p33) (j := t16) (by kernel_rfl) (by kernel_rfl) (slv (by kernel_rfl) hA34) (by kernel_rfl) (by kernel_rfl) (by kernel_rfl) g30.1 g30.2 ?_
        refine q_load (c := (cd25 [1, 1, 0, 1, 0, 0, 1, 0, 0, 0])) (i := 3) (d := (some 20)) (ty := 24) (t := 24) (x := (.tmp 19)) (p := ⟨b32, p33 + t16.toNat * 49, none⟩) (v := .agg (enc_api_Final (gt a0 t16)).toArray) (by kernel_rfl) (by kernel_rfl) (by kernel_rfl) (fun w hC => (loads_agg (hc35.cells hC) (by kernel_rfl) (lenK (len_api_Final _) (by kernel_rfl)))) ?_
        refine q_run 2 (is' := [6, 7, 8]) (us := [(21, .slice Aa1 a1.length ca1), (22, .int .i64 t16)]) (by kernel_rfl) ?_
        obtain ⟨g36, hp37⟩ := ite_some hp31
        obtain ⟨b38, p39, hA40, hc41⟩ := ha1.atF g36.1 g36.2
        refine q_indexAddr (c := (cd25 [1, 1, 0, 1, 0, 0, 1, 0, 0, 0])) (i := 6) (d := (some 23)) (ty := 0) (t := 36) (e := 24) (n := a1.length) (cp := ca1) (sz := 49) (kk := .i64) (x := (.tmp 21)) (y := (.tmp 22)) (b := b38) (o' := p39) (j := t16) (by kernel_rfl) (by kernel_rfl) (slv (by kernel_rfl) hA40) (by kernel_rfl) (by kernel_rfl) (by kernel_rfl) g36.1 g36.2 ?_
        refine q_load (c := (cd25 [1, 1, 0, 1, 0, 0, 1, 0, 0, 0])) (i := 7) (d := (some 24)) (ty := 24) (t := 24) (x := (.tmp 23)) (p := ⟨b38, p39 + t16.toNat * 49, none⟩) (v := .agg (enc_api_Final (gt a1 t16)).toArray) (by kernel_rfl) (by kernel_rfl) (by kernel_rfl) (fun w hC => (loads_agg (hc41.cells hC) (by kernel_rfl) (lenK (len_api_Final _) (by kernel_rfl)))) ?_
        refine q_val (c := (cd25 [1, 1, 0, 1, 0, 0, 1, 0, 0, 0])) (i := 8) (d := (some 25)) (ty := 4) (op := .binOp .neq 24 (.tmp 20) (.tmp 24) 24) (v := .bool (!(decide ((gt a0 t16) = (gt a1 t16))))) (by kernel_rfl) (by kernel_rfl) (fun w hC o ho _ => x_neq_api_Final (by kernel_rfl) (by kernel_rfl) ho) ?_
        refine q_split (!(decide ((gt a0 t16) = (gt a1 t16)))) (fun h42 => ?_) (fun h43 => ?_)
        · skip
          have hp44 := ite_t hp37 h42
          refine Qs.nil ?_
          intro w45 hS46
          refine sx_run 5 (todo' := [.code (cd25 [1, 1, 0, 1, 0, 0, 1, 0, 0, 1, 0, 1]), .inBlock 1, .code (cd25 [1, 1, 0, 1, 0, 0, 1, 1]), .inLoop (cd25 [1, 1, 0, 1, 0, 0]), .inBlock 0, .code (cd25 [1, 1, 1])]) (us := [(4, .bool false)]) (by kernel_rfl) ?_
          refine runs_ret (fn := Try.f25) (v := .bool false) Try.func25 (by kernel_rfl) ?_
          have hr47 := (hq26 _ (Option.some.inj hp44))
          cases hr47
          exact hR _ _ ⟨rfl, hS46⟩
        · skip
          have hp48 := ite_f hp37 h43
          refine Qs.nil ?_
          intro w49 hS50
          refine sx_run 8 (todo' := [.inLoop (cd25 [1, 1, 0, 1, 0, 0]), .inBlock 0, .code (cd25 [1, 1, 1])]) (us := [(15, .int .i64 t16), (16, .int .i64 (IntKind.i64.wrap (t16 + 1))), (5, .int .i64 (IntKind.i64.wrap (t16 + 1)))]) (by kernel_rfl) ?_
          refine sx_run 1 (todo' := [.code (cd25 [1, 1, 0, 1, 0, 0]), .inLoop (cd25 [1, 1, 0, 1, 0, 0]), .inBlock 0, .code (cd25 [1, 1, 1])]) (us := []) (by kernel_rfl) ?_
          refine Runs.fill (m := [some (.slice Aa0 a0.length ca0), some (.slice Aa1 a1.length ca1), none, none, none, some (.int .i64 (IntKind.i64.wrap (t16 + 1))), none, none, none, none, none, none, none, none, none, none, none, none, none, none, none, none, none, none, none, none]) (by kernel_rfl) ?_
          exact ih23 (IntKind.i64.wrap (t16 + 1)) _ hp48 he21 _ _ hS50
      · skip
        have hp51 := ite_f hb22 h28
        refine sx_run 3 (todo' := [.code (cd25 [1, 1, 1])]) (us := []) (by kernel_rfl) ?_
        refine Runs.fill (m := [none, none, none, none, none, none, none, none, none, none, none, none, none, none, none, none, none, none, none, none, none, none, none, none, none, none]) (by kernel_rfl) ?_
        exact J12 ((Option.some.inj hp51).trans he21) _ _ hS18
    refine Runs.fill (m := [some (.slice Aa0 a0.length ca0), some (.slice Aa1 a1.length ca1), none, none, none, some (.int .i64 0), none, none, none, none, none, none, none, none, none, none, none, none, none, none, none, none, none, none, none, none]) (by kernel_rfl) ?_
    exact L25 0 _ hv7 rfl _ _ hS0

noncomputable def cd26 (p : List Nat) : Code := sub (bodyOf Try.f26) p
def weirlaw10_Back.f (a0 : List api_Final) (a0n : Nat) (a1 : List api_Final) : Option Bool :=
  (if 0 ≤ (IntKind.i64.wrap ((a1.length : Int) + 1)) ∧ (IntKind.i64.wrap ((a1.length : Int) + 1)) ≤ (a0.length : Int) then (if a0n ≤ a0.length then (weirlaw10_Same.f (a0.take a0n) a1 >>= (fun t7 => (if t7 = true then (if 0 ≤ (a1.length : Int) ∧ (a1.length : Int) < (((IntKind.i64.wrap ((a1.length : Int) + 1)).toNat : Nat) : Int) ∧ (a1.length : Int) < (a0.length : Int) then (if (((gt a0 (a1.length : Int)).N) == (-7)) = true then some (true) else some (false)) else none) else some (false)))) else none) else none)
set_option maxHeartbeats 16000000 in
theorem weirlaw10_Back.ok (a0 : List api_Final) (a0n : Nat) (a1 : List api_Final) (Aa0 : Option Addr) (ca0 : Nat) (Aa1 : Option Addr) (ca1 : Nat) {w0 : World} {Z : Zm} {fs : List XObj} {w : World} (hS0 : St w0 Z (xrow Aa0 ca0 24 49 (a0.flatMap enc_api_Final) :: fs) w) (ha1 : SlZ (flat enc_api_Final) 49 Z Aa1 ca1 a1) {q0 : Bool} (hp0 : weirlaw10_Back.f a0 a0n a1 = some q0) :
    Calls Try.prog 26 #[.slice Aa0 a0n ca0, .slice Aa1 a1.length ca1] w (fun e w' => e = .returned (.bool q0) ∧ St w0 Z (xrow Aa0 ca0 24 49 (a0.flatMap enc_api_Final) :: fs) w') := by
  refine calls_abs ?_; intro R hR
  unfold weirlaw10_Back.f at hp0
  refine calls_of_runs (fn := Try.f26) (c := cd26 []) Try.func26 (by kernel_rfl) (al := [.slice Aa0 a0n ca0, .slice Aa1 a1.length ca1]) rfl (n := 21) rfl ?_
  refine sx_run 10 (todo' := [.inRegion (opsOf (cd26 [1, 0])) [4, 5], .code (cd26 [1, 1])]) (us := [(4, .bool false), (6, .slice Aa0 a0n ca0), (7, .slice Aa1 a1.length ca1), (8, .int .i64 (a1.length : Int)), (9, .int .i64 (IntKind.i64.wrap ((a1.length : Int) + 1)))]) (by kernel_rfl) ?_
  obtain ⟨g1, hp2⟩ := ite_some hp0
  have hc3 := (hS0.row 0 rfl).cap len_api_Final (by omega)
  have g4 : 0 ≤ (IntKind.i64.wrap ((a1.length : Int) + 1)) ∧ (IntKind.i64.wrap ((a1.length : Int) + 1)) ≤ (ca0 : Int) := by omega
  refine r_val (c := (cd26 [1, 0])) (i := 4) (d := (some 10)) (ty := 36) (op := .slice 36 (.tmp 6) none (some (.tmp 9)) none) (v := .slice Aa0 ((IntKind.i64.wrap ((a1.length : Int) + 1)).toNat) ca0) (by kernel_rfl) (by kernel_rfl) (fun o ho _ => x_cutSl_nsC (e := 24) (sz := 49) (A := Aa0) (n := a0n) (c := ca0) (k := .i64) (by kernel_rfl) (by kernel_rfl) (by kernel_rfl) (by kernel_rfl) g4 cut0 ho) ?_
  refine sx_run 6 (todo' := [.inRegion (opsOf (cd26 [1, 1, 0])) [2, 3, 4, 5, 6, 7, 8, 9, 10, 11, 12], .code (cd26 [1, 1, 1])]) (us := [(5, .slice Aa0 ((IntKind.i64.wrap ((a1.length : Int) + 1)).toNat) ca0), (11, .slice Aa0 a0n ca0), (12, .slice Aa1 a1.length ca1)]) (by kernel_rfl) ?_
  obtain ⟨g5, hp6⟩ := ite_some hp2
  obtain ⟨t7, hr8, hp9⟩ := bind_some' hp6
  obtain ⟨Z10, hz11, hS12, hs13, hb14⟩ := hS0.lendrow len_api_Final (by omega)
  refine r_call1 (c := (cd26 [1, 1, 0])) (i := 2) (d := (some 13)) (g := 25) (args := #[.slice Aa0 a0n ca0, .slice Aa1 a1.length ca1]) (by kernel_rfl) (by kernel_rfl) (by kernel_rfl) (by kernel_rfl) (args_eq (by rw [lenTake g5]) (weirlaw10_Same.ok (a0.take a0n) a1 Aa0 ca0 Aa1 ca1 hS12 (hs13.take0 a0n) (ha1.up hz11) hr8)) ?_
  rintro _ w15 ⟨rfl, hS16⟩
  refine ⟨.bool t7, rfl, ?_⟩
  have hS17 := hb14 _ _ hS16
  refine sx_run 1 (todo' := [.inRegion (opsOf (cd26 [1, 1, 0])) [4, 5, 6, 7, 8, 9, 10, 11, 12], .code (cd26 [1, 1, 1])]) (us := [(14, .bool t7)]) (by kernel_rfl) ?_
  cases t7
  · skip
    have hp18 := ite_f hp9 rfl
    refine sx_run 10 (todo' := [.code (cd26 [1, 1, 1])]) (us := [(15, undef), (16, undef), (17, undef), (18, undef), (19, undef), (20, undef), (21, undef), (22, .bool false), (4, .bool false)]) (by kernel_rfl) ?_
    refine runs_ret (fn := Try.f26) (v := .bool false) Try.func26 (by kernel_rfl) ?_
    have hr19 := (Option.some.inj hp18)
    cases hr19
    exact hR _ _ ⟨rfl, hS17⟩
  · skip
    have hp20 := ite_t hp9 rfl
    refine sx_run 3 (todo' := [.inRegion (opsOf (cd26 [1, 1, 0])) [7, 8, 9, 10, 11, 12], .code (cd26 [1, 1, 1])]) (us := [(15, .slice Aa0 ((IntKind.i64.wrap ((a1.length : Int) + 1)).toNat) ca0), (16, .slice Aa1 a1.length ca1), (17, .int .i64 (a1.length : Int))]) (by kernel_rfl) ?_
    obtain ⟨g21, hp22⟩ := ite_some hp20
    obtain ⟨b23, p24, hA25, -⟩ := (hS17.row 0 rfl).at_ len_api_Final (by omega) (i := (a1.length : Int)) (by omega) g21.2.2
    have g26 : 0 ≤ (a1.length : Int) ∧ (a1.length : Int) < (a0.length : Int) := ⟨g21.1, g21.2.2⟩
    refine r_indexAddr (c := (cd26 [1, 1, 0])) (i := 7) (d := (some 18)) (ty := 0) (t := 36) (e := 24) (n := (IntKind.i64.wrap ((a1.length : Int) + 1)).toNat) (cp := ca0) (sz := 49) (kk := .i64) (x := (.tmp 15)) (y := (.tmp 17)) (b := b23) (o' := p24) (j := (a1.length : Int)) (by kernel_rfl) (by kernel_rfl) (slv (by kernel_rfl) hA25) (by kernel_rfl) (by kernel_rfl) (by kernel_rfl) g21.1 g21.2.1 ?_
    refine sx_run 1 (todo' := [.inRegion (opsOf (cd26 [1, 1, 0])) [9, 10, 11, 12], .code (cd26 [1, 1, 1])]) (us := [(19, .pointer (some ⟨b23, p24 + (a1.length : Int).toNat * 49, none⟩))]) (by kernel_rfl) ?_
    refine r_load (c := (cd26 [1, 1, 0])) (i := 9) (d := (some 20)) (ty := 3) (t := 3) (x := (.tmp 19)) (p := ⟨b23, p24 + (a1.length : Int).toNat * 49, none⟩) (v := .int .i64 ((gt a0 (a1.length : Int)).N)) (by kernel_rfl) (by kernel_rfl) (by kernel_rfl) (loads_at 0 ((hS17.row 0 rfl).at2 hA25 len_api_Final (by omega) g26.1 g26.2) (by kernel_rfl) (by kernel_rfl)) ?_
    refine sx_split 1 (todo' := [.inRegion (opsOf (cd26 [1, 1, 0])) [11, 12], .code (cd26 [1, 1, 1])]) (us := []) (d := 21) (t := (((gt a0 (a1.length : Int)).N) == (-7))) (by kernel_rfl) (fun h27 => ?_) (fun h28 => ?_)
    · skip
      have hp29 := ite_t hp22 h27
      refine sx_run 3 (todo' := [.code (cd26 [1, 1, 1])]) (us := [(22, .bool true), (4, .bool true)]) (by kernel_rfl) ?_
      refine runs_ret (fn := Try.f26) (v := .bool true) Try.func26 (by kernel_rfl) ?_
      have hr30 := (Option.some.inj hp29)
      cases hr30
      exact hR _ _ ⟨rfl, hS17⟩
    · skip
      have hp31 := ite_f hp22 h28
      refine sx_run 3 (todo' := [.code (cd26 [1, 1, 1])]) (us := [(22, .bool false), (4, .bool false)]) (by kernel_rfl) ?_
      refine runs_ret (fn := Try.f26) (v := .bool false) Try.func26 (by kernel_rfl) ?_
      have hr32 := (Option.some.inj hp31)
      cases hr32
      exact hR _ _ ⟨rfl, hS17⟩

noncomputable def cd27 (p : List Nat) : Code := sub (bodyOf Try.f27) p
def weirlaw10_Spoil.l1 (t19 : List api_Final) (t23 : Int) : Option Unit :=
  (if (decide (t23 < 12)) = true then (if (t19.length + ([(⟨(-8), (Vector.replicate 48 0)⟩ : api_Final)] : List api_Final).length) * 392 ≤ 140737488355328 then (weirlaw10_Spoil.l1 (t19 ++ ([(⟨(-8), (Vector.replicate 48 0)⟩ : api_Final)] : List api_Final)) (IntKind.i64.wrap (t23 + 1))) else none) else some (()))
 partial_fixpoint
def weirlaw10_Spoil.l0 (t52 : Int) (t53 : List api_Final) : Option (List api_Final) :=
  (if (decide (t52 < (t53.length : Int))) = true then (if 0 ≤ t52 ∧ t52 < (t53.length : Int) then (weirlaw10_Spoil.l0 (IntKind.i64.wrap (t52 + 1)) (setl t53 t52 (⟨(-9), (gt t53 t52).V⟩ : api_Final))) else none) else some (t53))
 partial_fixpoint
def weirlaw10_Spoil.f (a0 : List api_Final) : Option Unit :=
  (weirlaw10_Spoil.l0 0 a0 >>= (fun t4 => (weirlaw10_Spoil.l1 t4 0 >>= (fun _ => some (())))))
set_option maxHeartbeats 16000000 in
theorem weirlaw10_Spoil.ok (a0 : List api_Final) (Aa0 : Option Addr) (ca0 : Nat) {w0 : World} {Z : Zm} {fs : List XObj} {w : World} (hS0 : St w0 Z (xrow Aa0 ca0 24 49 (a0.flatMap enc_api_Final) :: fs) w) (hp0 : weirlaw10_Spoil.f a0 = some ()) :
    Calls Try.prog 27 #[.slice Aa0 a0.length ca0] w (fun e w' => e = .returned (.tuple #[]) ∧ St w0 Z (fs) w') := by
  refine calls_abs ?_; intro R hR
  unfold weirlaw10_Spoil.f at hp0
  refine calls_of_runs (fn := Try.f27) (c := cd27 []) Try.func27 (by kernel_rfl) (al := [.slice Aa0 a0.length ca0]) rfl (n := 21) rfl ?_
  refine sx_run 7 (todo' := [.code (cd27 [0, 1, 0, 0]), .inLoop (cd27 [0, 1, 0, 0]), .inBlock 0, .code (cd27 [1])]) (us := [(2, .int .i64 0)]) (by kernel_rfl) ?_
  obtain ⟨v1, hv2, hp3⟩ := bind_some' hp0
  have J7 : ∀ (t4 : List api_Final) (he9 : t4 = v1) (l8 : List Value) (w5 : World) (hS6 : St w0 Z (xrow Aa0 ca0 24 49 (t4.flatMap enc_api_Final) :: fs) w5), Runs Try.prog 27 [.code (cd27 [1])] (fill [some (.slice Aa0 t4.length ca0), none, none, none, none, none, none, none, none, none, none, none, none, none, none, none, none, none, none, none, none, none] l8) w5 R := by
    intro t4 he9 l8 w5 hS6
    subst he9
    try dsimp only at hp3
    refine sx_run 6 (todo' := [.code (cd27 [1, 1, 0, 0]), .inLoop (cd27 [1, 1, 0, 0]), .inBlock 2]) (us := [(3, .int .i64 0)]) (by kernel_rfl) ?_
    obtain ⟨v10, hv11, hp12⟩ := bind_some' hp3
    have J15 : ∀ (he17 : () = v10) (l16 : List Value) (w13 : World) (hS14 : St w0 Z (fs) w13), Runs Try.prog 27 [] (fill [none, none, none, none, none, none, none, none, none, none, none, none, none, none, none, none, none, none, none, none, none, none] l16) w13 R := by
      intro he17 l16 w13 hS14
      subst he17
      try dsimp only at hp12
      refine runs_end (fn := Try.f27) (v := .tuple #[]) Try.func27 (by kernel_rfl) ?_
      have hr18 := (Option.some.inj hp12)
      cases hr18
      exact hR _ _ ⟨rfl, hS14⟩
    have L32 : ∀ (t19 : List api_Final) (t23 : Int) (e27 : Unit), weirlaw10_Spoil.l1 t19 t23 = some e27 → e27 = v10 → ∀ (l26 : List Value) (A20 : Option Addr) (c21 : Nat) (w24 : World) (hS25 : St w0 Z (xrow A20 c21 24 49 (t19.flatMap enc_api_Final) :: fs) w24), Runs Try.prog 27 [.code (cd27 [1, 1, 0, 0]), .inLoop (cd27 [1, 1, 0, 0]), .inBlock 2] (fill [some (.slice A20 t19.length c21), none, none, some (.int .i64 t23), none, none, none, none, none, none, none, none, none, none, none, none, none, none, none, none, none, none] l26) w24 R := by
      refine weirlaw10_Spoil.l1.partial_correctness (fun t19 t23 e27 => e27 = v10 → ∀ (l26 : List Value) (A20 : Option Addr) (c21 : Nat) (w24 : World) (hS25 : St w0 Z (xrow A20 c21 24 49 (t19.flatMap enc_api_Final) :: fs) w24), Runs Try.prog 27 [.code (cd27 [1, 1, 0, 0]), .inLoop (cd27 [1, 1, 0, 0]), .inBlock 2] (fill [some (.slice A20 t19.length c21), none, none, some (.int .i64 t23), none, none, none, none, none, none, none, none, none, none, none, none, none, none, none, none, none, none] l26) w24 R) ?_
      intro rec31 ih30 t19 t23 e27 hb29 he28 l26 A20 c21 w24 hS25
      refine sx_split 5 (todo' := [.inRegion (opsOf (cd27 [1, 1, 0, 0, 0, 0])) [], .code (cd27 [1, 1, 0, 0, 0, 1]), .code (cd27 [1, 1, 0, 0, 1]), .inLoop (cd27 [1, 1, 0, 0]), .inBlock 2]) (us := [(14, .int .i64 t23)]) (d := 15) (t := (decide (t23 < 12))) (by kernel_rfl) (fun h33 => ?_) (fun h34 => ?_)
      · skip
        have hp35 := ite_t hb29 h33
        refine sx_run 8 (todo' := [.inRegion (opsOf (cd27 [1, 1, 0, 0, 1, 0, 0])) [2, 3, 4], .inBlock 3, .code (cd27 [1, 1, 0, 0, 1, 1]), .inLoop (cd27 [1, 1, 0, 0]), .inBlock 2]) (us := [(18, .slice A20 t19.length c21), (19, .agg (enc_api_Final (⟨(-8), (Vector.replicate 48 0)⟩ : api_Final)).toArray)]) (by kernel_rfl) ?_
        refine r_lit (c := (cd27 [1, 1, 0, 0, 1, 0, 0])) (i := 2) (d := (some 20)) (ty := 36) (t := 36) (e := 24) (sz := 49) (n := 1) (parts := #[(0, (.tmp 19))]) (vs := [(0, .agg (enc_api_Final (⟨(-8), (Vector.replicate 48 0)⟩ : api_Final)).toArray)]) (z := zeroOf Try.prog 24) (cs' := ([(⟨(-8), (Vector.replicate 48 0)⟩ : api_Final)] : List api_Final).flatMap enc_api_Final) hS25 (by kernel_rfl) (by kernel_rfl) (by kernel_rfl) (by kernel_rfl) (by kernel_rfl) (by decide) (by decide) (by kernel_rfl) rfl (Parts.cons (c := enc_api_Final (⟨(-8), (Vector.replicate 48 0)⟩ : api_Final)) (by kernel_rfl) (len_api_Final _) Parts.nil) rfl ?_
        intro b37 w38 hS39
        have hS40 := hS39.pick1
        obtain ⟨g41, hp42⟩ := ite_some hp35
        refine r_append (c := (cd27 [1, 1, 0, 0, 1, 0, 0])) (i := 3) (d := (some 21)) (ty := 36) (enc := enc_api_Final) (e := 24) (u := 24) (t := 36) (t2 := 36) (sz := 49) (cp := c21) (A := A20) (bytes := 392) (xs := t19) (ys := ([(⟨(-8), (Vector.replicate 48 0)⟩ : api_Final)] : List api_Final)) (s := (.tmp 18)) (x := (.tmp 20)) (xv := .slice (some ⟨b37, 0, none⟩) ([(⟨(-8), (Vector.replicate 48 0)⟩ : api_Final)] : List api_Final).length 1) (info := infoOf Try.prog 24) (z := zeroOf Try.prog 24) (ycs := ([(⟨(-8), (Vector.replicate 48 0)⟩ : api_Final)] : List api_Final).flatMap enc_api_Final) hS40 (by kernel_rfl) (by kernel_rfl) (by kernel_rfl) (by kernel_rfl) (by kernel_rfl) (.inl (by kernel_rfl)) (by kernel_rfl) (by kernel_rfl) (by kernel_rfl) (by kernel_rfl) (by kernel_rfl) (by omega) len_api_Final one_api_Final (src_row (hS40.row 1 rfl) (by omega) len_api_Final) rfl g41 (by omega) ?_
        intro A43 c44 w45 hS46
        refine sx_run 8 (todo' := [.inLoop (cd27 [1, 1, 0, 0]), .inBlock 2]) (us := [(0, .slice A43 (t19 ++ ([(⟨(-8), (Vector.replicate 48 0)⟩ : api_Final)] : List api_Final)).length c44), (16, .int .i64 t23), (17, .int .i64 (IntKind.i64.wrap (t23 + 1))), (3, .int .i64 (IntKind.i64.wrap (t23 + 1)))]) (by kernel_rfl) ?_
        have hS48 := hS46.pick1
        have hS49 := hS48.drop
        refine sx_run 1 (todo' := [.code (cd27 [1, 1, 0, 0]), .inLoop (cd27 [1, 1, 0, 0]), .inBlock 2]) (us := []) (by kernel_rfl) ?_
        refine Runs.fill (m := [some (.slice A43 (t19 ++ ([(⟨(-8), (Vector.replicate 48 0)⟩ : api_Final)] : List api_Final)).length c44), none, none, some (.int .i64 (IntKind.i64.wrap (t23 + 1))), none, none, none, none, none, none, none, none, none, none, none, none, none, none, none, none, none, none]) (by kernel_rfl) ?_
        exact ih30 (t19 ++ ([(⟨(-8), (Vector.replicate 48 0)⟩ : api_Final)] : List api_Final)) (IntKind.i64.wrap (t23 + 1)) _ hp42 he28 _ A43 c44 _ hS49
      · skip
        have hp50 := ite_f hb29 h34
        refine sx_run 3 (todo' := []) (us := []) (by kernel_rfl) ?_
        have hS51 := hS25.drop
        refine Runs.fill (m := [none, none, none, none, none, none, none, none, none, none, none, none, none, none, none, none, none, none, none, none, none, none]) (by kernel_rfl) ?_
        exact J15 ((Option.some.inj hp50).trans he28) _ _ hS51
    refine Runs.fill (m := [some (.slice Aa0 t4.length ca0), none, none, some (.int .i64 0), none, none, none, none, none, none, none, none, none, none, none, none, none, none, none, none, none, none]) (by kernel_rfl) ?_
    exact L32 t4 0 _ hv11 rfl _ Aa0 ca0 _ hS6
  have L62 : ∀ (t52 : Int) (t53 : List api_Final) (e57 : (List api_Final)), weirlaw10_Spoil.l0 t52 t53 = some e57 → e57 = v1 → ∀ (l56 : List Value) (w54 : World) (hS55 : St w0 Z (xrow Aa0 ca0 24 49 (t53.flatMap enc_api_Final) :: fs) w54), Runs Try.prog 27 [.code (cd27 [0, 1, 0, 0]), .inLoop (cd27 [0, 1, 0, 0]), .inBlock 0, .code (cd27 [1])] (fill [some (.slice Aa0 t53.length ca0), none, some (.int .i64 t52), none, none, none, none, none, none, none, none, none, none, none, none, none, none, none, none, none, none, none] l56) w54 R := by
    refine weirlaw10_Spoil.l0.partial_correctness (fun t52 t53 e57 => e57 = v1 → ∀ (l56 : List Value) (w54 : World) (hS55 : St w0 Z (xrow Aa0 ca0 24 49 (t53.flatMap enc_api_Final) :: fs) w54), Runs Try.prog 27 [.code (cd27 [0, 1, 0, 0]), .inLoop (cd27 [0, 1, 0, 0]), .inBlock 0, .code (cd27 [1])] (fill [some (.slice Aa0 t53.length ca0), none, some (.int .i64 t52), none, none, none, none, none, none, none, none, none, none, none, none, none, none, none, none, none, none, none] l56) w54 R) ?_
    intro rec61 ih60 t52 t53 e57 hb59 he58 l56 w54 hS55
    refine sx_split 7 (todo' := [.inRegion (opsOf (cd27 [0, 1, 0, 0, 0, 0])) [], .code (cd27 [0, 1, 0, 0, 0, 1]), .code (cd27 [0, 1, 0, 0, 1]), .inLoop (cd27 [0, 1, 0, 0]), .inBlock 0, .code (cd27 [1])]) (us := [(4, .int .i64 t52), (5, .slice Aa0 t53.length ca0), (6, .int .i64 (t53.length : Int))]) (d := 7) (t := (decide (t52 < (t53.length : Int)))) (by kernel_rfl) (fun h63 => ?_) (fun h64 => ?_)
    · skip
      have hp65 := ite_t hb59 h63
      refine sx_run 8 (todo' := [.inRegion (opsOf (cd27 [0, 1, 0, 0, 1, 0, 0])) [2, 3, 4], .inBlock 1, .code (cd27 [0, 1, 0, 0, 1, 1]), .inLoop (cd27 [0, 1, 0, 0]), .inBlock 0, .code (cd27 [1])]) (us := [(10, .slice Aa0 t53.length ca0), (11, .int .i64 t52)]) (by kernel_rfl) ?_
      obtain ⟨g66, hp67⟩ := ite_some hp65
      obtain ⟨b68, p69, hA70, -⟩ := (hS55.row 0 rfl).at_ len_api_Final (by omega) g66.1 g66.2
      refine r_indexAddr (c := (cd27 [0, 1, 0, 0, 1, 0, 0])) (i := 2) (d := (some 12)) (ty := 0) (t := 36) (e := 24) (n := t53.length) (cp := ca0) (sz := 49) (kk := .i64) (x := (.tmp 10)) (y := (.tmp 11)) (b := b68) (o' := p69) (j := t52) (by kernel_rfl) (by kernel_rfl) (slv (by kernel_rfl) hA70) (by kernel_rfl) (by kernel_rfl) (by kernel_rfl) g66.1 g66.2 ?_
      refine sx_run 1 (todo' := [.inRegion (opsOf (cd27 [0, 1, 0, 0, 1, 0, 0])) [4], .inBlock 1, .code (cd27 [0, 1, 0, 0, 1, 1]), .inLoop (cd27 [0, 1, 0, 0]), .inBlock 0, .code (cd27 [1])]) (us := [(13, .pointer (some ⟨b68, p69 + t52.toNat * 49, none⟩))]) (by kernel_rfl) ?_
      refine r_storeEl (c := (cd27 [0, 1, 0, 0, 1, 0, 0])) (i := 4) (d := none) (ty := 0) (enc := enc_api_Final) (e := 24) (t := 3) (sz := 49) (cp := ca0) (A := Aa0) (xs := t53) (x := (.tmp 13)) (y := (.const (.int .i64 (-9)))) (el := gt t53 t52) (el' := (⟨(-9), (gt t53 t52).V⟩ : api_Final)) (j := t52) (off := 0) (b := b68) (p := p69) (v := .int .i64 (-9)) (vs := [.int .i64 (-9)]) (ad := ⟨b68, p69 + t52.toNat * 49, none⟩) hS55 (by kernel_rfl) (by kernel_rfl) (by kernel_rfl) (by simp) (by kernel_rfl) hA70 g66 rfl len_api_Final (by kernel_rfl) (by kernel_rfl) (by kernel_rfl) (by decide) (by decide) (put_api_Final_N _ _) ?_
      intro w72 hS73
      refine Runs.fill (m := [some (.slice Aa0 t53.length ca0), none, none, none, none, some (.slice Aa0 t53.length ca0), none, none, none, none, some (.slice Aa0 t53.length ca0), none, none, none, none, none, none, none, none, none, none, none]) (by kernel_rfl) ?_
      refine Runs.refill (m' := [some (.slice Aa0 (setl t53 t52 (⟨(-9), (gt t53 t52).V⟩ : api_Final)).length ca0), none, none, none, none, some (.slice Aa0 (setl t53 t52 (⟨(-9), (gt t53 t52).V⟩ : api_Final)).length ca0), none, none, none, none, some (.slice Aa0 (setl t53 t52 (⟨(-9), (gt t53 t52).V⟩ : api_Final)).length ca0), none, none, none, none, none, none, none, none, none, none, none]) (by simp only [setl_len]) ?_
      refine sx_run 7 (todo' := [.inLoop (cd27 [0, 1, 0, 0]), .inBlock 0, .code (cd27 [1])]) (us := [(8, .int .i64 t52), (9, .int .i64 (IntKind.i64.wrap (t52 + 1))), (2, .int .i64 (IntKind.i64.wrap (t52 + 1)))]) (by kernel_rfl) ?_
      refine sx_run 1 (todo' := [.code (cd27 [0, 1, 0, 0]), .inLoop (cd27 [0, 1, 0, 0]), .inBlock 0, .code (cd27 [1])]) (us := []) (by kernel_rfl) ?_
      refine Runs.fill (m := [some (.slice Aa0 (setl t53 t52 (⟨(-9), (gt t53 t52).V⟩ : api_Final)).length ca0), none, some (.int .i64 (IntKind.i64.wrap (t52 + 1))), none, none, none, none, none, none, none, none, none, none, none, none, none, none, none, none, none, none, none]) (by kernel_rfl) ?_
      exact ih60 (IntKind.i64.wrap (t52 + 1)) (setl t53 t52 (⟨(-9), (gt t53 t52).V⟩ : api_Final)) _ hp67 he58 _ _ hS73
    · skip
      have hp74 := ite_f hb59 h64
      refine sx_run 3 (todo' := [.code (cd27 [1])]) (us := []) (by kernel_rfl) ?_
      refine Runs.fill (m := [some (.slice Aa0 t53.length ca0), none, none, none, none, none, none, none, none, none, none, none, none, none, none, none, none, none, none, none, none, none]) (by kernel_rfl) ?_
      exact J7 t53 ((Option.some.inj hp74).trans he58) _ _ hS55
  refine Runs.fill (m := [some (.slice Aa0 a0.length ca0), none, some (.int .i64 0), none, none, none, none, none, none, none, none, none, none, none, none, none, none, none, none, none, none, none]) (by kernel_rfl) ?_
  exact L62 0 a0 _ hv2 rfl _ _ hS0

noncomputable def cd5 (p : List Nat) : Code := sub (bodyOf Try.f5) p
def weirlaw10_StateOrders.f (a0 : List api_Final) (a1 : api_Final) (a2 : api_Final) : Option Bool :=
  (weirlaw10_few.f a0 ([] : List api_Final) >>= (fun t9 => (if (!t9) = true then some (true) else (weirlaw10_Lent.f a0 >>= (fun (t21, t22) => (if t22 ≤ t21.length then (state_Sort.f (t21.take t22) >>= (fun t32 => (if t22 ≤ t21.length then (state_Sort.f (t21.take t22) >>= (fun t48 => (weirref10_Sort.f a0 >>= (fun t62 => (state_Check.f a1 >>= (fun t70 => (weirlaw10_num.f t70 >>= (fun t79 => (weirref10_Check.f a1 >>= (fun t88 => (if (t79 != t88) = true then some (false) else (state_Compare.f a1 a2 >>= (fun t110 => (weirref10_Compare.f a1 a2 >>= (fun t119 => (if (t110 != t119) = true then some (false) else (if t22 ≤ t21.length then (state_Rises.f (t21.take t22) >>= (fun t143 => (weirref10_Rises.f a0 >>= (fun t159 => (if (!(t143 == t159)) = true then some (false) else (weirlaw10_Same.f t32 t62 >>= (fun t181 => (if (!t181) = true then some (false) else (weirlaw10_Same.f t48 t62 >>= (fun t216 => (if (!t216) = true then some (false) else (weirlaw10_Back.f t21 t22 a0 >>= (fun t251 => (if (!t251) = true then some (false) else (weirlaw10_Spoil.f t32 >>= (fun _ => (weirlaw10_Same.f t48 t62 >>= (fun t281 => (if t281 = true then (weirlaw10_Back.f t21 t22 a0 >>= (fun t307 => some (t307))) else some (false)))))))))))))))))))) else none))))))))))))))))) else none))) else none))))))
set_option maxHeartbeats 16000000 in
theorem weirlaw10_StateOrders.ok (a0 : List api_Final) (a1 : api_Final) (a2 : api_Final) (Aa0 : Option Addr) (ca0 : Nat) {w0 : World} {Z : Zm} {fs : List XObj} {w : World} (hS0 : St w0 Z (fs) w) (ha0 : SlZ (flat enc_api_Final) 49 Z Aa0 ca0 a0) {q0 : Bool} (hp0 : weirlaw10_StateOrders.f a0 a1 a2 = some q0) :
    Calls Try.prog 5 #[.slice Aa0 a0.length ca0, .agg (enc_api_Final a1).toArray, .agg (enc_api_Final a2).toArray] w (fun e w' => e = .returned (.bool q0) ∧ St w0 Z (fs) w') := by
  refine calls_abs ?_; intro R hR
  unfold weirlaw10_StateOrders.f at hp0
  refine calls_of_runs (fn := Try.f5) (c := cd5 []) Try.func5 (by kernel_rfl) (al := [.slice Aa0 a0.length ca0, .agg (enc_api_Final a1).toArray, .agg (enc_api_Final a2).toArray]) rfl (n := 69) rfl ?_
  refine sx_run 2 (todo' := [.inRegion (opsOf (cd5 [0])) [0, 1, 2], .code (cd5 [1])]) (us := []) (by kernel_rfl) ?_
  refine r_box (c := (cd5 [0])) (i := 0) (d := (some 4)) (ty := 0) (x := (.tmp 1)) (v := .agg (enc_api_Final a1).toArray) (t := 24) (cs := enc_api_Final a1) hS0 (by kernel_rfl) (by kernel_rfl) (by kernel_rfl) (by kernel_rfl) ?_
  intro b1 w2 hS3
  refine r_box (c := (cd5 [0])) (i := 1) (d := (some 5)) (ty := 0) (x := (.tmp 2)) (v := .agg (enc_api_Final a2).toArray) (t := 24) (cs := enc_api_Final a2) hS3 (by kernel_rfl) (by kernel_rfl) (by kernel_rfl) (by kernel_rfl) ?_
  intro b5 w6 hS7
  refine sx_run 6 (todo' := [.inRegion (opsOf (cd5 [1, 0, 0])) [1, 2], .code (cd5 [1, 0, 1]), .code (cd5 [1, 1])]) (us := [(6, .bool false), (11, .slice Aa0 a0.length ca0)]) (by kernel_rfl) ?_
  obtain ⟨t9, hr10, hp11⟩ := bind_some' hp0
  refine r_call1 (c := (cd5 [1, 0, 0])) (i := 1) (d := (some 12)) (g := 12) (args := #[.slice Aa0 a0.length ca0, .slice none 0 0]) (by kernel_rfl) (by kernel_rfl) (by kernel_rfl) (by kernel_rfl) (weirlaw10_few.ok a0 ([] : List api_Final) Aa0 ca0 none 0 hS7 ha0 (SlZ.nil _ _ _ _ _) hr10) ?_
  rintro _ w12 ⟨rfl, hS13⟩
  refine ⟨.bool t9, rfl, ?_⟩
  refine sx_split 1 (todo' := [.inRegion (opsOf (cd5 [1, 0, 0])) [], .code (cd5 [1, 0, 1]), .code (cd5 [1, 1])]) (us := []) (d := 13) (t := (!t9)) (by kernel_rfl) (fun h14 => ?_) (fun h15 => ?_)
  · skip
    have hp16 := ite_t hp11 h14
    refine sx_run 6 (todo' := [.code (cd5 [1, 0, 1, 0, 1]), .code (cd5 [1, 1])]) (us := [(6, .bool true)]) (by kernel_rfl) ?_
    have hS17 := hS13.drop
    have hS18 := hS17.drop
    refine runs_ret (fn := Try.f5) (v := .bool true) Try.func5 (by kernel_rfl) ?_
    have hr19 := (Option.some.inj hp16)
    cases hr19
    exact hR _ _ ⟨rfl, hS18⟩
  · skip
    have hp20 := ite_f hp11 h15
    refine sx_run 6 (todo' := [.inRegion (opsOf (cd5 [1, 1, 0])) [1, 2], .code (cd5 [1, 1, 1])]) (us := [(14, .slice Aa0 a0.length ca0)]) (by kernel_rfl) ?_
    obtain ⟨⟨t21, t22⟩, hr25, hp26⟩ := bind_some' hp20
    try dsimp only at hp26
    refine r_call1 (c := (cd5 [1, 1, 0])) (i := 1) (d := (some 15)) (g := 16) (args := #[.slice Aa0 a0.length ca0]) (by kernel_rfl) (by kernel_rfl) (by kernel_rfl) (by kernel_rfl) (weirlaw10_Lent.ok a0 Aa0 ca0 hS13 ha0 hr25) ?_
    rintro _ w28 ⟨Q23, Q24, rfl, hS29⟩
    refine ⟨.slice Q23 t22 Q24, rfl, ?_⟩
    refine sx_run 5 (todo' := [.inRegion (opsOf (cd5 [1, 1, 1, 0])) [1, 2], .code (cd5 [1, 1, 1, 1])]) (us := [(7, .slice Q23 t22 Q24), (16, .slice Q23 t22 Q24)]) (by kernel_rfl) ?_
    obtain ⟨g30, hp31⟩ := ite_some hp26
    obtain ⟨t32, hr35, hp36⟩ := bind_some' hp31
    obtain ⟨Z38, hz39, hS40, hs41, hb42⟩ := hS29.lendrow len_api_Final (by omega)
    refine r_call1 (c := (cd5 [1, 1, 1, 0])) (i := 1) (d := (some 17)) (g := 18) (args := #[.slice Q23 t22 Q24]) (by kernel_rfl) (by kernel_rfl) (by kernel_rfl) (by kernel_rfl) (args_eq (by rw [lenTake g30]) (state_Sort.ok (t21.take t22) Q23 Q24 hS40 (hs41.take0 t22) hr35)) ?_
    rintro _ w43 ⟨Q33, Q34, rfl, hS44⟩
    refine ⟨.slice Q33 t32.length Q34, rfl, ?_⟩
    have hS45 := hb42 _ _ hS44
    refine sx_run 5 (todo' := [.inRegion (opsOf (cd5 [1, 1, 1, 1, 0])) [1, 2], .code (cd5 [1, 1, 1, 1, 1])]) (us := [(8, .slice Q33 t32.length Q34), (18, .slice Q23 t22 Q24)]) (by kernel_rfl) ?_
    obtain ⟨g46, hp47⟩ := ite_some hp36
    obtain ⟨t48, hr51, hp52⟩ := bind_some' hp47
    obtain ⟨Z54, hz55, hS56, hs57, hb58⟩ := hS45.lendrow len_api_Final (by omega)
    refine r_call1 (c := (cd5 [1, 1, 1, 1, 0])) (i := 1) (d := (some 19)) (g := 18) (args := #[.slice Q23 t22 Q24]) (by kernel_rfl) (by kernel_rfl) (by kernel_rfl) (by kernel_rfl) (args_eq (by rw [lenTake g46]) (state_Sort.ok (t21.take t22) Q23 Q24 hS56 (hs57.take0 t22) hr51)) ?_
    rintro _ w59 ⟨Q49, Q50, rfl, hS60⟩
    refine ⟨.slice Q49 t48.length Q50, rfl, ?_⟩
    have hS61 := hb58 _ _ hS60
    refine sx_run 5 (todo' := [.inRegion (opsOf (cd5 [1, 1, 1, 1, 1, 0])) [1, 2], .code (cd5 [1, 1, 1, 1, 1, 1])]) (us := [(9, .slice Q49 t48.length Q50), (20, .slice Aa0 a0.length ca0)]) (by kernel_rfl) ?_
    obtain ⟨t62, hr65, hp66⟩ := bind_some' hp52
    refine r_call1 (c := (cd5 [1, 1, 1, 1, 1, 0])) (i := 1) (d := (some 21)) (g := 14) (args := #[.slice Aa0 a0.length ca0]) (by kernel_rfl) (by kernel_rfl) (by kernel_rfl) (by kernel_rfl) (weirref10_Sort.ok a0 Aa0 ca0 hS61 ha0 hr65) ?_
    rintro _ w68 ⟨Q63, Q64, rfl, hS69⟩
    refine ⟨.slice Q63 t62.length Q64, rfl, ?_⟩
    refine sx_run 4 (todo' := [.code (cd5 [1, 1, 1, 1, 1, 1, 0, 0]), .code (cd5 [1, 1, 1, 1, 1, 1, 0, 1]), .code (cd5 [1, 1, 1, 1, 1, 1, 1])]) (us := [(10, .slice Q63 t62.length Q64)]) (by kernel_rfl) ?_
    refine r_quiet hS69 (c := (cd5 [1, 1, 1, 1, 1, 1, 0, 0])) (id := 7) (by kernel_rfl) (by kernel_rfl) (by kernel_rfl) (is := [0, 1, 2, 3, 4, 5, 6, 7, 8, 9, 10, 11, 12, 13, 14, 15, 16, 17, 18, 19, 20, 21, 22, 23, 24, 25, 26, 27, 28, 29, 30, 31, 32, 33, 34, 35, 36, 37, 38, 39]) (by kernel_rfl) ?_
    refine q_load (c := (cd5 [1, 1, 1, 1, 1, 1, 0, 0])) (i := 0) (d := (some 22)) (ty := 24) (t := 24) (x := (.tmp 4)) (p := ⟨b1, 0, none⟩) (v := .agg (enc_api_Final a1).toArray) (by kernel_rfl) (by kernel_rfl) (by kernel_rfl) (fun w hC => (loads_agg (hC.blk 5 rfl) (by kernel_rfl) (lenK (len_api_Final _) (by kernel_rfl)))) ?_
    obtain ⟨t70, hr71, hp72⟩ := bind_some' hp66
    refine q_call1 (c := (cd5 [1, 1, 1, 1, 1, 1, 0, 0])) (i := 1) (d := (some 23)) (v := .int .i64 t70) (g := 19) (args := #[.agg (enc_api_Final a1).toArray]) (by kernel_rfl) (by kernel_rfl) (by kernel_rfl) (by kernel_rfl) (fun w hC => by
      refine (state_Check.ok a1 hC hr71).mono ?_
      rintro e w2 ⟨rfl, h2⟩
      have hS73 := h2.pick5
      have hS74 := hS73.pick5
      have hS75 := hS74.pick5
      have hS76 := hS75.pick5
      have hS77 := hS76.pick5
      have hS78 := hS77.pick5
      exact ⟨rfl, hS78⟩) ?_
    obtain ⟨t79, hr80, hp81⟩ := bind_some' hp72
    refine q_call1 (c := (cd5 [1, 1, 1, 1, 1, 1, 0, 0])) (i := 2) (d := (some 24)) (v := .int .i64 t79) (g := 11) (args := #[.int .i64 t70]) (by kernel_rfl) (by kernel_rfl) (by kernel_rfl) (by kernel_rfl) (fun w hC => by
      refine (weirlaw10_num.ok t70 hC hr80).mono ?_
      rintro e w2 ⟨rfl, h2⟩
      have hS82 := h2.pick5
      have hS83 := hS82.pick5
      have hS84 := hS83.pick5
      have hS85 := hS84.pick5
      have hS86 := hS85.pick5
      have hS87 := hS86.pick5
      exact ⟨rfl, hS87⟩) ?_
    refine q_load (c := (cd5 [1, 1, 1, 1, 1, 1, 0, 0])) (i := 3) (d := (some 25)) (ty := 24) (t := 24) (x := (.tmp 4)) (p := ⟨b1, 0, none⟩) (v := .agg (enc_api_Final a1).toArray) (by kernel_rfl) (by kernel_rfl) (by kernel_rfl) (fun w hC => (loads_agg (hC.blk 5 rfl) (by kernel_rfl) (lenK (len_api_Final _) (by kernel_rfl)))) ?_
    obtain ⟨t88, hr89, hp90⟩ := bind_some' hp81
    refine q_call1 (c := (cd5 [1, 1, 1, 1, 1, 1, 0, 0])) (i := 4) (d := (some 26)) (v := .int .i64 t88) (g := 20) (args := #[.agg (enc_api_Final a1).toArray]) (by kernel_rfl) (by kernel_rfl) (by kernel_rfl) (by kernel_rfl) (fun w hC => by
      refine (weirref10_Check.ok a1 hC hr89).mono ?_
      rintro e w2 ⟨rfl, h2⟩
      have hS91 := h2.pick5
      have hS92 := hS91.pick5
      have hS93 := hS92.pick5
      have hS94 := hS93.pick5
      have hS95 := hS94.pick5
      have hS96 := hS95.pick5
      exact ⟨rfl, hS96⟩) ?_
    refine q_splitr 1 (is' := [6, 7, 8, 9, 10, 11, 12, 13, 14, 15, 16, 17, 18, 19, 20, 21, 22, 23, 24, 25, 26, 27, 28, 29, 30, 31, 32, 33, 34, 35, 36, 37, 38, 39]) (us := []) (d := 27) (t := (t79 != t88)) (by kernel_rfl) (fun h97 => ?_) (fun h98 => ?_)
    · skip
      have hp99 := ite_t hp90 h97
      refine q_run 34 (is' := []) (us := [(28, .bool true), (29, undef), (30, undef), (31, undef), (32, undef), (33, undef), (34, undef), (35, undef), (36, .bool true), (37, .bool true), (38, undef), (39, undef), (40, undef), (41, undef), (42, undef), (43, .bool true), (44, .bool true), (45, undef), (46, undef), (47, undef), (48, undef), (49, .bool true), (50, .bool true), (51, undef), (52, undef), (53, undef), (54, undef), (55, .bool true), (56, .bool true), (57, undef), (58, undef), (59, undef), (60, undef), (61, .bool true)]) (by kernel_rfl) ?_
      refine Qs.nil ?_
      intro w100 hS101
      refine sx_run 5 (todo' := [.code (cd5 [1, 1, 1, 1, 1, 1, 0, 1, 0, 1]), .code (cd5 [1, 1, 1, 1, 1, 1, 1])]) (us := [(6, .bool false)]) (by kernel_rfl) ?_
      have hS102 := hS101.drop
      have hS103 := hS102.drop
      have hS104 := hS103.drop
      have hS105 := hS104.drop
      have hS106 := hS105.drop
      have hS107 := hS106.drop
      refine runs_ret (fn := Try.f5) (v := .bool false) Try.func5 (by kernel_rfl) ?_
      have hr108 := (Option.some.inj hp99)
      cases hr108
      exact hR _ _ ⟨rfl, hS107⟩
    · skip
      have hp109 := ite_f hp90 h98
      refine q_run 1 (is' := [7, 8, 9, 10, 11, 12, 13, 14, 15, 16, 17, 18, 19, 20, 21, 22, 23, 24, 25, 26, 27, 28, 29, 30, 31, 32, 33, 34, 35, 36, 37, 38, 39]) (us := [(28, .bool false)]) (by kernel_rfl) ?_
      refine q_load (c := (cd5 [1, 1, 1, 1, 1, 1, 0, 0])) (i := 7) (d := (some 29)) (ty := 24) (t := 24) (x := (.tmp 4)) (p := ⟨b1, 0, none⟩) (v := .agg (enc_api_Final a1).toArray) (by kernel_rfl) (by kernel_rfl) (by kernel_rfl) (fun w hC => (loads_agg (hC.blk 5 rfl) (by kernel_rfl) (lenK (len_api_Final _) (by kernel_rfl)))) ?_
      refine q_load (c := (cd5 [1, 1, 1, 1, 1, 1, 0, 0])) (i := 8) (d := (some 30)) (ty := 24) (t := 24) (x := (.tmp 5)) (p := ⟨b5, 0, none⟩) (v := .agg (enc_api_Final a2).toArray) (by kernel_rfl) (by kernel_rfl) (by kernel_rfl) (fun w hC => (loads_agg (hC.blk 4 rfl) (by kernel_rfl) (lenK (len_api_Final _) (by kernel_rfl)))) ?_
      obtain ⟨t110, hr111, hp112⟩ := bind_some' hp109
      refine q_call1 (c := (cd5 [1, 1, 1, 1, 1, 1, 0, 0])) (i := 9) (d := (some 31)) (v := .int .i64 t110) (g := 21) (args := #[.agg (enc_api_Final a1).toArray, .agg (enc_api_Final a2).toArray]) (by kernel_rfl) (by kernel_rfl) (by kernel_rfl) (by kernel_rfl) (fun w hC => by
        refine (state_Compare.ok a1 a2 hC hr111).mono ?_
        rintro e w2 ⟨rfl, h2⟩
        have hS113 := h2.pick5
        have hS114 := hS113.pick5
        have hS115 := hS114.pick5
        have hS116 := hS115.pick5
        have hS117 := hS116.pick5
        have hS118 := hS117.pick5
        exact ⟨rfl, hS118⟩) ?_
      refine q_load (c := (cd5 [1, 1, 1, 1, 1, 1, 0, 0])) (i := 10) (d := (some 32)) (ty := 24) (t := 24) (x := (.tmp 4)) (p := ⟨b1, 0, none⟩) (v := .agg (enc_api_Final a1).toArray) (by kernel_rfl) (by kernel_rfl) (by kernel_rfl) (fun w hC => (loads_agg (hC.blk 5 rfl) (by kernel_rfl) (lenK (len_api_Final _) (by kernel_rfl)))) ?_
      refine q_load (c := (cd5 [1, 1, 1, 1, 1, 1, 0, 0])) (i := 11) (d := (some 33)) (ty := 24) (t := 24) (x := (.tmp 5)) (p := ⟨b5, 0, none⟩) (v := .agg (enc_api_Final a2).toArray) (by kernel_rfl) (by kernel_rfl) (by kernel_rfl) (fun w hC => (loads_agg (hC.blk 4 rfl) (by kernel_rfl) (lenK (len_api_Final _) (by kernel_rfl)))) ?_
      obtain ⟨t119, hr120, hp121⟩ := bind_some' hp112
      refine q_call1 (c := (cd5 [1, 1, 1, 1, 1, 1, 0, 0])) (i := 12) (d := (some 34)) (v := .int .i64 t119) (g := 22) (args := #[.agg (enc_api_Final a1).toArray, .agg (enc_api_Final a2).toArray]) (by kernel_rfl) (by kernel_rfl) (by kernel_rfl) (by kernel_rfl) (fun w hC => by
        refine (weirref10_Compare.ok a1 a2 hC hr120).mono ?_
        rintro e w2 ⟨rfl, h2⟩
        have hS122 := h2.pick5
        have hS123 := hS122.pick5
        have hS124 := hS123.pick5
        have hS125 := hS124.pick5
        have hS126 := hS125.pick5
        have hS127 := hS126.pick5
        exact ⟨rfl, hS127⟩) ?_
      refine q_splitr 1 (is' := [14, 15, 16, 17, 18, 19, 20, 21, 22, 23, 24, 25, 26, 27, 28, 29, 30, 31, 32, 33, 34, 35, 36, 37, 38, 39]) (us := []) (d := 35) (t := (t110 != t119)) (by kernel_rfl) (fun h128 => ?_) (fun h129 => ?_)
      · skip
        have hp130 := ite_t hp121 h128
        refine q_run 26 (is' := []) (us := [(36, .bool true), (37, .bool true), (38, undef), (39, undef), (40, undef), (41, undef), (42, undef), (43, .bool true), (44, .bool true), (45, undef), (46, undef), (47, undef), (48, undef), (49, .bool true), (50, .bool true), (51, undef), (52, undef), (53, undef), (54, undef), (55, .bool true), (56, .bool true), (57, undef), (58, undef), (59, undef), (60, undef), (61, .bool true)]) (by kernel_rfl) ?_
        refine Qs.nil ?_
        intro w131 hS132
        refine sx_run 5 (todo' := [.code (cd5 [1, 1, 1, 1, 1, 1, 0, 1, 0, 1]), .code (cd5 [1, 1, 1, 1, 1, 1, 1])]) (us := [(6, .bool false)]) (by kernel_rfl) ?_
        have hS133 := hS132.drop
        have hS134 := hS133.drop
        have hS135 := hS134.drop
        have hS136 := hS135.drop
        have hS137 := hS136.drop
        have hS138 := hS137.drop
        refine runs_ret (fn := Try.f5) (v := .bool false) Try.func5 (by kernel_rfl) ?_
        have hr139 := (Option.some.inj hp130)
        cases hr139
        exact hR _ _ ⟨rfl, hS138⟩
      · skip
        have hp140 := ite_f hp121 h129
        refine q_run 3 (is' := [17, 18, 19, 20, 21, 22, 23, 24, 25, 26, 27, 28, 29, 30, 31, 32, 33, 34, 35, 36, 37, 38, 39]) (us := [(36, .bool false), (37, .bool false), (38, .slice Q23 t22 Q24)]) (by kernel_rfl) ?_
        obtain ⟨g141, hp142⟩ := ite_some hp140
        obtain ⟨t143, hr144, hp145⟩ := bind_some' hp142
        refine q_call1 (c := (cd5 [1, 1, 1, 1, 1, 1, 0, 0])) (i := 17) (d := (some 39)) (v := .bool t143) (g := 23) (args := #[.slice Q23 t22 Q24]) (by kernel_rfl) (by kernel_rfl) (by kernel_rfl) (by kernel_rfl) (fun w hC => by
          have hS146 := hC.pick1
          obtain ⟨Z147, hz148, hS149, hs150, hb151⟩ := hS146.lendrow len_api_Final (by omega)
          refine (args_eq (by rw [lenTake g141]) (state_Rises.ok (t21.take t22) Q23 Q24 hS149 (hs150.take0 t22) hr144)).mono ?_
          rintro e w2 ⟨rfl, h2⟩
          have hS152 := hb151 _ _ h2
          have hS153 := hS152.pick5
          have hS154 := hS153.pick5
          have hS155 := hS154.pick5
          have hS156 := hS155.pick5
          have hS157 := hS156.pick4
          have hS158 := hS157.pick5
          exact ⟨rfl, hS158⟩) ?_
        refine q_run 1 (is' := [19, 20, 21, 22, 23, 24, 25, 26, 27, 28, 29, 30, 31, 32, 33, 34, 35, 36, 37, 38, 39]) (us := [(40, .slice Aa0 a0.length ca0)]) (by kernel_rfl) ?_
        obtain ⟨t159, hr160, hp161⟩ := bind_some' hp145
        refine q_call1 (c := (cd5 [1, 1, 1, 1, 1, 1, 0, 0])) (i := 19) (d := (some 41)) (v := .bool t159) (g := 24) (args := #[.slice Aa0 a0.length ca0]) (by kernel_rfl) (by kernel_rfl) (by kernel_rfl) (by kernel_rfl) (fun w hC => by
          refine (weirref10_Rises.ok a0 Aa0 ca0 hC ha0 hr160).mono ?_
          rintro e w2 ⟨rfl, h2⟩
          have hS162 := h2.pick5
          have hS163 := hS162.pick5
          have hS164 := hS163.pick5
          have hS165 := hS164.pick5
          have hS166 := hS165.pick5
          have hS167 := hS166.pick5
          exact ⟨rfl, hS167⟩) ?_
        refine q_splitr 1 (is' := [21, 22, 23, 24, 25, 26, 27, 28, 29, 30, 31, 32, 33, 34, 35, 36, 37, 38, 39]) (us := []) (d := 42) (t := (!(t143 == t159))) (by kernel_rfl) (fun h168 => ?_) (fun h169 => ?_)
        · skip
          have hp170 := ite_t hp161 h168
          refine q_run 19 (is' := []) (us := [(43, .bool true), (44, .bool true), (45, undef), (46, undef), (47, undef), (48, undef), (49, .bool true), (50, .bool true), (51, undef), (52, undef), (53, undef), (54, undef), (55, .bool true), (56, .bool true), (57, undef), (58, undef), (59, undef), (60, undef), (61, .bool true)]) (by kernel_rfl) ?_
          refine Qs.nil ?_
          intro w171 hS172
          refine sx_run 5 (todo' := [.code (cd5 [1, 1, 1, 1, 1, 1, 0, 1, 0, 1]), .code (cd5 [1, 1, 1, 1, 1, 1, 1])]) (us := [(6, .bool false)]) (by kernel_rfl) ?_
          have hS173 := hS172.drop
          have hS174 := hS173.drop
          have hS175 := hS174.drop
          have hS176 := hS175.drop
          have hS177 := hS176.drop
          have hS178 := hS177.drop
          refine runs_ret (fn := Try.f5) (v := .bool false) Try.func5 (by kernel_rfl) ?_
          have hr179 := (Option.some.inj hp170)
          cases hr179
          exact hR _ _ ⟨rfl, hS178⟩
        · skip
          have hp180 := ite_f hp161 h169
          refine q_run 4 (is' := [25, 26, 27, 28, 29, 30, 31, 32, 33, 34, 35, 36, 37, 38, 39]) (us := [(43, .bool false), (44, .bool false), (45, .slice Q33 t32.length Q34), (46, .slice Q63 t62.length Q64)]) (by kernel_rfl) ?_
          obtain ⟨t181, hr182, hp183⟩ := bind_some' hp180
          refine q_call1 (c := (cd5 [1, 1, 1, 1, 1, 1, 0, 0])) (i := 25) (d := (some 47)) (v := .bool t181) (g := 25) (args := #[.slice Q33 t32.length Q34, .slice Q63 t62.length Q64]) (by kernel_rfl) (by kernel_rfl) (by kernel_rfl) (by kernel_rfl) (fun w hC => by
            have hS184 := hC.pick3
            obtain ⟨Z185, hz186, hS187, hs188, hb189⟩ := hS184.lendrow len_api_Final (by omega)
            obtain ⟨Z190, hz191, hS192, hs193, hb194⟩ := hS187.lendrow len_api_Final (by omega)
            refine (weirlaw10_Same.ok t32 t62 Q33 Q34 Q63 Q64 hS192 (hs188.up hz191) hs193 hr182).mono ?_
            rintro e w2 ⟨rfl, h2⟩
            have hS195 := hb194 _ _ h2
            have hS196 := hb189 _ _ hS195
            have hS197 := hS196.pick5
            have hS198 := hS197.pick5
            have hS199 := hS198.pick2
            have hS200 := hS199.pick5
            have hS201 := hS200.pick5
            have hS202 := hS201.pick5
            exact ⟨rfl, hS202⟩) ?_
          refine q_splitr 1 (is' := [27, 28, 29, 30, 31, 32, 33, 34, 35, 36, 37, 38, 39]) (us := []) (d := 48) (t := (!t181)) (by kernel_rfl) (fun h203 => ?_) (fun h204 => ?_)
          · skip
            have hp205 := ite_t hp183 h203
            refine q_run 13 (is' := []) (us := [(49, .bool true), (50, .bool true), (51, undef), (52, undef), (53, undef), (54, undef), (55, .bool true), (56, .bool true), (57, undef), (58, undef), (59, undef), (60, undef), (61, .bool true)]) (by kernel_rfl) ?_
            refine Qs.nil ?_
            intro w206 hS207
            refine sx_run 5 (todo' := [.code (cd5 [1, 1, 1, 1, 1, 1, 0, 1, 0, 1]), .code (cd5 [1, 1, 1, 1, 1, 1, 1])]) (us := [(6, .bool false)]) (by kernel_rfl) ?_
            have hS208 := hS207.drop
            have hS209 := hS208.drop
            have hS210 := hS209.drop
            have hS211 := hS210.drop
            have hS212 := hS211.drop
            have hS213 := hS212.drop
            refine runs_ret (fn := Try.f5) (v := .bool false) Try.func5 (by kernel_rfl) ?_
            have hr214 := (Option.some.inj hp205)
            cases hr214
            exact hR _ _ ⟨rfl, hS213⟩
          · skip
            have hp215 := ite_f hp183 h204
            refine q_run 4 (is' := [31, 32, 33, 34, 35, 36, 37, 38, 39]) (us := [(49, .bool false), (50, .bool false), (51, .slice Q49 t48.length Q50), (52, .slice Q63 t62.length Q64)]) (by kernel_rfl) ?_
            obtain ⟨t216, hr217, hp218⟩ := bind_some' hp215
            refine q_call1 (c := (cd5 [1, 1, 1, 1, 1, 1, 0, 0])) (i := 31) (d := (some 53)) (v := .bool t216) (g := 25) (args := #[.slice Q49 t48.length Q50, .slice Q63 t62.length Q64]) (by kernel_rfl) (by kernel_rfl) (by kernel_rfl) (by kernel_rfl) (fun w hC => by
              have hS219 := hC.pick2
              obtain ⟨Z220, hz221, hS222, hs223, hb224⟩ := hS219.lendrow len_api_Final (by omega)
              obtain ⟨Z225, hz226, hS227, hs228, hb229⟩ := hS222.lendrow len_api_Final (by omega)
              refine (weirlaw10_Same.ok t48 t62 Q49 Q50 Q63 Q64 hS227 (hs223.up hz226) hs228 hr217).mono ?_
              rintro e w2 ⟨rfl, h2⟩
              have hS230 := hb229 _ _ h2
              have hS231 := hb224 _ _ hS230
              have hS232 := hS231.pick5
              have hS233 := hS232.pick5
              have hS234 := hS233.pick5
              have hS235 := hS234.pick3
              have hS236 := hS235.pick5
              have hS237 := hS236.pick5
              exact ⟨rfl, hS237⟩) ?_
            refine q_splitr 1 (is' := [33, 34, 35, 36, 37, 38, 39]) (us := []) (d := 54) (t := (!t216)) (by kernel_rfl) (fun h238 => ?_) (fun h239 => ?_)
            · skip
              have hp240 := ite_t hp218 h238
              refine q_run 7 (is' := []) (us := [(55, .bool true), (56, .bool true), (57, undef), (58, undef), (59, undef), (60, undef), (61, .bool true)]) (by kernel_rfl) ?_
              refine Qs.nil ?_
              intro w241 hS242
              refine sx_run 5 (todo' := [.code (cd5 [1, 1, 1, 1, 1, 1, 0, 1, 0, 1]), .code (cd5 [1, 1, 1, 1, 1, 1, 1])]) (us := [(6, .bool false)]) (by kernel_rfl) ?_
              have hS243 := hS242.drop
              have hS244 := hS243.drop
              have hS245 := hS244.drop
              have hS246 := hS245.drop
              have hS247 := hS246.drop
              have hS248 := hS247.drop
              refine runs_ret (fn := Try.f5) (v := .bool false) Try.func5 (by kernel_rfl) ?_
              have hr249 := (Option.some.inj hp240)
              cases hr249
              exact hR _ _ ⟨rfl, hS248⟩
            · skip
              have hp250 := ite_f hp218 h239
              refine q_run 4 (is' := [37, 38, 39]) (us := [(55, .bool false), (56, .bool false), (57, .slice Q23 t22 Q24), (58, .slice Aa0 a0.length ca0)]) (by kernel_rfl) ?_
              obtain ⟨t251, hr252, hp253⟩ := bind_some' hp250
              refine q_call1 (c := (cd5 [1, 1, 1, 1, 1, 1, 0, 0])) (i := 37) (d := (some 59)) (v := .bool t251) (g := 26) (args := #[.slice Q23 t22 Q24, .slice Aa0 a0.length ca0]) (by kernel_rfl) (by kernel_rfl) (by kernel_rfl) (by kernel_rfl) (fun w hC => by
                have hS254 := hC.pick1
                refine (weirlaw10_Back.ok t21 t22 a0 Q23 Q24 Aa0 ca0 hS254 ha0 hr252).mono ?_
                rintro e w2 ⟨rfl, h2⟩
                have hS255 := h2.pick5
                have hS256 := hS255.pick5
                have hS257 := hS256.pick5
                have hS258 := hS257.pick5
                have hS259 := hS258.pick4
                have hS260 := hS259.pick5
                exact ⟨rfl, hS260⟩) ?_
              refine q_splitr 1 (is' := [39]) (us := []) (d := 60) (t := (!t251)) (by kernel_rfl) (fun h261 => ?_) (fun h262 => ?_)
              · skip
                have hp263 := ite_t hp253 h261
                refine q_run 1 (is' := []) (us := [(61, .bool true)]) (by kernel_rfl) ?_
                refine Qs.nil ?_
                intro w264 hS265
                refine sx_run 5 (todo' := [.code (cd5 [1, 1, 1, 1, 1, 1, 0, 1, 0, 1]), .code (cd5 [1, 1, 1, 1, 1, 1, 1])]) (us := [(6, .bool false)]) (by kernel_rfl) ?_
                have hS266 := hS265.drop
                have hS267 := hS266.drop
                have hS268 := hS267.drop
                have hS269 := hS268.drop
                have hS270 := hS269.drop
                have hS271 := hS270.drop
                refine runs_ret (fn := Try.f5) (v := .bool false) Try.func5 (by kernel_rfl) ?_
                have hr272 := (Option.some.inj hp263)
                cases hr272
                exact hR _ _ ⟨rfl, hS271⟩
              · skip
                have hp273 := ite_f hp253 h262
                refine q_run 1 (is' := []) (us := [(61, .bool false)]) (by kernel_rfl) ?_
                refine Qs.nil ?_
                intro w274 hS275
                refine sx_run 5 (todo' := [.inRegion (opsOf (cd5 [1, 1, 1, 1, 1, 1, 1, 0])) [1], .code (cd5 [1, 1, 1, 1, 1, 1, 1, 1])]) (us := [(62, .slice Q33 t32.length Q34)]) (by kernel_rfl) ?_
                obtain ⟨_, hr276, hp277⟩ := bind_some' hp273
                have hS278 := hS275.pick3
                refine r_call1 (c := (cd5 [1, 1, 1, 1, 1, 1, 1, 0])) (i := 1) (d := (some 63)) (g := 27) (args := #[.slice Q33 t32.length Q34]) (by kernel_rfl) (by kernel_rfl) (by kernel_rfl) (by kernel_rfl) (weirlaw10_Spoil.ok t32 Q33 Q34 hS278 hr276) ?_
                rintro _ w279 ⟨rfl, hS280⟩
                refine ⟨.tuple #[], rfl, ?_⟩
                refine sx_run 5 (todo' := [.inRegion (opsOf (cd5 [1, 1, 1, 1, 1, 1, 1, 1, 0])) [2, 3, 4, 5, 6, 7, 8], .code (cd5 [1, 1, 1, 1, 1, 1, 1, 1, 1])]) (us := [(64, .slice Q49 t48.length Q50), (65, .slice Q63 t62.length Q64)]) (by kernel_rfl) ?_
                obtain ⟨t281, hr282, hp283⟩ := bind_some' hp277
                have hS284 := hS280.pick2
                obtain ⟨Z285, hz286, hS287, hs288, hb289⟩ := hS284.lendrow len_api_Final (by omega)
                obtain ⟨Z290, hz291, hS292, hs293, hb294⟩ := hS287.lendrow len_api_Final (by omega)
                refine r_call1 (c := (cd5 [1, 1, 1, 1, 1, 1, 1, 1, 0])) (i := 2) (d := (some 66)) (g := 25) (args := #[.slice Q49 t48.length Q50, .slice Q63 t62.length Q64]) (by kernel_rfl) (by kernel_rfl) (by kernel_rfl) (by kernel_rfl) (weirlaw10_Same.ok t48 t62 Q49 Q50 Q63 Q64 hS292 (hs288.up hz291) hs293 hr282) ?_
                rintro _ w295 ⟨rfl, hS296⟩
                refine ⟨.bool t281, rfl, ?_⟩
                have hS297 := hb294 _ _ hS296
                have hS298 := hb289 _ _ hS297
                refine sx_run 1 (todo' := [.inRegion (opsOf (cd5 [1, 1, 1, 1, 1, 1, 1, 1, 0])) [4, 5, 6, 7, 8], .code (cd5 [1, 1, 1, 1, 1, 1, 1, 1, 1])]) (us := [(67, .bool t281)]) (by kernel_rfl) ?_
                cases t281
                · skip
                  have hp299 := ite_f hp283 rfl
                  refine sx_run 6 (todo' := [.code (cd5 [1, 1, 1, 1, 1, 1, 1, 1, 1])]) (us := [(68, undef), (69, undef), (70, undef), (71, .bool false), (6, .bool false)]) (by kernel_rfl) ?_
                  have hS300 := hS298.drop
                  have hS301 := hS300.drop
                  have hS302 := hS301.drop
                  have hS303 := hS302.drop
                  have hS304 := hS303.drop
                  refine runs_ret (fn := Try.f5) (v := .bool false) Try.func5 (by kernel_rfl) ?_
                  have hr305 := (Option.some.inj hp299)
                  cases hr305
                  exact hR _ _ ⟨rfl, hS304⟩
                · skip
                  have hp306 := ite_t hp283 rfl
                  refine sx_run 2 (todo' := [.inRegion (opsOf (cd5 [1, 1, 1, 1, 1, 1, 1, 1, 0])) [6, 7, 8], .code (cd5 [1, 1, 1, 1, 1, 1, 1, 1, 1])]) (us := [(68, .slice Q23 t22 Q24), (69, .slice Aa0 a0.length ca0)]) (by kernel_rfl) ?_
                  obtain ⟨t307, hr308, hp309⟩ := bind_some' hp306
                  have hS310 := hS298.pick2
                  refine r_call1 (c := (cd5 [1, 1, 1, 1, 1, 1, 1, 1, 0])) (i := 6) (d := (some 70)) (g := 26) (args := #[.slice Q23 t22 Q24, .slice Aa0 a0.length ca0]) (by kernel_rfl) (by kernel_rfl) (by kernel_rfl) (by kernel_rfl) (weirlaw10_Back.ok t21 t22 a0 Q23 Q24 Aa0 ca0 hS310 ha0 hr308) ?_
                  rintro _ w311 ⟨rfl, hS312⟩
                  refine ⟨.bool t307, rfl, ?_⟩
                  refine sx_run 3 (todo' := [.code (cd5 [1, 1, 1, 1, 1, 1, 1, 1, 1])]) (us := [(71, .bool t307), (6, .bool t307)]) (by kernel_rfl) ?_
                  have hS313 := hS312.drop
                  have hS314 := hS313.drop
                  have hS315 := hS314.drop
                  have hS316 := hS315.drop
                  have hS317 := hS316.drop
                  refine runs_ret (fn := Try.f5) (v := .bool t307) Try.func5 (by kernel_rfl) ?_
                  have hr318 := (Option.some.inj hp309)
                  cases hr318
                  exact hR _ _ ⟨rfl, hS317⟩

noncomputable def cd28 (p : List Nat) : Code := sub (bodyOf Try.f28) p
def state_Project.l1 (a0 : List api_Final) (a1 : List Int) (t53 : Int) (t111 : Int) (t112 : api_Final) : Option (Sum api_Final (Sum (List api_Final) ((List api_Final) × Int))) :=
  (if (decide (t111 < (a1.length : Int))) = true then (if 0 ≤ t111 ∧ t111 < (a1.length : Int) then (if (decide ((gt a1 t111) < 0)) = true then some (.inr (.inr (([], 4)))) else (if (decide ((gt a1 t111) ≥ ((gt a0 t53).N))) = true then some (.inr (.inr (([], 4)))) else (if 0 ≤ (gt a1 t111) ∧ (gt a1 t111) < 48 then (if 0 ≤ t111 ∧ t111 < 48 then (state_Project.l1 a0 a1 t53 (IntKind.i64.wrap (t111 + 1)) (⟨t112.N, (vset t112.V t111 (vget ((gt a0 t53).V) (gt a1 t111)))⟩ : api_Final)) else none) else none))) else none) else some (.inl t112))
 partial_fixpoint
def state_Project.l0 (a0 : List api_Final) (a1 : List Int) (t49 : List api_Final) (t53 : Int) : Option (Sum (List api_Final) ((List api_Final) × Int)) :=
  (if (decide (t53 < (a0.length : Int))) = true then (if 0 ≤ t53 ∧ t53 < (a0.length : Int) then (state_Project.l1 a0 a1 t53 0 (⟨(a1.length : Int), (Vector.replicate 48 0)⟩ : api_Final) >>= (fun | .inl t88 => (if (t49.length + ([t88] : List api_Final).length) * 392 ≤ 140737488355328 then (state_Project.l0 a0 a1 (t49 ++ ([t88] : List api_Final)) (IntKind.i64.wrap (t53 + 1))) else none) | .inr e => some e)) else none) else some (.inl t49))
 partial_fixpoint
def state_Project.f (a0 : List api_Final) (a1 : List Int) : Option ((List api_Final) × Int) :=
  (state_Rises.f a0 >>= (fun t1 => (if (!t1) = true then some (([], 100)) else (if (decide ((a1.length : Int) > 48)) = true then some (([], 1)) else (state_Project.l0 a0 a1 [] 0 >>= (fun | .inl t23 => (state_Sort.f t23 >>= (fun t33 => some ((t33, 0)))) | .inr e => some e))))))
set_option maxHeartbeats 16000000 in
theorem state_Project.ok (a0 : List api_Final) (a1 : List Int) (Aa0 : Option Addr) (ca0 : Nat) (Aa1 : Option Addr) (ca1 : Nat) {w0 : World} {Z : Zm} {fs : List XObj} {w : World} (hS0 : St w0 Z (fs) w) (ha0 : SlZ (flat enc_api_Final) 49 Z Aa0 ca0 a0) (ha1 : SlZ (flat (encI .i64)) 1 Z Aa1 ca1 a1) {q0 : List api_Final} {q1 : Int} (hp0 : state_Project.f a0 a1 = some (q0, q1)) :
    Calls Try.prog 28 #[.slice Aa0 a0.length ca0, .slice Aa1 a1.length ca1] w (fun e w' => ∃ (QA0 : Option Addr) (Qc0 : Nat), e = .returned (.tuple #[.slice QA0 q0.length Qc0, .int .i64 q1]) ∧ St w0 Z (xrow QA0 Qc0 24 49 (q0.flatMap enc_api_Final) :: fs) w') := by
  refine calls_abs ?_; intro R hR
  unfold state_Project.f at hp0
  refine calls_of_runs (fn := Try.f28) (c := cd28 []) Try.func28 (by kernel_rfl) (al := [.slice Aa0 a0.length ca0, .slice Aa1 a1.length ca1]) rfl (n := 55) rfl ?_
  refine sx_run 9 (todo' := [.inRegion (opsOf (cd28 [1, 0, 0])) [1, 2], .code (cd28 [1, 0, 1]), .code (cd28 [1, 1])]) (us := [(4, .slice none 0 0), (5, .int .i64 0), (12, .slice Aa0 a0.length ca0)]) (by kernel_rfl) ?_
  obtain ⟨t1, hr2, hp3⟩ := bind_some' hp0
  refine r_call1 (c := (cd28 [1, 0, 0])) (i := 1) (d := (some 13)) (g := 23) (args := #[.slice Aa0 a0.length ca0]) (by kernel_rfl) (by kernel_rfl) (by kernel_rfl) (by kernel_rfl) (state_Rises.ok a0 Aa0 ca0 hS0 ha0 hr2) ?_
  rintro _ w4 ⟨rfl, hS5⟩
  refine ⟨.bool t1, rfl, ?_⟩
  refine sx_split 1 (todo' := [.inRegion (opsOf (cd28 [1, 0, 0])) [], .code (cd28 [1, 0, 1]), .code (cd28 [1, 1])]) (us := []) (d := 14) (t := (!t1)) (by kernel_rfl) (fun h6 => ?_) (fun h7 => ?_)
  · skip
    have hp8 := ite_t hp3 h6
    refine sx_run 7 (todo' := [.code (cd28 [1, 0, 1, 0, 1]), .code (cd28 [1, 1])]) (us := [(4, .slice none 0 0), (5, .int .i64 100)]) (by kernel_rfl) ?_
    have hS10 := hS5.nilrow none 24 49
    refine runs_ret (fn := Try.f28) (v := .tuple #[.slice none 0 0, .int .i64 100]) Try.func28 (by kernel_rfl) ?_
    have hr11 := (Option.some.inj hp8)
    cases hr11
    exact hR _ _ ⟨none, 0, rfl, hS10⟩
  · skip
    have hp12 := ite_f hp3 h7
    refine sx_split 9 (todo' := [.inRegion (opsOf (cd28 [1, 1, 0, 0])) [], .code (cd28 [1, 1, 0, 1]), .code (cd28 [1, 1, 1])]) (us := [(15, .slice Aa1 a1.length ca1), (16, .int .i64 (a1.length : Int))]) (d := 17) (t := (decide ((a1.length : Int) > 48))) (by kernel_rfl) (fun h13 => ?_) (fun h14 => ?_)
    · skip
      have hp15 := ite_t hp12 h13
      refine sx_run 7 (todo' := [.code (cd28 [1, 1, 0, 1, 0, 1]), .code (cd28 [1, 1, 1])]) (us := [(4, .slice none 0 0), (5, .int .i64 1)]) (by kernel_rfl) ?_
      have hS17 := hS5.nilrow none 24 49
      refine runs_ret (fn := Try.f28) (v := .tuple #[.slice none 0 0, .int .i64 1]) Try.func28 (by kernel_rfl) ?_
      have hr18 := (Option.some.inj hp15)
      cases hr18
      exact hR _ _ ⟨none, 0, rfl, hS17⟩
    · skip
      have hp19 := ite_f hp12 h14
      refine sx_run 16 (todo' := [.code (cd28 [1, 1, 1, 1, 0, 1, 0, 0]), .inLoop (cd28 [1, 1, 1, 1, 0, 1, 0, 0]), .inBlock 0, .code (cd28 [1, 1, 1, 1, 1])]) (us := [(6, .slice none 0 0), (18, .slice Aa0 a0.length ca0), (19, .int .i64 (a0.length : Int)), (20, .int .i64 0)]) (by kernel_rfl) ?_
      obtain ⟨v20, hv21, hp22⟩ := bind_some' hp19
      have hq29 : ∀ x, Sum.inr x = v20 → x = (q0, q1) := by intro x hx; subst hx; simpa using hp22
      have J30 : ∀ (t23 : List api_Final) (he32 : Sum.inl t23 = v20) (l31 : List Value) (A24 : Option Addr) (c25 : Nat) (w27 : World) (hS28 : St w0 Z (xrow A24 c25 24 49 (t23.flatMap enc_api_Final) :: fs) w27), Runs Try.prog 28 [.code (cd28 [1, 1, 1, 1, 1])] (fill [none, none, none, none, none, none, some (.slice A24 t23.length c25), none, none, none, none, none, none, none, none, none, none, none, none, none, none, none, none, none, none, none, none, none, none, none, none, none, none, none, none, none, none, none, none, none, none, none, none, none, none, none, none, none, none, none, none, none, none, none, none, none, none] l31) w27 R := by
        intro t23 he32 l31 A24 c25 w27 hS28
        subst he32
        try dsimp only at hp22
        refine sx_run 3 (todo' := [.inRegion (opsOf (cd28 [1, 1, 1, 1, 1, 0])) [1, 2, 3], .code (cd28 [1, 1, 1, 1, 1, 1])]) (us := [(55, .slice A24 t23.length c25)]) (by kernel_rfl) ?_
        obtain ⟨t33, hr36, hp37⟩ := bind_some' hp22
        obtain ⟨Z39, hz40, hS41, hs42, hb43⟩ := hS28.lendrow len_api_Final (by omega)
        refine r_call1 (c := (cd28 [1, 1, 1, 1, 1, 0])) (i := 1) (d := (some 56)) (g := 18) (args := #[.slice A24 t23.length c25]) (by kernel_rfl) (by kernel_rfl) (by kernel_rfl) (by kernel_rfl) (state_Sort.ok t23 A24 c25 hS41 hs42 hr36) ?_
        rintro _ w44 ⟨Q34, Q35, rfl, hS45⟩
        refine ⟨.slice Q34 t33.length Q35, rfl, ?_⟩
        have hS46 := hb43 _ _ hS45
        refine sx_run 3 (todo' := [.code (cd28 [1, 1, 1, 1, 1, 1])]) (us := [(4, .slice Q34 t33.length Q35), (5, .int .i64 0)]) (by kernel_rfl) ?_
        have hS47 := hS46.drop
        refine runs_ret (fn := Try.f28) (v := .tuple #[.slice Q34 t33.length Q35, .int .i64 0]) Try.func28 (by kernel_rfl) ?_
        have hr48 := (Option.some.inj hp37)
        cases hr48
        exact hR _ _ ⟨Q34, Q35, rfl, hS47⟩
      have L62 : ∀ (t49 : List api_Final) (t53 : Int) (e57 : Sum (List api_Final) ((List api_Final) × Int)), state_Project.l0 a0 a1 t49 t53 = some e57 → e57 = v20 → ∀ (l56 : List Value) (A50 : Option Addr) (c51 : Nat) (w54 : World) (hS55 : St w0 Z (xrow A50 c51 24 49 (t49.flatMap enc_api_Final) :: fs) w54), Runs Try.prog 28 [.code (cd28 [1, 1, 1, 1, 0, 1, 0, 0]), .inLoop (cd28 [1, 1, 1, 1, 0, 1, 0, 0]), .inBlock 0, .code (cd28 [1, 1, 1, 1, 1])] (fill [none, some (.slice Aa1 a1.length ca1), none, none, none, none, some (.slice A50 t49.length c51), none, none, none, none, none, none, none, none, none, none, none, some (.slice Aa0 a0.length ca0), some (.int .i64 (a0.length : Int)), some (.int .i64 t53), none, none, none, none, none, none, none, none, none, none, none, none, none, none, none, none, none, none, none, none, none, none, none, none, none, none, none, none, none, none, none, none, none, none, none, none] l56) w54 R := by
        refine state_Project.l0.partial_correctness a0 a1 (fun t49 t53 e57 => e57 = v20 → ∀ (l56 : List Value) (A50 : Option Addr) (c51 : Nat) (w54 : World) (hS55 : St w0 Z (xrow A50 c51 24 49 (t49.flatMap enc_api_Final) :: fs) w54), Runs Try.prog 28 [.code (cd28 [1, 1, 1, 1, 0, 1, 0, 0]), .inLoop (cd28 [1, 1, 1, 1, 0, 1, 0, 0]), .inBlock 0, .code (cd28 [1, 1, 1, 1, 1])] (fill [none, some (.slice Aa1 a1.length ca1), none, none, none, none, some (.slice A50 t49.length c51), none, none, none, none, none, none, none, none, none, none, none, some (.slice Aa0 a0.length ca0), some (.int .i64 (a0.length : Int)), some (.int .i64 t53), none, none, none, none, none, none, none, none, none, none, none, none, none, none, none, none, none, none, none, none, none, none, none, none, none, none, none, none, none, none, none, none, none, none, none, none] l56) w54 R) ?_
        intro rec61 ih60 t49 t53 e57 hb59 he58 l56 A50 c51 w54 hS55
        have hq63 : ∀ x, Sum.inr x = e57 → x = (q0, q1) := fun x hx => hq29 x (hx.trans he58)
        refine sx_split 3 (todo' := [.inRegion (opsOf (cd28 [1, 1, 1, 1, 0, 1, 0, 0, 0])) [], .code (cd28 [1, 1, 1, 1, 0, 1, 0, 0, 1]), .inLoop (cd28 [1, 1, 1, 1, 0, 1, 0, 0]), .inBlock 0, .code (cd28 [1, 1, 1, 1, 1])]) (us := []) (d := 21) (t := (decide (t53 < (a0.length : Int)))) (by kernel_rfl) (fun h64 => ?_) (fun h65 => ?_)
        · skip
          have hp66 := ite_t hb59 h64
          refine sx_run 8 (todo' := [.inRegion (opsOf (cd28 [1, 1, 1, 1, 0, 1, 0, 0, 1, 1, 0, 0, 0])) [0, 1, 2, 3], .code (cd28 [1, 1, 1, 1, 0, 1, 0, 0, 1, 1, 0, 0, 1]), .inBlock 1, .code (cd28 [1, 1, 1, 1, 0, 1, 0, 0, 1, 1, 1]), .inLoop (cd28 [1, 1, 1, 1, 0, 1, 0, 0]), .inBlock 0, .code (cd28 [1, 1, 1, 1, 1])]) (us := []) (by kernel_rfl) ?_
          obtain ⟨g67, hp68⟩ := ite_some hp66
          obtain ⟨b69, p70, hA71, hc72⟩ := ha0.atF g67.1 g67.2
          refine r_indexAddr (c := (cd28 [1, 1, 1, 1, 0, 1, 0, 0, 1, 1, 0, 0, 0])) (i := 0) (d := (some 22)) (ty := 0) (t := 36) (e := 24) (n := a0.length) (cp := ca0) (sz := 49) (kk := .i64) (x := (.tmp 18)) (y := (.tmp 20)) (b := b69) (o' := p70) (j := t53) (by kernel_rfl) (by kernel_rfl) (slv (by kernel_rfl) hA71) (by kernel_rfl) (by kernel_rfl) (by kernel_rfl) g67.1 g67.2 ?_
          refine r_load (c := (cd28 [1, 1, 1, 1, 0, 1, 0, 0, 1, 1, 0, 0, 0])) (i := 1) (d := (some 23)) (ty := 24) (t := 24) (x := (.tmp 22)) (p := ⟨b69, p70 + t53.toNat * 49, none⟩) (v := .agg (enc_api_Final (gt a0 t53)).toArray) (by kernel_rfl) (by kernel_rfl) (by kernel_rfl) (loads_agg (hc72.cells hS55) (by kernel_rfl) (lenK (len_api_Final _) (by kernel_rfl))) ?_
          refine r_alloc (c := (cd28 [1, 1, 1, 1, 0, 1, 0, 0, 1, 1, 0, 0, 0])) (i := 2) (d := (some 8)) (ty := 0) (z := .agg (enc_api_Final (⟨0, (Vector.replicate 48 0)⟩ : api_Final)).toArray) (t := 24) (cs := enc_api_Final (⟨0, (Vector.replicate 48 0)⟩ : api_Final)) hS55 (by kernel_rfl) (by kernel_rfl) (by kernel_rfl) (by kernel_rfl) ?_
          intro b73 w74 hS75
          refine r_store (c := (cd28 [1, 1, 1, 1, 0, 1, 0, 0, 1, 1, 0, 0, 0])) (i := 3) (d := none) (ty := 0) (t := 24) (x := (.tmp 8)) (y := (.tmp 23)) (b := b73) (o := 0) (e := 24) (cs := enc_api_Final (⟨0, (Vector.replicate 48 0)⟩ : api_Final)) (v := .agg (enc_api_Final (gt a0 t53)).toArray) (vs := enc_api_Final (gt a0 t53)) (cs' := enc_api_Final (gt a0 t53)) hS75 (by kernel_rfl) (by kernel_rfl) (by kernel_rfl) (by kernel_rfl) (by kernel_rfl) (lenK (len_api_Final _) (by kernel_rfl)) (one_api_Final _) (by simp only [len_api_Final, List.length_cons, List.length_nil, List.length_append]; omega) (over_all ((len_api_Final _).trans (len_api_Final _).symm)) ?_
          intro w77 hS78
          refine sx_run 6 (todo' := [.inRegion (opsOf (cd28 [1, 1, 1, 1, 0, 1, 0, 0, 1, 1, 0, 0, 1, 0])) [3, 4], .code (cd28 [1, 1, 1, 1, 0, 1, 0, 0, 1, 1, 0, 0, 1, 1]), .inBlock 1, .code (cd28 [1, 1, 1, 1, 0, 1, 0, 0, 1, 1, 1]), .inLoop (cd28 [1, 1, 1, 1, 0, 1, 0, 0]), .inBlock 0, .code (cd28 [1, 1, 1, 1, 1])]) (us := [(24, .slice Aa1 a1.length ca1), (25, .int .i64 (a1.length : Int)), (26, .agg (enc_api_Final (⟨(a1.length : Int), (Vector.replicate 48 0)⟩ : api_Final)).toArray)]) (by kernel_rfl) ?_
          refine r_alloc (c := (cd28 [1, 1, 1, 1, 0, 1, 0, 0, 1, 1, 0, 0, 1, 0])) (i := 3) (d := (some 9)) (ty := 0) (z := .agg (enc_api_Final (⟨0, (Vector.replicate 48 0)⟩ : api_Final)).toArray) (t := 24) (cs := enc_api_Final (⟨0, (Vector.replicate 48 0)⟩ : api_Final)) hS78 (by kernel_rfl) (by kernel_rfl) (by kernel_rfl) (by kernel_rfl) ?_
          intro b79 w80 hS81
          refine r_store (c := (cd28 [1, 1, 1, 1, 0, 1, 0, 0, 1, 1, 0, 0, 1, 0])) (i := 4) (d := none) (ty := 0) (t := 24) (x := (.tmp 9)) (y := (.tmp 26)) (b := b79) (o := 0) (e := 24) (cs := enc_api_Final (⟨0, (Vector.replicate 48 0)⟩ : api_Final)) (v := .agg (enc_api_Final (⟨(a1.length : Int), (Vector.replicate 48 0)⟩ : api_Final)).toArray) (vs := enc_api_Final (⟨(a1.length : Int), (Vector.replicate 48 0)⟩ : api_Final)) (cs' := enc_api_Final (⟨(a1.length : Int), (Vector.replicate 48 0)⟩ : api_Final)) hS81 (by kernel_rfl) (by kernel_rfl) (by kernel_rfl) (by kernel_rfl) (by kernel_rfl) (lenK (len_api_Final _) (by kernel_rfl)) (one_api_Final _) (by simp only [len_api_Final, List.length_cons, List.length_nil, List.length_append]; omega) (over_all ((len_api_Final _).trans (len_api_Final _).symm)) ?_
          intro w83 hS84
          refine sx_run 10 (todo' := [.code (cd28 [1, 1, 1, 1, 0, 1, 0, 0, 1, 1, 0, 0, 1, 1, 0, 1, 0, 0]), .inLoop (cd28 [1, 1, 1, 1, 0, 1, 0, 0, 1, 1, 0, 0, 1, 1, 0, 1, 0, 0]), .inBlock 2, .code (cd28 [1, 1, 1, 1, 0, 1, 0, 0, 1, 1, 0, 0, 1, 1, 1]), .inBlock 1, .code (cd28 [1, 1, 1, 1, 0, 1, 0, 0, 1, 1, 1]), .inLoop (cd28 [1, 1, 1, 1, 0, 1, 0, 0]), .inBlock 0, .code (cd28 [1, 1, 1, 1, 1])]) (us := [(27, .slice Aa1 a1.length ca1), (28, .int .i64 (a1.length : Int)), (29, .int .i64 0)]) (by kernel_rfl) ?_
          obtain ⟨v85, hv86, hp87⟩ := bind_some' hp68
          have hq91 : ∀ x, Sum.inr x = v85 → x = e57 := by intro x hx; subst hx; simpa using hp87
          have J92 : ∀ (t88 : api_Final) (he94 : Sum.inl t88 = v85) (l93 : List Value) (w89 : World) (hS90 : St w0 Z (xrow A50 c51 24 49 (t49.flatMap enc_api_Final) :: xblk b79 24 (enc_api_Final t88) :: fs) w89), Runs Try.prog 28 [.code (cd28 [1, 1, 1, 1, 0, 1, 0, 0, 1, 1, 0, 0, 1, 1, 1]), .inBlock 1, .code (cd28 [1, 1, 1, 1, 0, 1, 0, 0, 1, 1, 1]), .inLoop (cd28 [1, 1, 1, 1, 0, 1, 0, 0]), .inBlock 0, .code (cd28 [1, 1, 1, 1, 1])] (fill [none, some (.slice Aa1 a1.length ca1), none, none, none, none, some (.slice A50 t49.length c51), none, none, some (.pointer (some ⟨b79, 0, none⟩)), none, none, none, none, none, none, none, none, some (.slice Aa0 a0.length ca0), some (.int .i64 (a0.length : Int)), some (.int .i64 t53), none, none, none, none, none, none, none, none, none, none, none, none, none, none, none, none, none, none, none, none, none, none, none, none, none, none, none, none, none, none, none, none, none, none, none, none] l93) w89 R := by
            intro t88 he94 l93 w89 hS90
            subst he94
            try dsimp only at hp87
            refine sx_run 2 (todo' := [.inRegion (opsOf (cd28 [1, 1, 1, 1, 0, 1, 0, 0, 1, 1, 0, 0, 1, 1, 1])) [1, 2, 3, 4], .inBlock 1, .code (cd28 [1, 1, 1, 1, 0, 1, 0, 0, 1, 1, 1]), .inLoop (cd28 [1, 1, 1, 1, 0, 1, 0, 0]), .inBlock 0, .code (cd28 [1, 1, 1, 1, 1])]) (us := [(50, .slice A50 t49.length c51)]) (by kernel_rfl) ?_
            refine r_load (c := (cd28 [1, 1, 1, 1, 0, 1, 0, 0, 1, 1, 0, 0, 1, 1, 1])) (i := 1) (d := (some 51)) (ty := 24) (t := 24) (x := (.tmp 9)) (p := ⟨b79, 0, none⟩) (v := .agg (enc_api_Final t88).toArray) (by kernel_rfl) (by kernel_rfl) (by kernel_rfl) (loads_agg (hS90.blk 1 rfl) (by kernel_rfl) (lenK (len_api_Final _) (by kernel_rfl))) ?_
            refine r_lit (c := (cd28 [1, 1, 1, 1, 0, 1, 0, 0, 1, 1, 0, 0, 1, 1, 1])) (i := 2) (d := (some 52)) (ty := 36) (t := 36) (e := 24) (sz := 49) (n := 1) (parts := #[(0, (.tmp 51))]) (vs := [(0, .agg (enc_api_Final t88).toArray)]) (z := zeroOf Try.prog 24) (cs' := ([t88] : List api_Final).flatMap enc_api_Final) hS90 (by kernel_rfl) (by kernel_rfl) (by kernel_rfl) (by kernel_rfl) (by kernel_rfl) (by decide) (by decide) (by kernel_rfl) rfl (Parts.cons (c := enc_api_Final t88) (by kernel_rfl) (len_api_Final _) Parts.nil) rfl ?_
            intro b96 w97 hS98
            have hS99 := hS98.pick1
            obtain ⟨g100, hp101⟩ := ite_some hp87
            refine r_append (c := (cd28 [1, 1, 1, 1, 0, 1, 0, 0, 1, 1, 0, 0, 1, 1, 1])) (i := 3) (d := (some 53)) (ty := 36) (enc := enc_api_Final) (e := 24) (u := 24) (t := 36) (t2 := 36) (sz := 49) (cp := c51) (A := A50) (bytes := 392) (xs := t49) (ys := ([t88] : List api_Final)) (s := (.tmp 50)) (x := (.tmp 52)) (xv := .slice (some ⟨b96, 0, none⟩) ([t88] : List api_Final).length 1) (info := infoOf Try.prog 24) (z := zeroOf Try.prog 24) (ycs := ([t88] : List api_Final).flatMap enc_api_Final) hS99 (by kernel_rfl) (by kernel_rfl) (by kernel_rfl) (by kernel_rfl) (by kernel_rfl) (.inl (by kernel_rfl)) (by kernel_rfl) (by kernel_rfl) (by kernel_rfl) (by kernel_rfl) (by kernel_rfl) (by omega) len_api_Final one_api_Final (src_row (hS99.row 1 rfl) (by omega) len_api_Final) rfl g100 (by omega) ?_
            intro A102 c103 w104 hS105
            refine sx_run 7 (todo' := [.inLoop (cd28 [1, 1, 1, 1, 0, 1, 0, 0]), .inBlock 0, .code (cd28 [1, 1, 1, 1, 1])]) (us := [(6, .slice A102 (t49 ++ ([t88] : List api_Final)).length c103), (54, .int .i64 (IntKind.i64.wrap (t53 + 1))), (20, .int .i64 (IntKind.i64.wrap (t53 + 1)))]) (by kernel_rfl) ?_
            have hS107 := hS105.pick1
            have hS108 := hS107.drop
            have hS109 := hS108.pick1
            have hS110 := hS109.drop
            refine sx_run 1 (todo' := [.code (cd28 [1, 1, 1, 1, 0, 1, 0, 0]), .inLoop (cd28 [1, 1, 1, 1, 0, 1, 0, 0]), .inBlock 0, .code (cd28 [1, 1, 1, 1, 1])]) (us := []) (by kernel_rfl) ?_
            refine Runs.fill (m := [none, some (.slice Aa1 a1.length ca1), none, none, none, none, some (.slice A102 (t49 ++ ([t88] : List api_Final)).length c103), none, none, none, none, none, none, none, none, none, none, none, some (.slice Aa0 a0.length ca0), some (.int .i64 (a0.length : Int)), some (.int .i64 (IntKind.i64.wrap (t53 + 1))), none, none, none, none, none, none, none, none, none, none, none, none, none, none, none, none, none, none, none, none, none, none, none, none, none, none, none, none, none, none, none, none, none, none, none, none]) (by kernel_rfl) ?_
            exact ih60 (t49 ++ ([t88] : List api_Final)) (IntKind.i64.wrap (t53 + 1)) _ hp101 he58 _ A102 c103 _ hS110
          have L121 : ∀ (t111 : Int) (t112 : api_Final) (e116 : Sum api_Final (Sum (List api_Final) ((List api_Final) × Int))), state_Project.l1 a0 a1 t53 t111 t112 = some e116 → e116 = v85 → ∀ (l115 : List Value) (w113 : World) (hS114 : St w0 Z (xrow A50 c51 24 49 (t49.flatMap enc_api_Final) :: xblk b73 24 (enc_api_Final (gt a0 t53)) :: xblk b79 24 (enc_api_Final t112) :: fs) w113), Runs Try.prog 28 [.code (cd28 [1, 1, 1, 1, 0, 1, 0, 0, 1, 1, 0, 0, 1, 1, 0, 1, 0, 0]), .inLoop (cd28 [1, 1, 1, 1, 0, 1, 0, 0, 1, 1, 0, 0, 1, 1, 0, 1, 0, 0]), .inBlock 2, .code (cd28 [1, 1, 1, 1, 0, 1, 0, 0, 1, 1, 0, 0, 1, 1, 1]), .inBlock 1, .code (cd28 [1, 1, 1, 1, 0, 1, 0, 0, 1, 1, 1]), .inLoop (cd28 [1, 1, 1, 1, 0, 1, 0, 0]), .inBlock 0, .code (cd28 [1, 1, 1, 1, 1])] (fill [none, some (.slice Aa1 a1.length ca1), none, none, none, none, some (.slice A50 t49.length c51), none, some (.pointer (some ⟨b73, 0, none⟩)), some (.pointer (some ⟨b79, 0, none⟩)), none, none, none, none, none, none, none, none, some (.slice Aa0 a0.length ca0), some (.int .i64 (a0.length : Int)), some (.int .i64 t53), none, none, none, none, none, none, some (.slice Aa1 a1.length ca1), some (.int .i64 (a1.length : Int)), some (.int .i64 t111), none, none, none, none, none, none, none, none, none, none, none, none, none, none, none, none, none, none, none, none, none, none, none, none, none, none, none] l115) w113 R := by
            refine state_Project.l1.partial_correctness a0 a1 t53 (fun t111 t112 e116 => e116 = v85 → ∀ (l115 : List Value) (w113 : World) (hS114 : St w0 Z (xrow A50 c51 24 49 (t49.flatMap enc_api_Final) :: xblk b73 24 (enc_api_Final (gt a0 t53)) :: xblk b79 24 (enc_api_Final t112) :: fs) w113), Runs Try.prog 28 [.code (cd28 [1, 1, 1, 1, 0, 1, 0, 0, 1, 1, 0, 0, 1, 1, 0, 1, 0, 0]), .inLoop (cd28 [1, 1, 1, 1, 0, 1, 0, 0, 1, 1, 0, 0, 1, 1, 0, 1, 0, 0]), .inBlock 2, .code (cd28 [1, 1, 1, 1, 0, 1, 0, 0, 1, 1, 0, 0, 1, 1, 1]), .inBlock 1, .code (cd28 [1, 1, 1, 1, 0, 1, 0, 0, 1, 1, 1]), .inLoop (cd28 [1, 1, 1, 1, 0, 1, 0, 0]), .inBlock 0, .code (cd28 [1, 1, 1, 1, 1])] (fill [none, some (.slice Aa1 a1.length ca1), none, none, none, none, some (.slice A50 t49.length c51), none, some (.pointer (some ⟨b73, 0, none⟩)), some (.pointer (some ⟨b79, 0, none⟩)), none, none, none, none, none, none, none, none, some (.slice Aa0 a0.length ca0), some (.int .i64 (a0.length : Int)), some (.int .i64 t53), none, none, none, none, none, none, some (.slice Aa1 a1.length ca1), some (.int .i64 (a1.length : Int)), some (.int .i64 t111), none, none, none, none, none, none, none, none, none, none, none, none, none, none, none, none, none, none, none, none, none, none, none, none, none, none, none] l115) w113 R) ?_
            intro rec120 ih119 t111 t112 e116 hb118 he117 l115 w113 hS114
            have hq122 : ∀ x, Sum.inr x = e116 → x = e57 := fun x hx => hq91 x (hx.trans he117)
            refine sx_split 3 (todo' := [.inRegion (opsOf (cd28 [1, 1, 1, 1, 0, 1, 0, 0, 1, 1, 0, 0, 1, 1, 0, 1, 0, 0, 0])) [], .code (cd28 [1, 1, 1, 1, 0, 1, 0, 0, 1, 1, 0, 0, 1, 1, 0, 1, 0, 0, 1]), .inLoop (cd28 [1, 1, 1, 1, 0, 1, 0, 0, 1, 1, 0, 0, 1, 1, 0, 1, 0, 0]), .inBlock 2, .code (cd28 [1, 1, 1, 1, 0, 1, 0, 0, 1, 1, 0, 0, 1, 1, 1]), .inBlock 1, .code (cd28 [1, 1, 1, 1, 0, 1, 0, 0, 1, 1, 1]), .inLoop (cd28 [1, 1, 1, 1, 0, 1, 0, 0]), .inBlock 0, .code (cd28 [1, 1, 1, 1, 1])]) (us := []) (d := 30) (t := (decide (t111 < (a1.length : Int)))) (by kernel_rfl) (fun h123 => ?_) (fun h124 => ?_)
            · skip
              have hp125 := ite_t hb118 h123
              refine sx_run 9 (todo' := [.inRegion (opsOf (cd28 [1, 1, 1, 1, 0, 1, 0, 0, 1, 1, 0, 0, 1, 1, 0, 1, 0, 0, 1, 1, 0, 0, 0])) [1, 2, 3, 4], .code (cd28 [1, 1, 1, 1, 0, 1, 0, 0, 1, 1, 0, 0, 1, 1, 0, 1, 0, 0, 1, 1, 0, 0, 1]), .inBlock 3, .code (cd28 [1, 1, 1, 1, 0, 1, 0, 0, 1, 1, 0, 0, 1, 1, 0, 1, 0, 0, 1, 1, 1]), .inLoop (cd28 [1, 1, 1, 1, 0, 1, 0, 0, 1, 1, 0, 0, 1, 1, 0, 1, 0, 0]), .inBlock 2, .code (cd28 [1, 1, 1, 1, 0, 1, 0, 0, 1, 1, 0, 0, 1, 1, 1]), .inBlock 1, .code (cd28 [1, 1, 1, 1, 0, 1, 0, 0, 1, 1, 1]), .inLoop (cd28 [1, 1, 1, 1, 0, 1, 0, 0]), .inBlock 0, .code (cd28 [1, 1, 1, 1, 1])]) (us := [(31, .int .i64 t111)]) (by kernel_rfl) ?_
              obtain ⟨g126, hp127⟩ := ite_some hp125
              obtain ⟨b128, p129, hA130, hc131⟩ := ha1.atF g126.1 g126.2
              refine r_indexAddr (c := (cd28 [1, 1, 1, 1, 0, 1, 0, 0, 1, 1, 0, 0, 1, 1, 0, 1, 0, 0, 1, 1, 0, 0, 0])) (i := 1) (d := (some 32)) (ty := 0) (t := 48) (e := 3) (n := a1.length) (cp := ca1) (sz := 1) (kk := .i64) (x := (.tmp 27)) (y := (.tmp 29)) (b := b128) (o' := p129) (j := t111) (by kernel_rfl) (by kernel_rfl) (slv (by kernel_rfl) hA130) (by kernel_rfl) (by kernel_rfl) (by kernel_rfl) g126.1 g126.2 ?_
              refine r_load (c := (cd28 [1, 1, 1, 1, 0, 1, 0, 0, 1, 1, 0, 0, 1, 1, 0, 1, 0, 0, 1, 1, 0, 0, 0])) (i := 2) (d := (some 33)) (ty := 3) (t := 3) (x := (.tmp 32)) (p := ⟨b128, p129 + t111.toNat * 1, none⟩) (v := .int .i64 (gt a1 t111)) (by kernel_rfl) (by kernel_rfl) (by kernel_rfl) (loads_at 0 (hc131.cells hS114) (by kernel_rfl) (by kernel_rfl)) ?_
              refine sx_split 8 (todo' := [.inRegion (opsOf (cd28 [1, 1, 1, 1, 0, 1, 0, 0, 1, 1, 0, 0, 1, 1, 0, 1, 0, 0, 1, 1, 0, 0, 1, 0, 0])) [2, 3, 4, 5, 6, 7], .code (cd28 [1, 1, 1, 1, 0, 1, 0, 0, 1, 1, 0, 0, 1, 1, 0, 1, 0, 0, 1, 1, 0, 0, 1, 0, 1]), .code (cd28 [1, 1, 1, 1, 0, 1, 0, 0, 1, 1, 0, 0, 1, 1, 0, 1, 0, 0, 1, 1, 0, 0, 1, 1]), .inBlock 3, .code (cd28 [1, 1, 1, 1, 0, 1, 0, 0, 1, 1, 0, 0, 1, 1, 0, 1, 0, 0, 1, 1, 1]), .inLoop (cd28 [1, 1, 1, 1, 0, 1, 0, 0, 1, 1, 0, 0, 1, 1, 0, 1, 0, 0]), .inBlock 2, .code (cd28 [1, 1, 1, 1, 0, 1, 0, 0, 1, 1, 0, 0, 1, 1, 1]), .inBlock 1, .code (cd28 [1, 1, 1, 1, 0, 1, 0, 0, 1, 1, 1]), .inLoop (cd28 [1, 1, 1, 1, 0, 1, 0, 0]), .inBlock 0, .code (cd28 [1, 1, 1, 1, 1])]) (us := [(10, .int .i64 t111), (11, .int .i64 (gt a1 t111)), (34, .int .i64 (gt a1 t111))]) (d := 35) (t := (decide ((gt a1 t111) < 0))) (by kernel_rfl) (fun h132 => ?_) (fun h133 => ?_)
              · skip
                have hp134 := ite_t hp127 h132
                refine sx_run 13 (todo' := [.code (cd28 [1, 1, 1, 1, 0, 1, 0, 0, 1, 1, 0, 0, 1, 1, 0, 1, 0, 0, 1, 1, 0, 0, 1, 0, 1, 0, 1]), .code (cd28 [1, 1, 1, 1, 0, 1, 0, 0, 1, 1, 0, 0, 1, 1, 0, 1, 0, 0, 1, 1, 0, 0, 1, 1]), .inBlock 3, .code (cd28 [1, 1, 1, 1, 0, 1, 0, 0, 1, 1, 0, 0, 1, 1, 0, 1, 0, 0, 1, 1, 1]), .inLoop (cd28 [1, 1, 1, 1, 0, 1, 0, 0, 1, 1, 0, 0, 1, 1, 0, 1, 0, 0]), .inBlock 2, .code (cd28 [1, 1, 1, 1, 0, 1, 0, 0, 1, 1, 0, 0, 1, 1, 1]), .inBlock 1, .code (cd28 [1, 1, 1, 1, 0, 1, 0, 0, 1, 1, 1]), .inLoop (cd28 [1, 1, 1, 1, 0, 1, 0, 0]), .inBlock 0, .code (cd28 [1, 1, 1, 1, 1])]) (us := [(36, .bool true), (37, undef), (38, undef), (39, undef), (40, undef), (41, .bool true), (4, .slice none 0 0), (5, .int .i64 4)]) (by kernel_rfl) ?_
                have hS136 := hS114.nilrow none 24 49
                have hS137 := hS136.pick1
                have hS138 := hS137.drop
                have hS139 := hS138.pick1
                have hS140 := hS139.drop
                have hS141 := hS140.pick1
                have hS142 := hS141.drop
                refine runs_ret (fn := Try.f28) (v := .tuple #[.slice none 0 0, .int .i64 4]) Try.func28 (by kernel_rfl) ?_
                have hr143 := (hq63 _ (hq122 _ (Option.some.inj hp134)))
                cases hr143
                exact hR _ _ ⟨none, 0, rfl, hS142⟩
              · skip
                have hp144 := ite_f hp127 h133
                refine sx_run 3 (todo' := [.inRegion (opsOf (cd28 [1, 1, 1, 1, 0, 1, 0, 0, 1, 1, 0, 0, 1, 1, 0, 1, 0, 0, 1, 1, 0, 0, 1, 0, 0])) [5, 6, 7], .code (cd28 [1, 1, 1, 1, 0, 1, 0, 0, 1, 1, 0, 0, 1, 1, 0, 1, 0, 0, 1, 1, 0, 0, 1, 0, 1]), .code (cd28 [1, 1, 1, 1, 0, 1, 0, 0, 1, 1, 0, 0, 1, 1, 0, 1, 0, 0, 1, 1, 0, 0, 1, 1]), .inBlock 3, .code (cd28 [1, 1, 1, 1, 0, 1, 0, 0, 1, 1, 0, 0, 1, 1, 0, 1, 0, 0, 1, 1, 1]), .inLoop (cd28 [1, 1, 1, 1, 0, 1, 0, 0, 1, 1, 0, 0, 1, 1, 0, 1, 0, 0]), .inBlock 2, .code (cd28 [1, 1, 1, 1, 0, 1, 0, 0, 1, 1, 0, 0, 1, 1, 1]), .inBlock 1, .code (cd28 [1, 1, 1, 1, 0, 1, 0, 0, 1, 1, 1]), .inLoop (cd28 [1, 1, 1, 1, 0, 1, 0, 0]), .inBlock 0, .code (cd28 [1, 1, 1, 1, 1])]) (us := [(36, .bool false), (37, .int .i64 (gt a1 t111)), (38, .pointer (some ⟨b73, 0, none⟩))]) (by kernel_rfl) ?_
                refine r_load (c := (cd28 [1, 1, 1, 1, 0, 1, 0, 0, 1, 1, 0, 0, 1, 1, 0, 1, 0, 0, 1, 1, 0, 0, 1, 0, 0])) (i := 5) (d := (some 39)) (ty := 3) (t := 3) (x := (.tmp 38)) (p := ⟨b73, 0, none⟩) (v := .int .i64 ((gt a0 t53).N)) (by kernel_rfl) (by kernel_rfl) (by kernel_rfl) (loads_at 0 (hS114.blk 1 rfl) (by kernel_rfl) (by kernel_rfl)) ?_
                refine sx_split 1 (todo' := [.inRegion (opsOf (cd28 [1, 1, 1, 1, 0, 1, 0, 0, 1, 1, 0, 0, 1, 1, 0, 1, 0, 0, 1, 1, 0, 0, 1, 0, 0])) [7], .code (cd28 [1, 1, 1, 1, 0, 1, 0, 0, 1, 1, 0, 0, 1, 1, 0, 1, 0, 0, 1, 1, 0, 0, 1, 0, 1]), .code (cd28 [1, 1, 1, 1, 0, 1, 0, 0, 1, 1, 0, 0, 1, 1, 0, 1, 0, 0, 1, 1, 0, 0, 1, 1]), .inBlock 3, .code (cd28 [1, 1, 1, 1, 0, 1, 0, 0, 1, 1, 0, 0, 1, 1, 0, 1, 0, 0, 1, 1, 1]), .inLoop (cd28 [1, 1, 1, 1, 0, 1, 0, 0, 1, 1, 0, 0, 1, 1, 0, 1, 0, 0]), .inBlock 2, .code (cd28 [1, 1, 1, 1, 0, 1, 0, 0, 1, 1, 0, 0, 1, 1, 1]), .inBlock 1, .code (cd28 [1, 1, 1, 1, 0, 1, 0, 0, 1, 1, 1]), .inLoop (cd28 [1, 1, 1, 1, 0, 1, 0, 0]), .inBlock 0, .code (cd28 [1, 1, 1, 1, 1])]) (us := []) (d := 40) (t := (decide ((gt a1 t111) ≥ ((gt a0 t53).N)))) (by kernel_rfl) (fun h145 => ?_) (fun h146 => ?_)
                · skip
                  have hp147 := ite_t hp144 h145
                  refine sx_run 8 (todo' := [.code (cd28 [1, 1, 1, 1, 0, 1, 0, 0, 1, 1, 0, 0, 1, 1, 0, 1, 0, 0, 1, 1, 0, 0, 1, 0, 1, 0, 1]), .code (cd28 [1, 1, 1, 1, 0, 1, 0, 0, 1, 1, 0, 0, 1, 1, 0, 1, 0, 0, 1, 1, 0, 0, 1, 1]), .inBlock 3, .code (cd28 [1, 1, 1, 1, 0, 1, 0, 0, 1, 1, 0, 0, 1, 1, 0, 1, 0, 0, 1, 1, 1]), .inLoop (cd28 [1, 1, 1, 1, 0, 1, 0, 0, 1, 1, 0, 0, 1, 1, 0, 1, 0, 0]), .inBlock 2, .code (cd28 [1, 1, 1, 1, 0, 1, 0, 0, 1, 1, 0, 0, 1, 1, 1]), .inBlock 1, .code (cd28 [1, 1, 1, 1, 0, 1, 0, 0, 1, 1, 1]), .inLoop (cd28 [1, 1, 1, 1, 0, 1, 0, 0]), .inBlock 0, .code (cd28 [1, 1, 1, 1, 1])]) (us := [(41, .bool true), (4, .slice none 0 0), (5, .int .i64 4)]) (by kernel_rfl) ?_
                  have hS149 := hS114.nilrow none 24 49
                  have hS150 := hS149.pick1
                  have hS151 := hS150.drop
                  have hS152 := hS151.pick1
                  have hS153 := hS152.drop
                  have hS154 := hS153.pick1
                  have hS155 := hS154.drop
                  refine runs_ret (fn := Try.f28) (v := .tuple #[.slice none 0 0, .int .i64 4]) Try.func28 (by kernel_rfl) ?_
                  have hr156 := (hq63 _ (hq122 _ (Option.some.inj hp147)))
                  cases hr156
                  exact hR _ _ ⟨none, 0, rfl, hS155⟩
                · skip
                  have hp157 := ite_f hp144 h146
                  refine sx_run 8 (todo' := [.inRegion (opsOf (cd28 [1, 1, 1, 1, 0, 1, 0, 0, 1, 1, 0, 0, 1, 1, 0, 1, 0, 0, 1, 1, 0, 0, 1, 1])) [3, 4, 5, 6, 7], .inBlock 3, .code (cd28 [1, 1, 1, 1, 0, 1, 0, 0, 1, 1, 0, 0, 1, 1, 0, 1, 0, 0, 1, 1, 1]), .inLoop (cd28 [1, 1, 1, 1, 0, 1, 0, 0, 1, 1, 0, 0, 1, 1, 0, 1, 0, 0]), .inBlock 2, .code (cd28 [1, 1, 1, 1, 0, 1, 0, 0, 1, 1, 0, 0, 1, 1, 1]), .inBlock 1, .code (cd28 [1, 1, 1, 1, 0, 1, 0, 0, 1, 1, 1]), .inLoop (cd28 [1, 1, 1, 1, 0, 1, 0, 0]), .inBlock 0, .code (cd28 [1, 1, 1, 1, 1])]) (us := [(41, .bool false), (42, .int .i64 t111), (43, .int .i64 (gt a1 t111)), (44, .pointer (some ⟨b73, 1, none⟩))]) (by kernel_rfl) ?_
                  obtain ⟨g158, hp159⟩ := ite_some hp157
                  refine r_indexArr (c := (cd28 [1, 1, 1, 1, 0, 1, 0, 0, 1, 1, 0, 0, 1, 1, 0, 1, 0, 0, 1, 1, 0, 0, 1, 1])) (i := 3) (d := (some 45)) (ty := 0) (t := 22) (e := 2) (sz := 1) (kk := .i64) (x := (.tmp 44)) (y := (.tmp 43)) (b := b73) (o' := 1) (n := 48) (j := (gt a1 t111)) (by kernel_rfl) (by kernel_rfl) (by kernel_rfl) (by kernel_rfl) (by kernel_rfl) (by kernel_rfl) g158.1 g158.2 ?_
                  refine r_load (c := (cd28 [1, 1, 1, 1, 0, 1, 0, 0, 1, 1, 0, 0, 1, 1, 0, 1, 0, 0, 1, 1, 0, 0, 1, 1])) (i := 4) (d := (some 46)) (ty := 2) (t := 2) (x := (.tmp 45)) (p := ⟨b73, 1 + (gt a1 t111).toNat * 1, none⟩) (v := .int .i64 (vget ((gt a0 t53).V) (gt a1 t111))) (by kernel_rfl) (by kernel_rfl) (by kernel_rfl) (loads_at 0 (cells_vget (sub_api_Final_V (hS114.blk 1 rfl)) (len_encI .i64) g158.1 g158.2) (by kernel_rfl) (by kernel_rfl)) ?_
                  refine sx_run 1 (todo' := [.inRegion (opsOf (cd28 [1, 1, 1, 1, 0, 1, 0, 0, 1, 1, 0, 0, 1, 1, 0, 1, 0, 0, 1, 1, 0, 0, 1, 1])) [6, 7], .inBlock 3, .code (cd28 [1, 1, 1, 1, 0, 1, 0, 0, 1, 1, 0, 0, 1, 1, 0, 1, 0, 0, 1, 1, 1]), .inLoop (cd28 [1, 1, 1, 1, 0, 1, 0, 0, 1, 1, 0, 0, 1, 1, 0, 1, 0, 0]), .inBlock 2, .code (cd28 [1, 1, 1, 1, 0, 1, 0, 0, 1, 1, 0, 0, 1, 1, 1]), .inBlock 1, .code (cd28 [1, 1, 1, 1, 0, 1, 0, 0, 1, 1, 1]), .inLoop (cd28 [1, 1, 1, 1, 0, 1, 0, 0]), .inBlock 0, .code (cd28 [1, 1, 1, 1, 1])]) (us := [(47, .pointer (some ⟨b79, 1, none⟩))]) (by kernel_rfl) ?_
                  obtain ⟨g160, hp161⟩ := ite_some hp159
                  refine r_indexArr (c := (cd28 [1, 1, 1, 1, 0, 1, 0, 0, 1, 1, 0, 0, 1, 1, 0, 1, 0, 0, 1, 1, 0, 0, 1, 1])) (i := 6) (d := (some 48)) (ty := 0) (t := 22) (e := 2) (sz := 1) (kk := .i64) (x := (.tmp 47)) (y := (.tmp 42)) (b := b79) (o' := 1) (n := 48) (j := t111) (by kernel_rfl) (by kernel_rfl) (by kernel_rfl) (by kernel_rfl) (by kernel_rfl) (by kernel_rfl) g160.1 g160.2 ?_
                  have hS162 := hS114.pick2
                  refine r_store (c := (cd28 [1, 1, 1, 1, 0, 1, 0, 0, 1, 1, 0, 0, 1, 1, 0, 1, 0, 0, 1, 1, 0, 0, 1, 1])) (i := 7) (d := none) (ty := 0) (t := 2) (x := (.tmp 48)) (y := (.tmp 46)) (b := b79) (o := 1 + t111.toNat * 1) (e := 24) (cs := enc_api_Final t112) (v := .int .i64 (vget ((gt a0 t53).V) (gt a1 t111))) (vs := [.int .i64 (vget ((gt a0 t53).V) (gt a1 t111))]) (cs' := enc_api_Final (⟨t112.N, (vset t112.V t111 (vget ((gt a0 t53).V) (gt a1 t111)))⟩ : api_Final)) hS162 (by kernel_rfl) (by kernel_rfl) (by kernel_rfl) (by kernel_rfl) (by kernel_rfl) (by kernel_rfl) (by kernel_rfl) (by have := g160.1; have := g160.2; simp only [len_api_Final, List.length_cons, List.length_nil, List.length_append]; omega) (over_api_Final_V _ _ _ g160.1 g160.2) ?_
                  intro w163 hS164
                  refine sx_run 6 (todo' := [.inLoop (cd28 [1, 1, 1, 1, 0, 1, 0, 0, 1, 1, 0, 0, 1, 1, 0, 1, 0, 0]), .inBlock 2, .code (cd28 [1, 1, 1, 1, 0, 1, 0, 0, 1, 1, 0, 0, 1, 1, 1]), .inBlock 1, .code (cd28 [1, 1, 1, 1, 0, 1, 0, 0, 1, 1, 1]), .inLoop (cd28 [1, 1, 1, 1, 0, 1, 0, 0]), .inBlock 0, .code (cd28 [1, 1, 1, 1, 1])]) (us := [(49, .int .i64 (IntKind.i64.wrap (t111 + 1))), (29, .int .i64 (IntKind.i64.wrap (t111 + 1)))]) (by kernel_rfl) ?_
                  have hS165 := hS164.pick2
                  have hS166 := hS165.pick2
                  refine sx_run 1 (todo' := [.code (cd28 [1, 1, 1, 1, 0, 1, 0, 0, 1, 1, 0, 0, 1, 1, 0, 1, 0, 0]), .inLoop (cd28 [1, 1, 1, 1, 0, 1, 0, 0, 1, 1, 0, 0, 1, 1, 0, 1, 0, 0]), .inBlock 2, .code (cd28 [1, 1, 1, 1, 0, 1, 0, 0, 1, 1, 0, 0, 1, 1, 1]), .inBlock 1, .code (cd28 [1, 1, 1, 1, 0, 1, 0, 0, 1, 1, 1]), .inLoop (cd28 [1, 1, 1, 1, 0, 1, 0, 0]), .inBlock 0, .code (cd28 [1, 1, 1, 1, 1])]) (us := []) (by kernel_rfl) ?_
                  refine Runs.fill (m := [none, some (.slice Aa1 a1.length ca1), none, none, none, none, some (.slice A50 t49.length c51), none, some (.pointer (some ⟨b73, 0, none⟩)), some (.pointer (some ⟨b79, 0, none⟩)), none, none, none, none, none, none, none, none, some (.slice Aa0 a0.length ca0), some (.int .i64 (a0.length : Int)), some (.int .i64 t53), none, none, none, none, none, none, some (.slice Aa1 a1.length ca1), some (.int .i64 (a1.length : Int)), some (.int .i64 (IntKind.i64.wrap (t111 + 1))), none, none, none, none, none, none, none, none, none, none, none, none, none, none, none, none, none, none, none, none, none, none, none, none, none, none, none]) (by kernel_rfl) ?_
                  exact ih119 (IntKind.i64.wrap (t111 + 1)) (⟨t112.N, (vset t112.V t111 (vget ((gt a0 t53).V) (gt a1 t111)))⟩ : api_Final) _ hp161 he117 _ _ hS166
            · skip
              have hp167 := ite_f hb118 h124
              refine sx_run 4 (todo' := [.code (cd28 [1, 1, 1, 1, 0, 1, 0, 0, 1, 1, 0, 0, 1, 1, 1]), .inBlock 1, .code (cd28 [1, 1, 1, 1, 0, 1, 0, 0, 1, 1, 1]), .inLoop (cd28 [1, 1, 1, 1, 0, 1, 0, 0]), .inBlock 0, .code (cd28 [1, 1, 1, 1, 1])]) (us := []) (by kernel_rfl) ?_
              have hS168 := hS114.pick1
              have hS169 := hS168.drop
              refine Runs.fill (m := [none, some (.slice Aa1 a1.length ca1), none, none, none, none, some (.slice A50 t49.length c51), none, none, some (.pointer (some ⟨b79, 0, none⟩)), none, none, none, none, none, none, none, none, some (.slice Aa0 a0.length ca0), some (.int .i64 (a0.length : Int)), some (.int .i64 t53), none, none, none, none, none, none, none, none, none, none, none, none, none, none, none, none, none, none, none, none, none, none, none, none, none, none, none, none, none, none, none, none, none, none, none, none]) (by kernel_rfl) ?_
              exact J92 t112 ((Option.some.inj hp167).trans he117) _ _ hS169
          have hS170 := hS84.pick1
          have hS171 := hS170.pick2
          refine Runs.fill (m := [none, some (.slice Aa1 a1.length ca1), none, none, none, none, some (.slice A50 t49.length c51), none, some (.pointer (some ⟨b73, 0, none⟩)), some (.pointer (some ⟨b79, 0, none⟩)), none, none, none, none, none, none, none, none, some (.slice Aa0 a0.length ca0), some (.int .i64 (a0.length : Int)), some (.int .i64 t53), none, none, none, none, none, none, some (.slice Aa1 a1.length ca1), some (.int .i64 (a1.length : Int)), some (.int .i64 0), none, none, none, none, none, none, none, none, none, none, none, none, none, none, none, none, none, none, none, none, none, none, none, none, none, none, none]) (by kernel_rfl) ?_
          exact L121 0 (⟨(a1.length : Int), (Vector.replicate 48 0)⟩ : api_Final) _ hv86 rfl _ _ hS171
        · skip
          have hp172 := ite_f hb59 h65
          refine sx_run 4 (todo' := [.code (cd28 [1, 1, 1, 1, 1])]) (us := []) (by kernel_rfl) ?_
          refine Runs.fill (m := [none, none, none, none, none, none, some (.slice A50 t49.length c51), none, none, none, none, none, none, none, none, none, none, none, none, none, none, none, none, none, none, none, none, none, none, none, none, none, none, none, none, none, none, none, none, none, none, none, none, none, none, none, none, none, none, none, none, none, none, none, none, none, none]) (by kernel_rfl) ?_
          exact J30 t49 ((Option.some.inj hp172).trans he58) _ A50 c51 _ hS55
      have hS174 := hS5.nilrow none 24 49
      refine Runs.fill (m := [none, some (.slice Aa1 a1.length ca1), none, none, none, none, some (.slice none 0 0), none, none, none, none, none, none, none, none, none, none, none, some (.slice Aa0 a0.length ca0), some (.int .i64 (a0.length : Int)), some (.int .i64 0), none, none, none, none, none, none, none, none, none, none, none, none, none, none, none, none, none, none, none, none, none, none, none, none, none, none, none, none, none, none, none, none, none, none, none, none]) (by kernel_rfl) ?_
      exact L62 [] 0 _ hv21 rfl _ none 0 _ hS174

noncomputable def cd29 (p : List Nat) : Code := sub (bodyOf Try.f29) p
def weirref10_Project.l1 (a0 : List api_Final) (a1 : List Int) (t53 : Int) (t99 : Int) (t100 : api_Final) : Option (Sum api_Final (Sum (List api_Final) ((List api_Final) × Int))) :=
  (if (decide (t99 < (a1.length : Int))) = true then (if 0 ≤ t99 ∧ t99 < (a1.length : Int) then (if (decide ((gt a1 t99) < 0)) = true then some (.inr (.inr (([], 4)))) else (if 0 ≤ t99 ∧ t99 < (a1.length : Int) then (if 0 ≤ t53 ∧ t53 < (a0.length : Int) then (if (decide ((gt a1 t99) ≥ ((gt a0 t53).N))) = true then some (.inr (.inr (([], 4)))) else (if 0 ≤ t99 ∧ t99 < (a1.length : Int) then (if 0 ≤ t53 ∧ t53 < (a0.length : Int) then (if 0 ≤ (gt a1 t99) ∧ (gt a1 t99) < 48 then (if 0 ≤ t99 ∧ t99 < 48 then (weirref10_Project.l1 a0 a1 t53 (IntKind.i64.wrap (t99 + 1)) (⟨t100.N, (vset t100.V t99 (vget ((gt a0 t53).V) (gt a1 t99)))⟩ : api_Final)) else none) else none) else none) else none)) else none) else none)) else none) else some (.inl t100))
 partial_fixpoint
def weirref10_Project.l0 (a0 : List api_Final) (a1 : List Int) (t49 : List api_Final) (t53 : Int) : Option (Sum (List api_Final) ((List api_Final) × Int)) :=
  (if (decide (t53 < (a0.length : Int))) = true then (weirref10_Project.l1 a0 a1 t53 0 (⟨(a1.length : Int), (Vector.replicate 48 0)⟩ : api_Final) >>= (fun | .inl t76 => (if (t49.length + ([t76] : List api_Final).length) * 392 ≤ 140737488355328 then (weirref10_Project.l0 a0 a1 (t49 ++ ([t76] : List api_Final)) (IntKind.i64.wrap (t53 + 1))) else none) | .inr e => some e)) else some (.inl t49))
 partial_fixpoint
def weirref10_Project.f (a0 : List api_Final) (a1 : List Int) : Option ((List api_Final) × Int) :=
  (weirref10_Rises.f a0 >>= (fun t1 => (if (!t1) = true then some (([], 100)) else (if (decide ((a1.length : Int) > 48)) = true then some (([], 1)) else (weirref10_Project.l0 a0 a1 [] 0 >>= (fun | .inl t23 => (weirref10_Sort.f t23 >>= (fun t33 => some ((t33, 0)))) | .inr e => some e))))))
set_option maxHeartbeats 16000000 in
theorem weirref10_Project.ok (a0 : List api_Final) (a1 : List Int) (Aa0 : Option Addr) (ca0 : Nat) (Aa1 : Option Addr) (ca1 : Nat) {w0 : World} {Z : Zm} {fs : List XObj} {w : World} (hS0 : St w0 Z (fs) w) (ha0 : SlZ (flat enc_api_Final) 49 Z Aa0 ca0 a0) (ha1 : SlZ (flat (encI .i64)) 1 Z Aa1 ca1 a1) {q0 : List api_Final} {q1 : Int} (hp0 : weirref10_Project.f a0 a1 = some (q0, q1)) :
    Calls Try.prog 29 #[.slice Aa0 a0.length ca0, .slice Aa1 a1.length ca1] w (fun e w' => ∃ (QA0 : Option Addr) (Qc0 : Nat), e = .returned (.tuple #[.slice QA0 q0.length Qc0, .int .i64 q1]) ∧ St w0 Z (xrow QA0 Qc0 24 49 (q0.flatMap enc_api_Final) :: fs) w') := by
  refine calls_abs ?_; intro R hR
  unfold weirref10_Project.f at hp0
  refine calls_of_runs (fn := Try.f29) (c := cd29 []) Try.func29 (by kernel_rfl) (al := [.slice Aa0 a0.length ca0, .slice Aa1 a1.length ca1]) rfl (n := 65) rfl ?_
  refine sx_run 9 (todo' := [.inRegion (opsOf (cd29 [1, 0, 0])) [1, 2], .code (cd29 [1, 0, 1]), .code (cd29 [1, 1])]) (us := [(4, .slice none 0 0), (5, .int .i64 0), (10, .slice Aa0 a0.length ca0)]) (by kernel_rfl) ?_
  obtain ⟨t1, hr2, hp3⟩ := bind_some' hp0
  refine r_call1 (c := (cd29 [1, 0, 0])) (i := 1) (d := (some 11)) (g := 24) (args := #[.slice Aa0 a0.length ca0]) (by kernel_rfl) (by kernel_rfl) (by kernel_rfl) (by kernel_rfl) (weirref10_Rises.ok a0 Aa0 ca0 hS0 ha0 hr2) ?_
  rintro _ w4 ⟨rfl, hS5⟩
  refine ⟨.bool t1, rfl, ?_⟩
  refine sx_split 1 (todo' := [.inRegion (opsOf (cd29 [1, 0, 0])) [], .code (cd29 [1, 0, 1]), .code (cd29 [1, 1])]) (us := []) (d := 12) (t := (!t1)) (by kernel_rfl) (fun h6 => ?_) (fun h7 => ?_)
  · skip
    have hp8 := ite_t hp3 h6
    refine sx_run 7 (todo' := [.code (cd29 [1, 0, 1, 0, 1]), .code (cd29 [1, 1])]) (us := [(4, .slice none 0 0), (5, .int .i64 100)]) (by kernel_rfl) ?_
    have hS10 := hS5.nilrow none 24 49
    refine runs_ret (fn := Try.f29) (v := .tuple #[.slice none 0 0, .int .i64 100]) Try.func29 (by kernel_rfl) ?_
    have hr11 := (Option.some.inj hp8)
    cases hr11
    exact hR _ _ ⟨none, 0, rfl, hS10⟩
  · skip
    have hp12 := ite_f hp3 h7
    refine sx_split 9 (todo' := [.inRegion (opsOf (cd29 [1, 1, 0, 0])) [], .code (cd29 [1, 1, 0, 1]), .code (cd29 [1, 1, 1])]) (us := [(13, .slice Aa1 a1.length ca1), (14, .int .i64 (a1.length : Int))]) (d := 15) (t := (decide ((a1.length : Int) > 48))) (by kernel_rfl) (fun h13 => ?_) (fun h14 => ?_)
    · skip
      have hp15 := ite_t hp12 h13
      refine sx_run 7 (todo' := [.code (cd29 [1, 1, 0, 1, 0, 1]), .code (cd29 [1, 1, 1])]) (us := [(4, .slice none 0 0), (5, .int .i64 1)]) (by kernel_rfl) ?_
      have hS17 := hS5.nilrow none 24 49
      refine runs_ret (fn := Try.f29) (v := .tuple #[.slice none 0 0, .int .i64 1]) Try.func29 (by kernel_rfl) ?_
      have hr18 := (Option.some.inj hp15)
      cases hr18
      exact hR _ _ ⟨none, 0, rfl, hS17⟩
    · skip
      have hp19 := ite_f hp12 h14
      refine sx_run 14 (todo' := [.code (cd29 [1, 1, 1, 1, 0, 1, 0, 0]), .inLoop (cd29 [1, 1, 1, 1, 0, 1, 0, 0]), .inBlock 0, .code (cd29 [1, 1, 1, 1, 1])]) (us := [(6, .slice none 0 0), (7, .int .i64 0)]) (by kernel_rfl) ?_
      obtain ⟨v20, hv21, hp22⟩ := bind_some' hp19
      have hq29 : ∀ x, Sum.inr x = v20 → x = (q0, q1) := by intro x hx; subst hx; simpa using hp22
      have J30 : ∀ (t23 : List api_Final) (he32 : Sum.inl t23 = v20) (l31 : List Value) (A24 : Option Addr) (c25 : Nat) (w27 : World) (hS28 : St w0 Z (xrow A24 c25 24 49 (t23.flatMap enc_api_Final) :: fs) w27), Runs Try.prog 29 [.code (cd29 [1, 1, 1, 1, 1])] (fill [none, none, none, none, none, none, some (.slice A24 t23.length c25), none, none, none, none, none, none, none, none, none, none, none, none, none, none, none, none, none, none, none, none, none, none, none, none, none, none, none, none, none, none, none, none, none, none, none, none, none, none, none, none, none, none, none, none, none, none, none, none, none, none, none, none, none, none, none, none, none, none, none, none] l31) w27 R := by
        intro t23 he32 l31 A24 c25 w27 hS28
        subst he32
        try dsimp only at hp22
        refine sx_run 3 (todo' := [.inRegion (opsOf (cd29 [1, 1, 1, 1, 1, 0])) [1, 2, 3], .code (cd29 [1, 1, 1, 1, 1, 1])]) (us := [(65, .slice A24 t23.length c25)]) (by kernel_rfl) ?_
        obtain ⟨t33, hr36, hp37⟩ := bind_some' hp22
        obtain ⟨Z39, hz40, hS41, hs42, hb43⟩ := hS28.lendrow len_api_Final (by omega)
        refine r_call1 (c := (cd29 [1, 1, 1, 1, 1, 0])) (i := 1) (d := (some 66)) (g := 14) (args := #[.slice A24 t23.length c25]) (by kernel_rfl) (by kernel_rfl) (by kernel_rfl) (by kernel_rfl) (weirref10_Sort.ok t23 A24 c25 hS41 hs42 hr36) ?_
        rintro _ w44 ⟨Q34, Q35, rfl, hS45⟩
        refine ⟨.slice Q34 t33.length Q35, rfl, ?_⟩
        have hS46 := hb43 _ _ hS45
        refine sx_run 3 (todo' := [.code (cd29 [1, 1, 1, 1, 1, 1])]) (us := [(4, .slice Q34 t33.length Q35), (5, .int .i64 0)]) (by kernel_rfl) ?_
        have hS47 := hS46.drop
        refine runs_ret (fn := Try.f29) (v := .tuple #[.slice Q34 t33.length Q35, .int .i64 0]) Try.func29 (by kernel_rfl) ?_
        have hr48 := (Option.some.inj hp37)
        cases hr48
        exact hR _ _ ⟨Q34, Q35, rfl, hS47⟩
      have L62 : ∀ (t49 : List api_Final) (t53 : Int) (e57 : Sum (List api_Final) ((List api_Final) × Int)), weirref10_Project.l0 a0 a1 t49 t53 = some e57 → e57 = v20 → ∀ (l56 : List Value) (A50 : Option Addr) (c51 : Nat) (w54 : World) (hS55 : St w0 Z (xrow A50 c51 24 49 (t49.flatMap enc_api_Final) :: fs) w54), Runs Try.prog 29 [.code (cd29 [1, 1, 1, 1, 0, 1, 0, 0]), .inLoop (cd29 [1, 1, 1, 1, 0, 1, 0, 0]), .inBlock 0, .code (cd29 [1, 1, 1, 1, 1])] (fill [some (.slice Aa0 a0.length ca0), some (.slice Aa1 a1.length ca1), none, none, none, none, some (.slice A50 t49.length c51), some (.int .i64 t53), none, none, none, none, none, none, none, none, none, none, none, none, none, none, none, none, none, none, none, none, none, none, none, none, none, none, none, none, none, none, none, none, none, none, none, none, none, none, none, none, none, none, none, none, none, none, none, none, none, none, none, none, none, none, none, none, none, none, none] l56) w54 R := by
        refine weirref10_Project.l0.partial_correctness a0 a1 (fun t49 t53 e57 => e57 = v20 → ∀ (l56 : List Value) (A50 : Option Addr) (c51 : Nat) (w54 : World) (hS55 : St w0 Z (xrow A50 c51 24 49 (t49.flatMap enc_api_Final) :: fs) w54), Runs Try.prog 29 [.code (cd29 [1, 1, 1, 1, 0, 1, 0, 0]), .inLoop (cd29 [1, 1, 1, 1, 0, 1, 0, 0]), .inBlock 0, .code (cd29 [1, 1, 1, 1, 1])] (fill [some (.slice Aa0 a0.length ca0), some (.slice Aa1 a1.length ca1), none, none, none, none, some (.slice A50 t49.length c51), some (.int .i64 t53), none, none, none, none, none, none, none, none, none, none, none, none, none, none, none, none, none, none, none, none, none, none, none, none, none, none, none, none, none, none, none, none, none, none, none, none, none, none, none, none, none, none, none, none, none, none, none, none, none, none, none, none, none, none, none, none, none, none, none] l56) w54 R) ?_
        intro rec61 ih60 t49 t53 e57 hb59 he58 l56 A50 c51 w54 hS55
        have hq63 : ∀ x, Sum.inr x = e57 → x = (q0, q1) := fun x hx => hq29 x (hx.trans he58)
        refine sx_split 7 (todo' := [.inRegion (opsOf (cd29 [1, 1, 1, 1, 0, 1, 0, 0, 0, 0])) [], .code (cd29 [1, 1, 1, 1, 0, 1, 0, 0, 0, 1]), .code (cd29 [1, 1, 1, 1, 0, 1, 0, 0, 1]), .inLoop (cd29 [1, 1, 1, 1, 0, 1, 0, 0]), .inBlock 0, .code (cd29 [1, 1, 1, 1, 1])]) (us := [(16, .int .i64 t53), (17, .slice Aa0 a0.length ca0), (18, .int .i64 (a0.length : Int))]) (d := 19) (t := (decide (t53 < (a0.length : Int)))) (by kernel_rfl) (fun h64 => ?_) (fun h65 => ?_)
        · skip
          have hp66 := ite_t hb59 h64
          refine sx_run 10 (todo' := [.inRegion (opsOf (cd29 [1, 1, 1, 1, 0, 1, 0, 0, 1, 0, 0, 0])) [3, 4], .code (cd29 [1, 1, 1, 1, 0, 1, 0, 0, 1, 0, 0, 1]), .inBlock 1, .code (cd29 [1, 1, 1, 1, 0, 1, 0, 0, 1, 1]), .inLoop (cd29 [1, 1, 1, 1, 0, 1, 0, 0]), .inBlock 0, .code (cd29 [1, 1, 1, 1, 1])]) (us := [(22, .slice Aa1 a1.length ca1), (23, .int .i64 (a1.length : Int)), (24, .agg (enc_api_Final (⟨(a1.length : Int), (Vector.replicate 48 0)⟩ : api_Final)).toArray)]) (by kernel_rfl) ?_
          refine r_alloc (c := (cd29 [1, 1, 1, 1, 0, 1, 0, 0, 1, 0, 0, 0])) (i := 3) (d := (some 8)) (ty := 0) (z := .agg (enc_api_Final (⟨0, (Vector.replicate 48 0)⟩ : api_Final)).toArray) (t := 24) (cs := enc_api_Final (⟨0, (Vector.replicate 48 0)⟩ : api_Final)) hS55 (by kernel_rfl) (by kernel_rfl) (by kernel_rfl) (by kernel_rfl) ?_
          intro b67 w68 hS69
          refine r_store (c := (cd29 [1, 1, 1, 1, 0, 1, 0, 0, 1, 0, 0, 0])) (i := 4) (d := none) (ty := 0) (t := 24) (x := (.tmp 8)) (y := (.tmp 24)) (b := b67) (o := 0) (e := 24) (cs := enc_api_Final (⟨0, (Vector.replicate 48 0)⟩ : api_Final)) (v := .agg (enc_api_Final (⟨(a1.length : Int), (Vector.replicate 48 0)⟩ : api_Final)).toArray) (vs := enc_api_Final (⟨(a1.length : Int), (Vector.replicate 48 0)⟩ : api_Final)) (cs' := enc_api_Final (⟨(a1.length : Int), (Vector.replicate 48 0)⟩ : api_Final)) hS69 (by kernel_rfl) (by kernel_rfl) (by kernel_rfl) (by kernel_rfl) (by kernel_rfl) (lenK (len_api_Final _) (by kernel_rfl)) (one_api_Final _) (by simp only [len_api_Final, List.length_cons, List.length_nil, List.length_append]; omega) (over_all ((len_api_Final _).trans (len_api_Final _).symm)) ?_
          intro w71 hS72
          refine sx_run 8 (todo' := [.code (cd29 [1, 1, 1, 1, 0, 1, 0, 0, 1, 0, 0, 1, 0, 1, 0, 0]), .inLoop (cd29 [1, 1, 1, 1, 0, 1, 0, 0, 1, 0, 0, 1, 0, 1, 0, 0]), .inBlock 2, .code (cd29 [1, 1, 1, 1, 0, 1, 0, 0, 1, 0, 0, 1, 1]), .inBlock 1, .code (cd29 [1, 1, 1, 1, 0, 1, 0, 0, 1, 1]), .inLoop (cd29 [1, 1, 1, 1, 0, 1, 0, 0]), .inBlock 0, .code (cd29 [1, 1, 1, 1, 1])]) (us := [(9, .int .i64 0)]) (by kernel_rfl) ?_
          obtain ⟨v73, hv74, hp75⟩ := bind_some' hp66
          have hq79 : ∀ x, Sum.inr x = v73 → x = e57 := by intro x hx; subst hx; simpa using hp75
          have J80 : ∀ (t76 : api_Final) (he82 : Sum.inl t76 = v73) (l81 : List Value) (w77 : World) (hS78 : St w0 Z (xrow A50 c51 24 49 (t49.flatMap enc_api_Final) :: xblk b67 24 (enc_api_Final t76) :: fs) w77), Runs Try.prog 29 [.code (cd29 [1, 1, 1, 1, 0, 1, 0, 0, 1, 0, 0, 1, 1]), .inBlock 1, .code (cd29 [1, 1, 1, 1, 0, 1, 0, 0, 1, 1]), .inLoop (cd29 [1, 1, 1, 1, 0, 1, 0, 0]), .inBlock 0, .code (cd29 [1, 1, 1, 1, 1])] (fill [some (.slice Aa0 a0.length ca0), some (.slice Aa1 a1.length ca1), none, none, none, none, some (.slice A50 t49.length c51), some (.int .i64 t53), some (.pointer (some ⟨b67, 0, none⟩)), none, none, none, none, none, none, none, none, none, none, none, none, none, none, none, none, none, none, none, none, none, none, none, none, none, none, none, none, none, none, none, none, none, none, none, none, none, none, none, none, none, none, none, none, none, none, none, none, none, none, none, none, none, none, none, none, none, none] l81) w77 R := by
            intro t76 he82 l81 w77 hS78
            subst he82
            try dsimp only at hp75
            refine sx_run 2 (todo' := [.inRegion (opsOf (cd29 [1, 1, 1, 1, 0, 1, 0, 0, 1, 0, 0, 1, 1])) [1, 2, 3, 4], .inBlock 1, .code (cd29 [1, 1, 1, 1, 0, 1, 0, 0, 1, 1]), .inLoop (cd29 [1, 1, 1, 1, 0, 1, 0, 0]), .inBlock 0, .code (cd29 [1, 1, 1, 1, 1])]) (us := [(61, .slice A50 t49.length c51)]) (by kernel_rfl) ?_
            refine r_load (c := (cd29 [1, 1, 1, 1, 0, 1, 0, 0, 1, 0, 0, 1, 1])) (i := 1) (d := (some 62)) (ty := 24) (t := 24) (x := (.tmp 8)) (p := ⟨b67, 0, none⟩) (v := .agg (enc_api_Final t76).toArray) (by kernel_rfl) (by kernel_rfl) (by kernel_rfl) (loads_agg (hS78.blk 1 rfl) (by kernel_rfl) (lenK (len_api_Final _) (by kernel_rfl))) ?_
            refine r_lit (c := (cd29 [1, 1, 1, 1, 0, 1, 0, 0, 1, 0, 0, 1, 1])) (i := 2) (d := (some 63)) (ty := 36) (t := 36) (e := 24) (sz := 49) (n := 1) (parts := #[(0, (.tmp 62))]) (vs := [(0, .agg (enc_api_Final t76).toArray)]) (z := zeroOf Try.prog 24) (cs' := ([t76] : List api_Final).flatMap enc_api_Final) hS78 (by kernel_rfl) (by kernel_rfl) (by kernel_rfl) (by kernel_rfl) (by kernel_rfl) (by decide) (by decide) (by kernel_rfl) rfl (Parts.cons (c := enc_api_Final t76) (by kernel_rfl) (len_api_Final _) Parts.nil) rfl ?_
            intro b84 w85 hS86
            have hS87 := hS86.pick1
            obtain ⟨g88, hp89⟩ := ite_some hp75
            refine r_append (c := (cd29 [1, 1, 1, 1, 0, 1, 0, 0, 1, 0, 0, 1, 1])) (i := 3) (d := (some 64)) (ty := 36) (enc := enc_api_Final) (e := 24) (u := 24) (t := 36) (t2 := 36) (sz := 49) (cp := c51) (A := A50) (bytes := 392) (xs := t49) (ys := ([t76] : List api_Final)) (s := (.tmp 61)) (x := (.tmp 63)) (xv := .slice (some ⟨b84, 0, none⟩) ([t76] : List api_Final).length 1) (info := infoOf Try.prog 24) (z := zeroOf Try.prog 24) (ycs := ([t76] : List api_Final).flatMap enc_api_Final) hS87 (by kernel_rfl) (by kernel_rfl) (by kernel_rfl) (by kernel_rfl) (by kernel_rfl) (.inl (by kernel_rfl)) (by kernel_rfl) (by kernel_rfl) (by kernel_rfl) (by kernel_rfl) (by kernel_rfl) (by omega) len_api_Final one_api_Final (src_row (hS87.row 1 rfl) (by omega) len_api_Final) rfl g88 (by omega) ?_
            intro A90 c91 w92 hS93
            refine sx_run 8 (todo' := [.inLoop (cd29 [1, 1, 1, 1, 0, 1, 0, 0]), .inBlock 0, .code (cd29 [1, 1, 1, 1, 1])]) (us := [(6, .slice A90 (t49 ++ ([t76] : List api_Final)).length c91), (20, .int .i64 t53), (21, .int .i64 (IntKind.i64.wrap (t53 + 1))), (7, .int .i64 (IntKind.i64.wrap (t53 + 1)))]) (by kernel_rfl) ?_
            have hS95 := hS93.pick1
            have hS96 := hS95.drop
            have hS97 := hS96.pick1
            have hS98 := hS97.drop
            refine sx_run 1 (todo' := [.code (cd29 [1, 1, 1, 1, 0, 1, 0, 0]), .inLoop (cd29 [1, 1, 1, 1, 0, 1, 0, 0]), .inBlock 0, .code (cd29 [1, 1, 1, 1, 1])]) (us := []) (by kernel_rfl) ?_
            refine Runs.fill (m := [some (.slice Aa0 a0.length ca0), some (.slice Aa1 a1.length ca1), none, none, none, none, some (.slice A90 (t49 ++ ([t76] : List api_Final)).length c91), some (.int .i64 (IntKind.i64.wrap (t53 + 1))), none, none, none, none, none, none, none, none, none, none, none, none, none, none, none, none, none, none, none, none, none, none, none, none, none, none, none, none, none, none, none, none, none, none, none, none, none, none, none, none, none, none, none, none, none, none, none, none, none, none, none, none, none, none, none, none, none, none, none]) (by kernel_rfl) ?_
            exact ih60 (t49 ++ ([t76] : List api_Final)) (IntKind.i64.wrap (t53 + 1)) _ hp89 he58 _ A90 c91 _ hS98
          have L109 : ∀ (t99 : Int) (t100 : api_Final) (e104 : Sum api_Final (Sum (List api_Final) ((List api_Final) × Int))), weirref10_Project.l1 a0 a1 t53 t99 t100 = some e104 → e104 = v73 → ∀ (l103 : List Value) (w101 : World) (hS102 : St w0 Z (xrow A50 c51 24 49 (t49.flatMap enc_api_Final) :: xblk b67 24 (enc_api_Final t100) :: fs) w101), Runs Try.prog 29 [.code (cd29 [1, 1, 1, 1, 0, 1, 0, 0, 1, 0, 0, 1, 0, 1, 0, 0]), .inLoop (cd29 [1, 1, 1, 1, 0, 1, 0, 0, 1, 0, 0, 1, 0, 1, 0, 0]), .inBlock 2, .code (cd29 [1, 1, 1, 1, 0, 1, 0, 0, 1, 0, 0, 1, 1]), .inBlock 1, .code (cd29 [1, 1, 1, 1, 0, 1, 0, 0, 1, 1]), .inLoop (cd29 [1, 1, 1, 1, 0, 1, 0, 0]), .inBlock 0, .code (cd29 [1, 1, 1, 1, 1])] (fill [some (.slice Aa0 a0.length ca0), some (.slice Aa1 a1.length ca1), none, none, none, none, some (.slice A50 t49.length c51), some (.int .i64 t53), some (.pointer (some ⟨b67, 0, none⟩)), some (.int .i64 t99), none, none, none, none, none, none, none, none, none, none, none, none, none, none, none, none, none, none, none, none, none, none, none, none, none, none, none, none, none, none, none, none, none, none, none, none, none, none, none, none, none, none, none, none, none, none, none, none, none, none, none, none, none, none, none, none, none] l103) w101 R := by
            refine weirref10_Project.l1.partial_correctness a0 a1 t53 (fun t99 t100 e104 => e104 = v73 → ∀ (l103 : List Value) (w101 : World) (hS102 : St w0 Z (xrow A50 c51 24 49 (t49.flatMap enc_api_Final) :: xblk b67 24 (enc_api_Final t100) :: fs) w101), Runs Try.prog 29 [.code (cd29 [1, 1, 1, 1, 0, 1, 0, 0, 1, 0, 0, 1, 0, 1, 0, 0]), .inLoop (cd29 [1, 1, 1, 1, 0, 1, 0, 0, 1, 0, 0, 1, 0, 1, 0, 0]), .inBlock 2, .code (cd29 [1, 1, 1, 1, 0, 1, 0, 0, 1, 0, 0, 1, 1]), .inBlock 1, .code (cd29 [1, 1, 1, 1, 0, 1, 0, 0, 1, 1]), .inLoop (cd29 [1, 1, 1, 1, 0, 1, 0, 0]), .inBlock 0, .code (cd29 [1, 1, 1, 1, 1])] (fill [some (.slice Aa0 a0.length ca0), some (.slice Aa1 a1.length ca1), none, none, none, none, some (.slice A50 t49.length c51), some (.int .i64 t53), some (.pointer (some ⟨b67, 0, none⟩)), some (.int .i64 t99), none, none, none, none, none, none, none, none, none, none, none, none, none, none, none, none, none, none, none, none, none, none, none, none, none, none, none, none, none, none, none, none, none, none, none, none, none, none, none, none, none, none, none, none, none, none, none, none, none, none, none, none, none, none, none, none, none] l103) w101 R) ?_
            intro rec108 ih107 t99 t100 e104 hb106 he105 l103 w101 hS102
            have hq110 : ∀ x, Sum.inr x = e104 → x = e57 := fun x hx => hq79 x (hx.trans he105)
            refine sx_split 7 (todo' := [.inRegion (opsOf (cd29 [1, 1, 1, 1, 0, 1, 0, 0, 1, 0, 0, 1, 0, 1, 0, 0, 0, 0])) [], .code (cd29 [1, 1, 1, 1, 0, 1, 0, 0, 1, 0, 0, 1, 0, 1, 0, 0, 0, 1]), .code (cd29 [1, 1, 1, 1, 0, 1, 0, 0, 1, 0, 0, 1, 0, 1, 0, 0, 1]), .inLoop (cd29 [1, 1, 1, 1, 0, 1, 0, 0, 1, 0, 0, 1, 0, 1, 0, 0]), .inBlock 2, .code (cd29 [1, 1, 1, 1, 0, 1, 0, 0, 1, 0, 0, 1, 1]), .inBlock 1, .code (cd29 [1, 1, 1, 1, 0, 1, 0, 0, 1, 1]), .inLoop (cd29 [1, 1, 1, 1, 0, 1, 0, 0]), .inBlock 0, .code (cd29 [1, 1, 1, 1, 1])]) (us := [(25, .int .i64 t99), (26, .slice Aa1 a1.length ca1), (27, .int .i64 (a1.length : Int))]) (d := 28) (t := (decide (t99 < (a1.length : Int)))) (by kernel_rfl) (fun h111 => ?_) (fun h112 => ?_)
            · skip
              have hp113 := ite_t hb106 h111
              refine sx_run 7 (todo' := [.code (cd29 [1, 1, 1, 1, 0, 1, 0, 0, 1, 0, 0, 1, 0, 1, 0, 0, 1, 0, 0, 0, 0]), .code (cd29 [1, 1, 1, 1, 0, 1, 0, 0, 1, 0, 0, 1, 0, 1, 0, 0, 1, 0, 0, 0, 1]), .code (cd29 [1, 1, 1, 1, 0, 1, 0, 0, 1, 0, 0, 1, 0, 1, 0, 0, 1, 0, 0, 1]), .inBlock 3, .code (cd29 [1, 1, 1, 1, 0, 1, 0, 0, 1, 0, 0, 1, 0, 1, 0, 0, 1, 1]), .inLoop (cd29 [1, 1, 1, 1, 0, 1, 0, 0, 1, 0, 0, 1, 0, 1, 0, 0]), .inBlock 2, .code (cd29 [1, 1, 1, 1, 0, 1, 0, 0, 1, 0, 0, 1, 1]), .inBlock 1, .code (cd29 [1, 1, 1, 1, 0, 1, 0, 0, 1, 1]), .inLoop (cd29 [1, 1, 1, 1, 0, 1, 0, 0]), .inBlock 0, .code (cd29 [1, 1, 1, 1, 1])]) (us := []) (by kernel_rfl) ?_
              refine r_quiet hS102 (c := (cd29 [1, 1, 1, 1, 0, 1, 0, 0, 1, 0, 0, 1, 0, 1, 0, 0, 1, 0, 0, 0, 0])) (id := 13) (by kernel_rfl) (by kernel_rfl) (by kernel_rfl) (is := [0, 1, 2, 3, 4, 5, 6, 7, 8, 9, 10, 11, 12, 13, 14, 15, 16]) (by kernel_rfl) ?_
              refine q_run 2 (is' := [2, 3, 4, 5, 6, 7, 8, 9, 10, 11, 12, 13, 14, 15, 16]) (us := [(31, .slice Aa1 a1.length ca1), (32, .int .i64 t99)]) (by kernel_rfl) ?_
              obtain ⟨g114, hp115⟩ := ite_some hp113
              obtain ⟨b116, p117, hA118, hc119⟩ := ha1.atF g114.1 g114.2
              refine q_indexAddr (c := (cd29 [1, 1, 1, 1, 0, 1, 0, 0, 1, 0, 0, 1, 0, 1, 0, 0, 1, 0, 0, 0, 0])) (i := 2) (d := (some 33)) (ty := 0) (t := 48) (e := 3) (n := a1.length) (cp := ca1) (sz := 1) (kk := .i64) (x := (.tmp 31)) (y := (.tmp 32)) (b := b116) (o' := p117) (j := t99) (by kernel_rfl) (by kernel_rfl) (slv (by kernel_rfl) hA118) (by kernel_rfl) (by kernel_rfl) (by kernel_rfl) g114.1 g114.2 ?_
              refine q_load (c := (cd29 [1, 1, 1, 1, 0, 1, 0, 0, 1, 0, 0, 1, 0, 1, 0, 0, 1, 0, 0, 0, 0])) (i := 3) (d := (some 34)) (ty := 3) (t := 3) (x := (.tmp 33)) (p := ⟨b116, p117 + t99.toNat * 1, none⟩) (v := .int .i64 (gt a1 t99)) (by kernel_rfl) (by kernel_rfl) (by kernel_rfl) (fun w hC => (loads_at 0 (hc119.cells hC) (by kernel_rfl) (by kernel_rfl))) ?_
              refine q_splitr 1 (is' := [5, 6, 7, 8, 9, 10, 11, 12, 13, 14, 15, 16]) (us := []) (d := 35) (t := (decide ((gt a1 t99) < 0))) (by kernel_rfl) (fun h120 => ?_) (fun h121 => ?_)
              · skip
                have hp122 := ite_t hp115 h120
                refine q_run 12 (is' := []) (us := [(36, .bool true), (37, undef), (38, undef), (39, undef), (40, undef), (41, undef), (42, undef), (43, undef), (44, undef), (45, undef), (46, undef), (47, .bool true)]) (by kernel_rfl) ?_
                refine Qs.nil ?_
                intro w123 hS124
                refine sx_run 6 (todo' := [.code (cd29 [1, 1, 1, 1, 0, 1, 0, 0, 1, 0, 0, 1, 0, 1, 0, 0, 1, 0, 0, 0, 1, 0, 1]), .code (cd29 [1, 1, 1, 1, 0, 1, 0, 0, 1, 0, 0, 1, 0, 1, 0, 0, 1, 0, 0, 1]), .inBlock 3, .code (cd29 [1, 1, 1, 1, 0, 1, 0, 0, 1, 0, 0, 1, 0, 1, 0, 0, 1, 1]), .inLoop (cd29 [1, 1, 1, 1, 0, 1, 0, 0, 1, 0, 0, 1, 0, 1, 0, 0]), .inBlock 2, .code (cd29 [1, 1, 1, 1, 0, 1, 0, 0, 1, 0, 0, 1, 1]), .inBlock 1, .code (cd29 [1, 1, 1, 1, 0, 1, 0, 0, 1, 1]), .inLoop (cd29 [1, 1, 1, 1, 0, 1, 0, 0]), .inBlock 0, .code (cd29 [1, 1, 1, 1, 1])]) (us := [(4, .slice none 0 0), (5, .int .i64 4)]) (by kernel_rfl) ?_
                have hS126 := hS124.nilrow none 24 49
                have hS127 := hS126.pick1
                have hS128 := hS127.drop
                have hS129 := hS128.pick1
                have hS130 := hS129.drop
                refine runs_ret (fn := Try.f29) (v := .tuple #[.slice none 0 0, .int .i64 4]) Try.func29 (by kernel_rfl) ?_
                have hr131 := (hq63 _ (hq110 _ (Option.some.inj hp122)))
                cases hr131
                exact hR _ _ ⟨none, 0, rfl, hS130⟩
              · skip
                have hp132 := ite_f hp115 h121
                refine q_run 3 (is' := [8, 9, 10, 11, 12, 13, 14, 15, 16]) (us := [(36, .bool false), (37, .slice Aa1 a1.length ca1), (38, .int .i64 t99)]) (by kernel_rfl) ?_
                obtain ⟨g133, hp134⟩ := ite_some hp132
                obtain ⟨b135, p136, hA137, hc138⟩ := ha1.atF g133.1 g133.2
                refine q_indexAddr (c := (cd29 [1, 1, 1, 1, 0, 1, 0, 0, 1, 0, 0, 1, 0, 1, 0, 0, 1, 0, 0, 0, 0])) (i := 8) (d := (some 39)) (ty := 0) (t := 48) (e := 3) (n := a1.length) (cp := ca1) (sz := 1) (kk := .i64) (x := (.tmp 37)) (y := (.tmp 38)) (b := b135) (o' := p136) (j := t99) (by kernel_rfl) (by kernel_rfl) (slv (by kernel_rfl) hA137) (by kernel_rfl) (by kernel_rfl) (by kernel_rfl) g133.1 g133.2 ?_
                refine q_load (c := (cd29 [1, 1, 1, 1, 0, 1, 0, 0, 1, 0, 0, 1, 0, 1, 0, 0, 1, 0, 0, 0, 0])) (i := 9) (d := (some 40)) (ty := 3) (t := 3) (x := (.tmp 39)) (p := ⟨b135, p136 + t99.toNat * 1, none⟩) (v := .int .i64 (gt a1 t99)) (by kernel_rfl) (by kernel_rfl) (by kernel_rfl) (fun w hC => (loads_at 0 (hc138.cells hC) (by kernel_rfl) (by kernel_rfl))) ?_
                refine q_run 2 (is' := [12, 13, 14, 15, 16]) (us := [(41, .slice Aa0 a0.length ca0), (42, .int .i64 t53)]) (by kernel_rfl) ?_
                obtain ⟨g139, hp140⟩ := ite_some hp134
                obtain ⟨b141, p142, hA143, hc144⟩ := ha0.atF g139.1 g139.2
                refine q_indexAddr (c := (cd29 [1, 1, 1, 1, 0, 1, 0, 0, 1, 0, 0, 1, 0, 1, 0, 0, 1, 0, 0, 0, 0])) (i := 12) (d := (some 43)) (ty := 0) (t := 36) (e := 24) (n := a0.length) (cp := ca0) (sz := 49) (kk := .i64) (x := (.tmp 41)) (y := (.tmp 42)) (b := b141) (o' := p142) (j := t53) (by kernel_rfl) (by kernel_rfl) (slv (by kernel_rfl) hA143) (by kernel_rfl) (by kernel_rfl) (by kernel_rfl) g139.1 g139.2 ?_
                refine q_run 1 (is' := [14, 15, 16]) (us := [(44, .pointer (some ⟨b141, p142 + t53.toNat * 49, none⟩))]) (by kernel_rfl) ?_
                refine q_load (c := (cd29 [1, 1, 1, 1, 0, 1, 0, 0, 1, 0, 0, 1, 0, 1, 0, 0, 1, 0, 0, 0, 0])) (i := 14) (d := (some 45)) (ty := 3) (t := 3) (x := (.tmp 44)) (p := ⟨b141, p142 + t53.toNat * 49, none⟩) (v := .int .i64 ((gt a0 t53).N)) (by kernel_rfl) (by kernel_rfl) (by kernel_rfl) (fun w hC => (loads_at 0 (hc144.cells hC) (by kernel_rfl) (by kernel_rfl))) ?_
                refine q_splitr 1 (is' := [16]) (us := []) (d := 46) (t := (decide ((gt a1 t99) ≥ ((gt a0 t53).N)))) (by kernel_rfl) (fun h145 => ?_) (fun h146 => ?_)
                · skip
                  have hp147 := ite_t hp140 h145
                  refine q_run 1 (is' := []) (us := [(47, .bool true)]) (by kernel_rfl) ?_
                  refine Qs.nil ?_
                  intro w148 hS149
                  refine sx_run 6 (todo' := [.code (cd29 [1, 1, 1, 1, 0, 1, 0, 0, 1, 0, 0, 1, 0, 1, 0, 0, 1, 0, 0, 0, 1, 0, 1]), .code (cd29 [1, 1, 1, 1, 0, 1, 0, 0, 1, 0, 0, 1, 0, 1, 0, 0, 1, 0, 0, 1]), .inBlock 3, .code (cd29 [1, 1, 1, 1, 0, 1, 0, 0, 1, 0, 0, 1, 0, 1, 0, 0, 1, 1]), .inLoop (cd29 [1, 1, 1, 1, 0, 1, 0, 0, 1, 0, 0, 1, 0, 1, 0, 0]), .inBlock 2, .code (cd29 [1, 1, 1, 1, 0, 1, 0, 0, 1, 0, 0, 1, 1]), .inBlock 1, .code (cd29 [1, 1, 1, 1, 0, 1, 0, 0, 1, 1]), .inLoop (cd29 [1, 1, 1, 1, 0, 1, 0, 0]), .inBlock 0, .code (cd29 [1, 1, 1, 1, 1])]) (us := [(4, .slice none 0 0), (5, .int .i64 4)]) (by kernel_rfl) ?_
                  have hS151 := hS149.nilrow none 24 49
                  have hS152 := hS151.pick1
                  have hS153 := hS152.drop
                  have hS154 := hS153.pick1
                  have hS155 := hS154.drop
                  refine runs_ret (fn := Try.f29) (v := .tuple #[.slice none 0 0, .int .i64 4]) Try.func29 (by kernel_rfl) ?_
                  have hr156 := (hq63 _ (hq110 _ (Option.some.inj hp147)))
                  cases hr156
                  exact hR _ _ ⟨none, 0, rfl, hS155⟩
                · skip
                  have hp157 := ite_f hp140 h146
                  refine q_run 1 (is' := []) (us := [(47, .bool false)]) (by kernel_rfl) ?_
                  refine Qs.nil ?_
                  intro w158 hS159
                  refine sx_run 2 (todo' := [.code (cd29 [1, 1, 1, 1, 0, 1, 0, 0, 1, 0, 0, 1, 0, 1, 0, 0, 1, 0, 0, 1]), .inBlock 3, .code (cd29 [1, 1, 1, 1, 0, 1, 0, 0, 1, 0, 0, 1, 0, 1, 0, 0, 1, 1]), .inLoop (cd29 [1, 1, 1, 1, 0, 1, 0, 0, 1, 0, 0, 1, 0, 1, 0, 0]), .inBlock 2, .code (cd29 [1, 1, 1, 1, 0, 1, 0, 0, 1, 0, 0, 1, 1]), .inBlock 1, .code (cd29 [1, 1, 1, 1, 0, 1, 0, 0, 1, 1]), .inLoop (cd29 [1, 1, 1, 1, 0, 1, 0, 0]), .inBlock 0, .code (cd29 [1, 1, 1, 1, 1])]) (us := []) (by kernel_rfl) ?_
                  obtain ⟨g160, hp161⟩ := ite_some hp157
                  obtain ⟨b162, p163, hA164, hc165⟩ := ha1.atF g160.1 g160.2
                  obtain ⟨g166, hp167⟩ := ite_some hp161
                  obtain ⟨b168, p169, hA170, hc171⟩ := ha0.atF g166.1 g166.2
                  obtain ⟨g172, hp173⟩ := ite_some hp167
                  obtain ⟨g174, hp175⟩ := ite_some hp173
                  have hS176 := hS159.pick1
                  refine r_drawnF (X := Unit) (c := (cd29 [1, 1, 1, 1, 0, 1, 0, 0, 1, 0, 0, 1, 0, 1, 0, 0, 1, 0, 0, 1])) (id := 15) (C0 := fun w' => St w0 Z (xblk b67 24 (enc_api_Final t100) :: xrow A50 c51 24 49 (t49.flatMap enc_api_Final) :: fs) w') (C1 := fun _ w' => St w0 Z (xblk b67 24 (enc_api_Final (⟨t100.N, (vset t100.V t99 (vget ((gt a0 t53).V) (gt a1 t99)))⟩ : api_Final)) :: xrow A50 c51 24 49 (t49.flatMap enc_api_Final) :: fs) w') (vs := [.int .i64 t99, .slice Aa0 a0.length ca0, .int .i64 t53, .slice Aa1 a1.length ca1, .int .i64 t99, .pointer (some ⟨b162, p163 + t99.toNat * 1, none⟩), .int .i64 (gt a1 t99), .pointer (some ⟨b168, p169 + t53.toNat * 49, none⟩), .pointer (some ⟨b168, p169 + t53.toNat * 49 + 1, none⟩), .pointer (some ⟨b168, p169 + t53.toNat * 49 + 1 + (gt a1 t99).toNat * 1, none⟩), .int .i64 (vget ((gt a0 t53).V) (gt a1 t99)), .pointer (some ⟨b67, 1, none⟩), .pointer (some ⟨b67, 1 + t99.toNat * 1, none⟩), undef]) (vx := fun _ => [.int .i64 t99, .slice Aa0 a0.length ca0, .int .i64 t53, .slice Aa1 a1.length ca1, .int .i64 t99, .pointer (some ⟨b162, p163 + t99.toNat * 1, none⟩), .int .i64 (gt a1 t99), .pointer (some ⟨b168, p169 + t53.toNat * 49, none⟩), .pointer (some ⟨b168, p169 + t53.toNat * 49 + 1, none⟩), .pointer (some ⟨b168, p169 + t53.toNat * 49 + 1 + (gt a1 t99).toNat * 1, none⟩), .int .i64 (vget ((gt a0 t53).V) (gt a1 t99)), .pointer (some ⟨b67, 1, none⟩), .pointer (some ⟨b67, 1 + t99.toNat * 1, none⟩), undef]) 13 14 [13] [] (by kernel_rfl) (by kernel_rfl) (by kernel_rfl) (by decide) (by kernel_rfl) (by kernel_rfl) (by kernel_rfl) rfl ?_ (fun _ => ⟨rfl, rfl⟩) hS176.drew ?_ ?_ ?_ ?_ ?_
                  · intro _u i hi hd
                    match i, hi, hd with
                    | 0, _, _ => exact rfl
                    | 1, _, _ => exact rfl
                    | 2, _, _ => exact rfl
                    | 3, _, _ => exact rfl
                    | 4, _, _ => exact rfl
                    | 5, _, _ => exact rfl
                    | 6, _, _ => exact rfl
                    | 7, _, _ => exact rfl
                    | 8, _, _ => exact rfl
                    | 9, _, _ => exact rfl
                    | 10, _, _ => exact rfl
                    | 11, _, _ => exact rfl
                    | 12, _, _ => exact rfl
                    | 13, _, hd => exact absurd hd (by decide)
                    | i + 14, hi, _ => exact absurd hi (by omega)
                  · intro i hi hd w hC
                    match i, hi, hd with
                    | 0, _, _ => exact does_pure (v := .int .i64 t99) (by kernel_rfl) rfl hC
                    | 1, _, _ => exact does_pure (v := .slice Aa0 a0.length ca0) (by kernel_rfl) rfl hC
                    | 2, _, _ => exact does_pure (v := .int .i64 t53) (by kernel_rfl) rfl hC
                    | 3, _, _ => exact does_pure (v := .slice Aa1 a1.length ca1) (by kernel_rfl) rfl hC
                    | 4, _, _ => exact does_pure (v := .int .i64 t99) (by kernel_rfl) rfl hC
                    | 5, _, _ => exact does_run (x_indexAddr (t := 48) (e := 3) (x := (.tmp 51)) (y := (.tmp 52)) (b := b162) (o' := p163) (n := a1.length) (cp := ca1) (sz := 1) (kk := .i64) (j := t99) (slv (by kernel_rfl) hA164) (by kernel_rfl) (by kernel_rfl) (by kernel_rfl) g160.1 g160.2 (by kernel_rfl)) rfl hC
                    | 6, _, _ => exact does_run (x_load (t := 3) (x := (.tmp 53)) (p := ⟨b162, p163 + t99.toNat * 1, none⟩) (v := .int .i64 (gt a1 t99)) (by kernel_rfl) (loads_at 0 (hc165.cells hC) (by kernel_rfl) (by kernel_rfl)) (by kernel_rfl)) rfl hC
                    | 7, _, _ => exact does_run (x_indexAddr (t := 36) (e := 24) (x := (.tmp 49)) (y := (.tmp 50)) (b := b168) (o' := p169) (n := a0.length) (cp := ca0) (sz := 49) (kk := .i64) (j := t53) (slv (by kernel_rfl) hA170) (by kernel_rfl) (by kernel_rfl) (by kernel_rfl) g166.1 g166.2 (by kernel_rfl)) rfl hC
                    | 8, _, _ => exact does_pure (v := .pointer (some ⟨b168, p169 + t53.toNat * 49 + 1, none⟩)) (by kernel_rfl) rfl hC
                    | 9, _, _ => exact does_run (x_indexArr (t := 22) (e := 2) (sz := 1) (kk := .i64) (x := (.tmp 56)) (y := (.tmp 54)) (b := b168) (o' := p169 + t53.toNat * 49 + 1) (n := 48) (j := (gt a1 t99)) (by kernel_rfl) (by kernel_rfl) (by kernel_rfl) (by kernel_rfl) g172.1 g172.2 (by kernel_rfl)) rfl hC
                    | 10, _, _ => exact does_run (x_load (t := 2) (x := (.tmp 57)) (p := ⟨b168, p169 + t53.toNat * 49 + 1 + (gt a1 t99).toNat * 1, none⟩) (v := .int .i64 (vget ((gt a0 t53).V) (gt a1 t99))) (by kernel_rfl) (loads_at 0 (cells_vget (sub_api_Final_V (hc171.cells hC)) (len_encI .i64) g172.1 g172.2) (by kernel_rfl) (by kernel_rfl)) (by kernel_rfl)) rfl hC
                    | 11, _, _ => exact does_pure (v := .pointer (some ⟨b67, 1, none⟩)) (by kernel_rfl) rfl hC
                    | 12, _, _ => exact does_run (x_indexArr (t := 22) (e := 2) (sz := 1) (kk := .i64) (x := (.tmp 59)) (y := (.tmp 48)) (b := b67) (o' := 1) (n := 48) (j := t99) (by kernel_rfl) (by kernel_rfl) (by kernel_rfl) (by kernel_rfl) g174.1 g174.2 (by kernel_rfl)) rfl hC
                    | 13, _, hd => exact absurd hd (by decide)
                    | i + 14, hi, _ => exact absurd hi (by omega)
                  · intro i hi hd _u w hC
                    match i, hi, hd with
                    | 0, _, _ => exact does_pure (v := .int .i64 t99) (by kernel_rfl) rfl hC
                    | 1, _, _ => exact does_pure (v := .slice Aa0 a0.length ca0) (by kernel_rfl) rfl hC
                    | 2, _, _ => exact does_pure (v := .int .i64 t53) (by kernel_rfl) rfl hC
                    | 3, _, _ => exact does_pure (v := .slice Aa1 a1.length ca1) (by kernel_rfl) rfl hC
                    | 4, _, _ => exact does_pure (v := .int .i64 t99) (by kernel_rfl) rfl hC
                    | 5, _, _ => exact does_run (x_indexAddr (t := 48) (e := 3) (x := (.tmp 51)) (y := (.tmp 52)) (b := b162) (o' := p163) (n := a1.length) (cp := ca1) (sz := 1) (kk := .i64) (j := t99) (slv (by kernel_rfl) hA164) (by kernel_rfl) (by kernel_rfl) (by kernel_rfl) g160.1 g160.2 (by kernel_rfl)) rfl hC
                    | 6, _, _ => exact does_run (x_load (t := 3) (x := (.tmp 53)) (p := ⟨b162, p163 + t99.toNat * 1, none⟩) (v := .int .i64 (gt a1 t99)) (by kernel_rfl) (loads_at 0 (hc165.cells hC) (by kernel_rfl) (by kernel_rfl)) (by kernel_rfl)) rfl hC
                    | 7, _, _ => exact does_run (x_indexAddr (t := 36) (e := 24) (x := (.tmp 49)) (y := (.tmp 50)) (b := b168) (o' := p169) (n := a0.length) (cp := ca0) (sz := 49) (kk := .i64) (j := t53) (slv (by kernel_rfl) hA170) (by kernel_rfl) (by kernel_rfl) (by kernel_rfl) g166.1 g166.2 (by kernel_rfl)) rfl hC
                    | 8, _, _ => exact does_pure (v := .pointer (some ⟨b168, p169 + t53.toNat * 49 + 1, none⟩)) (by kernel_rfl) rfl hC
                    | 9, _, _ => exact does_run (x_indexArr (t := 22) (e := 2) (sz := 1) (kk := .i64) (x := (.tmp 56)) (y := (.tmp 54)) (b := b168) (o' := p169 + t53.toNat * 49 + 1) (n := 48) (j := (gt a1 t99)) (by kernel_rfl) (by kernel_rfl) (by kernel_rfl) (by kernel_rfl) g172.1 g172.2 (by kernel_rfl)) rfl hC
                    | 10, _, _ => exact does_run (x_load (t := 2) (x := (.tmp 57)) (p := ⟨b168, p169 + t53.toNat * 49 + 1 + (gt a1 t99).toNat * 1, none⟩) (v := .int .i64 (vget ((gt a0 t53).V) (gt a1 t99))) (by kernel_rfl) (loads_at 0 (cells_vget (sub_api_Final_V (hc171.cells hC)) (len_encI .i64) g172.1 g172.2) (by kernel_rfl) (by kernel_rfl)) (by kernel_rfl)) rfl hC
                    | 11, _, _ => exact does_pure (v := .pointer (some ⟨b67, 1, none⟩)) (by kernel_rfl) rfl hC
                    | 12, _, _ => exact does_run (x_indexArr (t := 22) (e := 2) (sz := 1) (kk := .i64) (x := (.tmp 59)) (y := (.tmp 48)) (b := b67) (o' := 1) (n := 48) (j := t99) (by kernel_rfl) (by kernel_rfl) (by kernel_rfl) (by kernel_rfl) g174.1 g174.2 (by kernel_rfl)) rfl hC
                    | 13, _, hd => exact absurd hd (by decide)
                    | i + 14, hi, _ => exact absurd hi (by omega)
                  · intro w hC
                    exact does_store (ux := ()) (t := 2) (x := (.tmp 60)) (y := (.tmp 58)) (b := b67) (o := 1 + t99.toNat * 1) (e := 24) (cs := enc_api_Final t100) (v := .int .i64 (vget ((gt a0 t53).V) (gt a1 t99))) (vs := [.int .i64 (vget ((gt a0 t53).V) (gt a1 t99))]) (cs' := enc_api_Final (⟨t100.N, (vset t100.V t99 (vget ((gt a0 t53).V) (gt a1 t99)))⟩ : api_Final)) hC (by kernel_rfl) (by kernel_rfl) (by kernel_rfl) (by kernel_rfl) (by kernel_rfl) (by kernel_rfl) (by kernel_rfl) (by have := g174.1; have := g174.2; simp only [len_api_Final, List.length_cons, List.length_nil, List.length_append]; omega) (over_api_Final_V _ _ _ g174.1 g174.2) (fun _ h => h)
                  · intro i hi hd hne _u w hC
                    match i, hi, hd, hne with
                    | 0, _, hd, _ => exact absurd hd (by decide)
                    | 1, _, hd, _ => exact absurd hd (by decide)
                    | 2, _, hd, _ => exact absurd hd (by decide)
                    | 3, _, hd, _ => exact absurd hd (by decide)
                    | 4, _, hd, _ => exact absurd hd (by decide)
                    | 5, _, hd, _ => exact absurd hd (by decide)
                    | 6, _, hd, _ => exact absurd hd (by decide)
                    | 7, _, hd, _ => exact absurd hd (by decide)
                    | 8, _, hd, _ => exact absurd hd (by decide)
                    | 9, _, hd, _ => exact absurd hd (by decide)
                    | 10, _, hd, _ => exact absurd hd (by decide)
                    | 11, _, hd, _ => exact absurd hd (by decide)
                    | 12, _, hd, _ => exact absurd hd (by decide)
                    | 13, _, _, hne => exact absurd rfl hne
                    | i + 14, hi, _, _ => exact absurd hi (by omega)
                  intro _u w177 hS178
                  refine sx_run 6 (todo' := [.inLoop (cd29 [1, 1, 1, 1, 0, 1, 0, 0, 1, 0, 0, 1, 0, 1, 0, 0]), .inBlock 2, .code (cd29 [1, 1, 1, 1, 0, 1, 0, 0, 1, 0, 0, 1, 1]), .inBlock 1, .code (cd29 [1, 1, 1, 1, 0, 1, 0, 0, 1, 1]), .inLoop (cd29 [1, 1, 1, 1, 0, 1, 0, 0]), .inBlock 0, .code (cd29 [1, 1, 1, 1, 1])]) (us := [(29, .int .i64 t99), (30, .int .i64 (IntKind.i64.wrap (t99 + 1))), (9, .int .i64 (IntKind.i64.wrap (t99 + 1)))]) (by kernel_rfl) ?_
                  have hS179 := hS178.pick1
                  refine sx_run 1 (todo' := [.code (cd29 [1, 1, 1, 1, 0, 1, 0, 0, 1, 0, 0, 1, 0, 1, 0, 0]), .inLoop (cd29 [1, 1, 1, 1, 0, 1, 0, 0, 1, 0, 0, 1, 0, 1, 0, 0]), .inBlock 2, .code (cd29 [1, 1, 1, 1, 0, 1, 0, 0, 1, 0, 0, 1, 1]), .inBlock 1, .code (cd29 [1, 1, 1, 1, 0, 1, 0, 0, 1, 1]), .inLoop (cd29 [1, 1, 1, 1, 0, 1, 0, 0]), .inBlock 0, .code (cd29 [1, 1, 1, 1, 1])]) (us := []) (by kernel_rfl) ?_
                  refine Runs.fill (m := [some (.slice Aa0 a0.length ca0), some (.slice Aa1 a1.length ca1), none, none, none, none, some (.slice A50 t49.length c51), some (.int .i64 t53), some (.pointer (some ⟨b67, 0, none⟩)), some (.int .i64 (IntKind.i64.wrap (t99 + 1))), none, none, none, none, none, none, none, none, none, none, none, none, none, none, none, none, none, none, none, none, none, none, none, none, none, none, none, none, none, none, none, none, none, none, none, none, none, none, none, none, none, none, none, none, none, none, none, none, none, none, none, none, none, none, none, none, none]) (by kernel_rfl) ?_
                  exact ih107 (IntKind.i64.wrap (t99 + 1)) (⟨t100.N, (vset t100.V t99 (vget ((gt a0 t53).V) (gt a1 t99)))⟩ : api_Final) _ hp175 he105 _ _ hS179
            · skip
              have hp180 := ite_f hb106 h112
              refine sx_run 3 (todo' := [.code (cd29 [1, 1, 1, 1, 0, 1, 0, 0, 1, 0, 0, 1, 1]), .inBlock 1, .code (cd29 [1, 1, 1, 1, 0, 1, 0, 0, 1, 1]), .inLoop (cd29 [1, 1, 1, 1, 0, 1, 0, 0]), .inBlock 0, .code (cd29 [1, 1, 1, 1, 1])]) (us := []) (by kernel_rfl) ?_
              refine Runs.fill (m := [some (.slice Aa0 a0.length ca0), some (.slice Aa1 a1.length ca1), none, none, none, none, some (.slice A50 t49.length c51), some (.int .i64 t53), some (.pointer (some ⟨b67, 0, none⟩)), none, none, none, none, none, none, none, none, none, none, none, none, none, none, none, none, none, none, none, none, none, none, none, none, none, none, none, none, none, none, none, none, none, none, none, none, none, none, none, none, none, none, none, none, none, none, none, none, none, none, none, none, none, none, none, none, none, none]) (by kernel_rfl) ?_
              exact J80 t100 ((Option.some.inj hp180).trans he105) _ _ hS102
          have hS181 := hS72.pick1
          refine Runs.fill (m := [some (.slice Aa0 a0.length ca0), some (.slice Aa1 a1.length ca1), none, none, none, none, some (.slice A50 t49.length c51), some (.int .i64 t53), some (.pointer (some ⟨b67, 0, none⟩)), some (.int .i64 0), none, none, none, none, none, none, none, none, none, none, none, none, none, none, none, none, none, none, none, none, none, none, none, none, none, none, none, none, none, none, none, none, none, none, none, none, none, none, none, none, none, none, none, none, none, none, none, none, none, none, none, none, none, none, none, none, none]) (by kernel_rfl) ?_
          exact L109 0 (⟨(a1.length : Int), (Vector.replicate 48 0)⟩ : api_Final) _ hv74 rfl _ _ hS181
        · skip
          have hp182 := ite_f hb59 h65
          refine sx_run 3 (todo' := [.code (cd29 [1, 1, 1, 1, 1])]) (us := []) (by kernel_rfl) ?_
          refine Runs.fill (m := [none, none, none, none, none, none, some (.slice A50 t49.length c51), none, none, none, none, none, none, none, none, none, none, none, none, none, none, none, none, none, none, none, none, none, none, none, none, none, none, none, none, none, none, none, none, none, none, none, none, none, none, none, none, none, none, none, none, none, none, none, none, none, none, none, none, none, none, none, none, none, none, none, none]) (by kernel_rfl) ?_
          exact J30 t49 ((Option.some.inj hp182).trans he58) _ A50 c51 _ hS55
      have hS184 := hS5.nilrow none 24 49
      refine Runs.fill (m := [some (.slice Aa0 a0.length ca0), some (.slice Aa1 a1.length ca1), none, none, none, none, some (.slice none 0 0), some (.int .i64 0), none, none, none, none, none, none, none, none, none, none, none, none, none, none, none, none, none, none, none, none, none, none, none, none, none, none, none, none, none, none, none, none, none, none, none, none, none, none, none, none, none, none, none, none, none, none, none, none, none, none, none, none, none, none, none, none, none, none, none]) (by kernel_rfl) ?_
      exact L62 [] 0 _ hv21 rfl _ none 0 _ hS184

end
end Go.Proofs.Yteppciglfdiljaa.K
