/- The walk, part 2: each Go function as a plain Lean function, and that its call answers as that function says. No condition. -/
import Derived.Test.YteppciglfdiljaaE
import Derived.Test.YteppciglfdiljaaNS
import Derived.Test.YteppciglfdiljaaLS
import Derived.Test.YteppciglfdiljaaF1
set_option linter.unusedVariables false
set_option linter.unusedSimpArgs false
set_option maxRecDepth 100000
namespace Go.Proofs.Yteppciglfdiljaa.K
open Go Go.RowKit
noncomputable section
noncomputable def cd24 (p : List Nat) : Code := sub (bodyOf Try.f24) p
def weirref10_Rises.l0 (a0 : List api_Final) (t11 : Int) : Option (Sum Unit Bool) :=
  (if (decide (t11 < (a0.length : Int))) = true then (if 0 ≤ t11 ∧ t11 < (a0.length : Int) then (weirref10_Check.f (gt a0 t11) >>= (fun t31 => (if (t31 != 0) = true then some (.inr (false)) else (if (decide (t11 > 0)) = true then (if 0 ≤ (IntKind.i64.wrap (t11 - 1)) ∧ (IntKind.i64.wrap (t11 - 1)) < (a0.length : Int) then (if 0 ≤ t11 ∧ t11 < (a0.length : Int) then (weirref10_Compare.f (gt a0 (IntKind.i64.wrap (t11 - 1))) (gt a0 t11) >>= (fun t56 => (if (decide (t56 ≥ 0)) = true then some (.inr (false)) else (weirref10_Rises.l0 a0 (IntKind.i64.wrap (t11 + 1)))))) else none) else none) else (weirref10_Rises.l0 a0 (IntKind.i64.wrap (t11 + 1))))))) else none) else some (.inl ()))
 partial_fixpoint
def weirref10_Rises.f (a0 : List api_Final) : Option Bool :=
  (weirref10_Rises.l0 a0 0 >>= (fun | .inl () => some (true) | .inr e => some e))
set_option maxHeartbeats 16000000 in
theorem weirref10_Rises.ok (a0 : List api_Final) (Aa0 : Option Addr) (ca0 : Nat) {w0 : World} {Z : Zm} {fs : List XObj} {w : World} (hS0 : St w0 Z (fs) w) (ha0 : SlZ (flat enc_api_Final) 49 Z Aa0 ca0 a0) {q0 : Bool} (hp0 : weirref10_Rises.f a0 = some q0) :
    Calls Try.prog 24 #[.slice Aa0 a0.length ca0] w (fun e w' => e = .returned (.bool q0) ∧ St w0 Z (fs) w') := by
  refine calls_abs ?_; intro R hR
  unfold weirref10_Rises.f at hp0
  refine calls_of_runs (fn := Try.f24) (c := cd24 []) Try.func24 (by kernel_rfl) (al := [.slice Aa0 a0.length ca0]) rfl (n := 32) rfl ?_
  refine sx_run 11 (todo' := [.code (cd24 [1, 0, 1, 0, 0]), .inLoop (cd24 [1, 0, 1, 0, 0]), .inBlock 0, .code (cd24 [1, 1])]) (us := [(2, .bool false), (3, .int .i64 0)]) (by kernel_rfl) ?_
  obtain ⟨v1, hv2, hp3⟩ := bind_some' hp0
  have hq6 : ∀ x, Sum.inr x = v1 → x = q0 := by intro x hx; subst hx; simpa using hp3
  have J7 : ∀ (he9 : Sum.inl () = v1) (l8 : List Value) (w4 : World) (hS5 : St w0 Z (fs) w4), Runs Try.prog 24 [.code (cd24 [1, 1])] (fill [none, none, none, none, none, none, none, none, none, none, none, none, none, none, none, none, none, none, none, none, none, none, none, none, none, none, none, none, none, none, none, none, none] l8) w4 R := by
    intro he9 l8 w4 hS5
    subst he9
    try dsimp only at hp3
    refine sx_run 4 (todo' := [.code (cd24 [1, 1, 1])]) (us := [(2, .bool true)]) (by kernel_rfl) ?_
    refine runs_ret (fn := Try.f24) (v := .bool true) Try.func24 (by kernel_rfl) ?_
    have hr10 := (Option.some.inj hp3)
    cases hr10
    exact hR _ _ ⟨rfl, hS5⟩
  have L20 : ∀ (t11 : Int) (e15 : Sum Unit Bool), weirref10_Rises.l0 a0 t11 = some e15 → e15 = v1 → ∀ (l14 : List Value) (w12 : World) (hS13 : St w0 Z (fs) w12), Runs Try.prog 24 [.code (cd24 [1, 0, 1, 0, 0]), .inLoop (cd24 [1, 0, 1, 0, 0]), .inBlock 0, .code (cd24 [1, 1])] (fill [some (.slice Aa0 a0.length ca0), none, none, some (.int .i64 t11), none, none, none, none, none, none, none, none, none, none, none, none, none, none, none, none, none, none, none, none, none, none, none, none, none, none, none, none, none] l14) w12 R := by
    refine weirref10_Rises.l0.partial_correctness a0 (fun t11 e15 => e15 = v1 → ∀ (l14 : List Value) (w12 : World) (hS13 : St w0 Z (fs) w12), Runs Try.prog 24 [.code (cd24 [1, 0, 1, 0, 0]), .inLoop (cd24 [1, 0, 1, 0, 0]), .inBlock 0, .code (cd24 [1, 1])] (fill [some (.slice Aa0 a0.length ca0), none, none, some (.int .i64 t11), none, none, none, none, none, none, none, none, none, none, none, none, none, none, none, none, none, none, none, none, none, none, none, none, none, none, none, none, none] l14) w12 R) ?_
    intro rec19 ih18 t11 e15 hb17 he16 l14 w12 hS13
    have hq21 : ∀ x, Sum.inr x = e15 → x = q0 := fun x hx => hq6 x (hx.trans he16)
    refine sx_split 7 (todo' := [.inRegion (opsOf (cd24 [1, 0, 1, 0, 0, 0, 0])) [], .code (cd24 [1, 0, 1, 0, 0, 0, 1]), .code (cd24 [1, 0, 1, 0, 0, 1]), .inLoop (cd24 [1, 0, 1, 0, 0]), .inBlock 0, .code (cd24 [1, 1])]) (us := [(4, .int .i64 t11), (5, .slice Aa0 a0.length ca0), (6, .int .i64 (a0.length : Int))]) (d := 7) (t := (decide (t11 < (a0.length : Int)))) (by kernel_rfl) (fun h22 => ?_) (fun h23 => ?_)
    · skip
      have hp24 := ite_t hb17 h22
      refine sx_run 6 (todo' := [.code (cd24 [1, 0, 1, 0, 0, 1, 0, 0, 0]), .code (cd24 [1, 0, 1, 0, 0, 1, 0, 0, 1]), .inBlock 1, .code (cd24 [1, 0, 1, 0, 0, 1, 1]), .inLoop (cd24 [1, 0, 1, 0, 0]), .inBlock 0, .code (cd24 [1, 1])]) (us := []) (by kernel_rfl) ?_
      refine r_quiet hS13 (c := (cd24 [1, 0, 1, 0, 0, 1, 0, 0, 0])) (id := 4) (by kernel_rfl) (by kernel_rfl) (by kernel_rfl) (is := [0, 1, 2, 3, 4, 5, 6, 7, 8, 9, 10, 11, 12, 13, 14, 15, 16, 17, 18, 19, 20, 21, 22]) (by kernel_rfl) ?_
      refine q_run 2 (is' := [2, 3, 4, 5, 6, 7, 8, 9, 10, 11, 12, 13, 14, 15, 16, 17, 18, 19, 20, 21, 22]) (us := [(10, .slice Aa0 a0.length ca0), (11, .int .i64 t11)]) (by kernel_rfl) ?_
      obtain ⟨g25, hp26⟩ := ite_some hp24
      obtain ⟨b27, p28, hA29, hc30⟩ := ha0.atF g25.1 g25.2
      refine q_indexAddr (c := (cd24 [1, 0, 1, 0, 0, 1, 0, 0, 0])) (i := 2) (d := (some 12)) (ty := 0) (t := 36) (e := 24) (n := a0.length) (cp := ca0) (sz := 49) (kk := .i64) (x := (.tmp 10)) (y := (.tmp 11)) (b := b27) (o' := p28) (j := t11) (by kernel_rfl) (by kernel_rfl) (slv (by kernel_rfl) hA29) (by kernel_rfl) (by kernel_rfl) (by kernel_rfl) g25.1 g25.2 ?_
      refine q_load (c := (cd24 [1, 0, 1, 0, 0, 1, 0, 0, 0])) (i := 3) (d := (some 13)) (ty := 24) (t := 24) (x := (.tmp 12)) (p := ⟨b27, p28 + t11.toNat * 49, none⟩) (v := .agg (enc_api_Final (gt a0 t11)).toArray) (by kernel_rfl) (by kernel_rfl) (by kernel_rfl) (fun w hC => (loads_agg (hc30.cells hC) (by kernel_rfl) (lenK (len_api_Final _) (by kernel_rfl)))) ?_
      obtain ⟨t31, hr32, hp33⟩ := bind_some' hp26
      refine q_call1 (c := (cd24 [1, 0, 1, 0, 0, 1, 0, 0, 0])) (i := 4) (d := (some 14)) (v := .int .i64 t31) (g := 20) (args := #[.agg (enc_api_Final (gt a0 t11)).toArray]) (by kernel_rfl) (by kernel_rfl) (by kernel_rfl) (by kernel_rfl) (fun w hC => by
        refine (weirref10_Check.ok (gt a0 t11) hC hr32).mono ?_
        rintro e w2 ⟨rfl, h2⟩
        exact ⟨rfl, h2⟩) ?_
      refine q_splitr 1 (is' := [6, 7, 8, 9, 10, 11, 12, 13, 14, 15, 16, 17, 18, 19, 20, 21, 22]) (us := []) (d := 15) (t := (t31 != 0)) (by kernel_rfl) (fun h34 => ?_) (fun h35 => ?_)
      · skip
        have hp36 := ite_t hp33 h34
        refine q_run 17 (is' := []) (us := [(16, .bool true), (17, undef), (18, undef), (19, undef), (20, undef), (21, undef), (22, undef), (23, undef), (24, undef), (25, undef), (26, undef), (27, undef), (28, undef), (29, undef), (30, undef), (31, undef), (32, .bool true)]) (by kernel_rfl) ?_
        refine Qs.nil ?_
        intro w37 hS38
        refine sx_run 5 (todo' := [.code (cd24 [1, 0, 1, 0, 0, 1, 0, 0, 1, 0, 1]), .inBlock 1, .code (cd24 [1, 0, 1, 0, 0, 1, 1]), .inLoop (cd24 [1, 0, 1, 0, 0]), .inBlock 0, .code (cd24 [1, 1])]) (us := [(2, .bool false)]) (by kernel_rfl) ?_
        refine runs_ret (fn := Try.f24) (v := .bool false) Try.func24 (by kernel_rfl) ?_
        have hr39 := (hq21 _ (Option.some.inj hp36))
        cases hr39
        exact hR _ _ ⟨rfl, hS38⟩
      · skip
        have hp40 := ite_f hp33 h35
        refine q_splitr 3 (is' := [9, 10, 11, 12, 13, 14, 15, 16, 17, 18, 19, 20, 21, 22]) (us := [(16, .bool false), (17, .int .i64 t11)]) (d := 18) (t := (decide (t11 > 0))) (by kernel_rfl) (fun h41 => ?_) (fun h42 => ?_)
        · skip
          have hp43 := ite_t hp40 h41
          refine q_run 4 (is' := [13, 14, 15, 16, 17, 18, 19, 20, 21, 22]) (us := [(19, .bool true), (20, .slice Aa0 a0.length ca0), (21, .int .i64 t11), (22, .int .i64 (IntKind.i64.wrap (t11 - 1)))]) (by kernel_rfl) ?_
          obtain ⟨g44, hp45⟩ := ite_some hp43
          obtain ⟨b46, p47, hA48, hc49⟩ := ha0.atF g44.1 g44.2
          refine q_indexAddr (c := (cd24 [1, 0, 1, 0, 0, 1, 0, 0, 0])) (i := 13) (d := (some 23)) (ty := 0) (t := 36) (e := 24) (n := a0.length) (cp := ca0) (sz := 49) (kk := .i64) (x := (.tmp 20)) (y := (.tmp 22)) (b := b46) (o' := p47) (j := (IntKind.i64.wrap (t11 - 1))) (by kernel_rfl) (by kernel_rfl) (slv (by kernel_rfl) hA48) (by kernel_rfl) (by kernel_rfl) (by kernel_rfl) g44.1 g44.2 ?_
          refine q_load (c := (cd24 [1, 0, 1, 0, 0, 1, 0, 0, 0])) (i := 14) (d := (some 24)) (ty := 24) (t := 24) (x := (.tmp 23)) (p := ⟨b46, p47 + (IntKind.i64.wrap (t11 - 1)).toNat * 49, none⟩) (v := .agg (enc_api_Final (gt a0 (IntKind.i64.wrap (t11 - 1)))).toArray) (by kernel_rfl) (by kernel_rfl) (by kernel_rfl) (fun w hC => (loads_agg (hc49.cells hC) (by kernel_rfl) (lenK (len_api_Final _) (by kernel_rfl)))) ?_
          refine q_run 2 (is' := [17, 18, 19, 20, 21, 22]) (us := [(25, .slice Aa0 a0.length ca0), (26, .int .i64 t11)]) (by kernel_rfl) ?_
          obtain ⟨g50, hp51⟩ := ite_some hp45
          obtain ⟨b52, p53, hA54, hc55⟩ := ha0.atF g50.1 g50.2
          refine q_indexAddr (c := (cd24 [1, 0, 1, 0, 0, 1, 0, 0, 0])) (i := 17) (d := (some 27)) (ty := 0) (t := 36) (e := 24) (n := a0.length) (cp := ca0) (sz := 49) (kk := .i64) (x := (.tmp 25)) (y := (.tmp 26)) (b := b52) (o' := p53) (j := t11) (by kernel_rfl) (by kernel_rfl) (slv (by kernel_rfl) hA54) (by kernel_rfl) (by kernel_rfl) (by kernel_rfl) g50.1 g50.2 ?_
          refine q_load (c := (cd24 [1, 0, 1, 0, 0, 1, 0, 0, 0])) (i := 18) (d := (some 28)) (ty := 24) (t := 24) (x := (.tmp 27)) (p := ⟨b52, p53 + t11.toNat * 49, none⟩) (v := .agg (enc_api_Final (gt a0 t11)).toArray) (by kernel_rfl) (by kernel_rfl) (by kernel_rfl) (fun w hC => (loads_agg (hc55.cells hC) (by kernel_rfl) (lenK (len_api_Final _) (by kernel_rfl)))) ?_
          obtain ⟨t56, hr57, hp58⟩ := bind_some' hp51
          refine q_call1 (c := (cd24 [1, 0, 1, 0, 0, 1, 0, 0, 0])) (i := 19) (d := (some 29)) (v := .int .i64 t56) (g := 22) (args := #[.agg (enc_api_Final (gt a0 (IntKind.i64.wrap (t11 - 1)))).toArray, .agg (enc_api_Final (gt a0 t11)).toArray]) (by kernel_rfl) (by kernel_rfl) (by kernel_rfl) (by kernel_rfl) (fun w hC => by
            refine (weirref10_Compare.ok (gt a0 (IntKind.i64.wrap (t11 - 1))) (gt a0 t11) hC hr57).mono ?_
            rintro e w2 ⟨rfl, h2⟩
            exact ⟨rfl, h2⟩) ?_
          refine q_splitr 1 (is' := [21, 22]) (us := []) (d := 30) (t := (decide (t56 ≥ 0))) (by kernel_rfl) (fun h59 => ?_) (fun h60 => ?_)
          · skip
            have hp61 := ite_t hp58 h59
            refine q_run 2 (is' := []) (us := [(31, .bool true), (32, .bool true)]) (by kernel_rfl) ?_
            refine Qs.nil ?_
            intro w62 hS63
            refine sx_run 5 (todo' := [.code (cd24 [1, 0, 1, 0, 0, 1, 0, 0, 1, 0, 1]), .inBlock 1, .code (cd24 [1, 0, 1, 0, 0, 1, 1]), .inLoop (cd24 [1, 0, 1, 0, 0]), .inBlock 0, .code (cd24 [1, 1])]) (us := [(2, .bool false)]) (by kernel_rfl) ?_
            refine runs_ret (fn := Try.f24) (v := .bool false) Try.func24 (by kernel_rfl) ?_
            have hr64 := (hq21 _ (Option.some.inj hp61))
            cases hr64
            exact hR _ _ ⟨rfl, hS63⟩
          · skip
            have hp65 := ite_f hp58 h60
            refine q_run 2 (is' := []) (us := [(31, .bool false), (32, .bool false)]) (by kernel_rfl) ?_
            refine Qs.nil ?_
            intro w66 hS67
            refine sx_run 8 (todo' := [.inLoop (cd24 [1, 0, 1, 0, 0]), .inBlock 0, .code (cd24 [1, 1])]) (us := [(8, .int .i64 t11), (9, .int .i64 (IntKind.i64.wrap (t11 + 1))), (3, .int .i64 (IntKind.i64.wrap (t11 + 1)))]) (by kernel_rfl) ?_
            refine sx_run 1 (todo' := [.code (cd24 [1, 0, 1, 0, 0]), .inLoop (cd24 [1, 0, 1, 0, 0]), .inBlock 0, .code (cd24 [1, 1])]) (us := []) (by kernel_rfl) ?_
            refine Runs.fill (m := [some (.slice Aa0 a0.length ca0), none, none, some (.int .i64 (IntKind.i64.wrap (t11 + 1))), none, none, none, none, none, none, none, none, none, none, none, none, none, none, none, none, none, none, none, none, none, none, none, none, none, none, none, none, none]) (by kernel_rfl) ?_
            exact ih18 (IntKind.i64.wrap (t11 + 1)) _ hp65 he16 _ _ hS67
        · skip
          have hp68 := ite_f hp40 h42
          refine q_run 14 (is' := []) (us := [(19, .bool false), (20, undef), (21, undef), (22, undef), (23, undef), (24, undef), (25, undef), (26, undef), (27, undef), (28, undef), (29, undef), (30, undef), (31, .bool false), (32, .bool false)]) (by kernel_rfl) ?_
          refine Qs.nil ?_
          intro w69 hS70
          refine sx_run 8 (todo' := [.inLoop (cd24 [1, 0, 1, 0, 0]), .inBlock 0, .code (cd24 [1, 1])]) (us := [(8, .int .i64 t11), (9, .int .i64 (IntKind.i64.wrap (t11 + 1))), (3, .int .i64 (IntKind.i64.wrap (t11 + 1)))]) (by kernel_rfl) ?_
          refine sx_run 1 (todo' := [.code (cd24 [1, 0, 1, 0, 0]), .inLoop (cd24 [1, 0, 1, 0, 0]), .inBlock 0, .code (cd24 [1, 1])]) (us := []) (by kernel_rfl) ?_
          refine Runs.fill (m := [some (.slice Aa0 a0.length ca0), none, none, some (.int .i64 (IntKind.i64.wrap (t11 + 1))), none, none, none, none, none, none, none, none, none, none, none, none, none, none, none, none, none, none, none, none, none, none, none, none, none, none, none, none, none]) (by kernel_rfl) ?_
          exact ih18 (IntKind.i64.wrap (t11 + 1)) _ hp68 he16 _ _ hS70
    · skip
      have hp71 := ite_f hb17 h23
      refine sx_run 3 (todo' := [.code (cd24 [1, 1])]) (us := []) (by kernel_rfl) ?_
      refine Runs.fill (m := [none, none, none, none, none, none, none, none, none, none, none, none, none, none, none, none, none, none, none, none, none, none, none, none, none, none, none, none, none, none, none, none, none]) (by kernel_rfl) ?_
      exact J7 ((Option.some.inj hp71).trans he16) _ _ hS13
  refine Runs.fill (m := [some (.slice Aa0 a0.length ca0), none, none, some (.int .i64 0), none, none, none, none, none, none, none, none, none, none, none, none, none, none, none, none, none, none, none, none, none, none, none, none, none, none, none, none, none]) (by kernel_rfl) ?_
  exact L20 0 _ hv2 rfl _ _ hS0

noncomputable def cd25 (p : List Nat) : Code := sub (bodyOf Try.f25) p
def weirlaw10_Same.l0 (a0 : List api_Final) (a1 : List api_Final) (t16 : Int) : Option (Sum Unit Bool) :=
  (if (decide (t16 < (a0.length : Int))) = true then (if 0 ≤ t16 ∧ t16 < (a0.length : Int) then (if 0 ≤ t16 ∧ t16 < (a1.length : Int) then (if (!(decide ((gt a0 t16) = (gt a1 t16)))) = true then some (.inr (false)) else (weirlaw10_Same.l0 a0 a1 (IntKind.i64.wrap (t16 + 1)))) else none) else none) else some (.inl ()))
 partial_fixpoint
def weirlaw10_Same.f (a0 : List api_Final) (a1 : List api_Final) : Option Bool :=
  (if ((a0.length : Int) != (a1.length : Int)) = true then some (false) else (weirlaw10_Same.l0 a0 a1 0 >>= (fun | .inl () => some (true) | .inr e => some e)))
set_option maxHeartbeats 16000000 in
theorem weirlaw10_Same.ok (a0 : List api_Final) (a1 : List api_Final) (Aa0 : Option Addr) (ca0 : Nat) (Aa1 : Option Addr) (ca1 : Nat) {w0 : World} {Z : Zm} {fs : List XObj} {w : World} (hS0 : St w0 Z (fs) w) (ha0 : SlZ (flat enc_api_Final) 49 Z Aa0 ca0 a0) (ha1 : SlZ (flat enc_api_Final) 49 Z Aa1 ca1 a1) {q0 : Bool} (hp0 : weirlaw10_Same.f a0 a1 = some q0) :
    Calls Try.prog 25 #[.slice Aa0 a0.length ca0, .slice Aa1 a1.length ca1] w (fun e w' => e = .returned (.bool q0) ∧ St w0 Z (fs) w') := by
  refine calls_abs ?_; intro R hR
  unfold weirlaw10_Same.f at hp0
  refine calls_of_runs (fn := Try.f25) (c := cd25 []) Try.func25 (by kernel_rfl) (al := [.slice Aa0 a0.length ca0, .slice Aa1 a1.length ca1]) rfl (n := 24) rfl ?_
  refine sx_split 12 (todo' := [.inRegion (opsOf (cd25 [1, 0, 0])) [], .code (cd25 [1, 0, 1]), .code (cd25 [1, 1])]) (us := [(4, .bool false), (6, .slice Aa0 a0.length ca0), (7, .int .i64 (a0.length : Int)), (8, .slice Aa1 a1.length ca1), (9, .int .i64 (a1.length : Int))]) (d := 10) (t := ((a0.length : Int) != (a1.length : Int))) (by kernel_rfl) (fun h1 => ?_) (fun h2 => ?_)
  · skip
    have hp3 := ite_t hp0 h1
    refine sx_run 6 (todo' := [.code (cd25 [1, 0, 1, 0, 1]), .code (cd25 [1, 1])]) (us := [(4, .bool false)]) (by kernel_rfl) ?_
    refine runs_ret (fn := Try.f25) (v := .bool false) Try.func25 (by kernel_rfl) ?_
    have hr4 := (Option.some.inj hp3)
    cases hr4
    exact hR _ _ ⟨rfl, hS0⟩
  · skip
    have hp5 := ite_f hp0 h2
    refine sx_run 10 (todo' := [.code (cd25 [1, 1, 0, 1, 0, 0]), .inLoop (cd25 [1, 1, 0, 1, 0, 0]), .inBlock 0, .code (cd25 [1, 1, 1])]) (us := [(5, .int .i64 0)]) (by kernel_rfl) ?_
    obtain ⟨v6, hv7, hp8⟩ := bind_some' hp5
    have hq11 : ∀ x, Sum.inr x = v6 → x = q0 := by intro x hx; subst hx; simpa using hp8
    have J12 : ∀ (he14 : Sum.inl () = v6) (l13 : List Value) (w9 : World) (hS10 : St w0 Z (fs) w9), Runs Try.prog 25 [.code (cd25 [1, 1, 1])] (fill [none, none, none, none, none, none, none, none, none, none, none, none, none, none, none, none, none, none, none, none, none, none, none, none, none, none] l13) w9 R := by
      intro he14 l13 w9 hS10
      subst he14
      try dsimp only at hp8
      refine sx_run 4 (todo' := [.code (cd25 [1, 1, 1, 1])]) (us := [(4, .bool true)]) (by kernel_rfl) ?_
      refine runs_ret (fn := Try.f25) (v := .bool true) Try.func25 (by kernel_rfl) ?_
      have hr15 := (Option.some.inj hp8)
      cases hr15
      exact hR _ _ ⟨rfl, hS10⟩
    have L25 : ∀ (t16 : Int) (e20 : Sum Unit Bool), weirlaw10_Same.l0 a0 a1 t16 = some e20 → e20 = v6 → ∀ (l19 : List Value) (w17 : World) (hS18 : St w0 Z (fs) w17), Runs Try.prog 25 [.code (cd25 [1, 1, 0, 1, 0, 0]), .inLoop (cd25 [1, 1, 0, 1, 0, 0]), .inBlock 0, .code (cd25 [1, 1, 1])] (fill [some (.slice Aa0 a0.length ca0), some (.slice Aa1 a1.length ca1), none, none, none, some (.int .i64 t16), none, none, none, none, none, none, none, none, none, none, none, none, none, none, none, none, none, none, none, none] l19) w17 R := by
      refine weirlaw10_Same.l0.partial_correctness a0 a1 (fun t16 e20 => e20 = v6 → ∀ (l19 : List Value) (w17 : World) (hS18 : St w0 Z (fs) w17), Runs Try.prog 25 [.code (cd25 [1, 1, 0, 1, 0, 0]), .inLoop (cd25 [1, 1, 0, 1, 0, 0]), .inBlock 0, .code (cd25 [1, 1, 1])] (fill [some (.slice Aa0 a0.length ca0), some (.slice Aa1 a1.length ca1), none, none, none, some (.int .i64 t16), none, none, none, none, none, none, none, none, none, none, none, none, none, none, none, none, none, none, none, none] l19) w17 R) ?_
      intro rec24 ih23 t16 e20 hb22 he21 l19 w17 hS18
      have hq26 : ∀ x, Sum.inr x = e20 → x = q0 := fun x hx => hq11 x (hx.trans he21)
      refine sx_split 7 (todo' := [.inRegion (opsOf (cd25 [1, 1, 0, 1, 0, 0, 0, 0])) [], .code (cd25 [1, 1, 0, 1, 0, 0, 0, 1]), .code (cd25 [1, 1, 0, 1, 0, 0, 1]), .inLoop (cd25 [1, 1, 0, 1, 0, 0]), .inBlock 0, .code (cd25 [1, 1, 1])]) (us := [(11, .int .i64 t16), (12, .slice Aa0 a0.length ca0), (13, .int .i64 (a0.length : Int))]) (d := 14) (t := (decide (t16 < (a0.length : Int)))) (by kernel_rfl) (fun h27 => ?_) (fun h28 => ?_)
      · skip
        have hp29 := ite_t hb22 h27
        refine sx_run 6 (todo' := [.code (cd25 [1, 1, 0, 1, 0, 0, 1, 0, 0, 0]), .code (cd25 [1, 1, 0, 1, 0, 0, 1, 0, 0, 1]), .inBlock 1, .code (cd25 [1, 1, 0, 1, 0, 0, 1, 1]), .inLoop (cd25 [1, 1, 0, 1, 0, 0]), .inBlock 0, .code (cd25 [1, 1, 1])]) (us := []) (by kernel_rfl) ?_
        refine r_quiet hS18 (c := (cd25 [1, 1, 0, 1, 0, 0, 1, 0, 0, 0])) (id := 6) (by kernel_rfl) (by kernel_rfl) (by kernel_rfl) (is := [0, 1, 2, 3, 4, 5, 6, 7, 8]) (by kernel_rfl) ?_
        refine q_run 2 (is' := [2, 3, 4, 5, 6, 7, 8]) (us := [(17, .slice Aa0 a0.length ca0), (18, .int .i64 t16)]) (by kernel_rfl) ?_
        obtain ⟨g30, hp31⟩ := ite_some hp29
        obtain ⟨b32, p33, hA34, hc35⟩ := ha0.atF g30.1 g30.2
        refine q_indexAddr (c := (cd25 [1, 1, 0, 1, 0, 0, 1, 0, 0, 0])) (i := 2) (d := (some 19)) (ty := 0) (t := 36) (e := 24) (n := a0.length) (cp := ca0) (sz := 49) (kk := .i64) (x := (.tmp 17)) (y := (.tmp 18)) (b := b32) (o' := p33) (j := t16) (by kernel_rfl) (by kernel_rfl) (slv (by kernel_rfl) hA34) (by kernel_rfl) (by kernel_rfl) (by kernel_rfl) g30.1 g30.2 ?_
        refine q_load (c := (cd25 [1, 1, 0, 1, 0, 0, 1, 0, 0, 0])) (i := 3) (d := (some 20)) (ty := 24) (t := 24) (x := (.tmp 19)) (p := ⟨b32, p33 + t16.toNat * 49, none⟩) (v := .agg (enc_api_Final (gt a0 t16)).toArray) (by kernel_rfl) (by kernel_rfl) (by kernel_rfl) (fun w hC => (loads_agg (hc35.cells hC) (by kernel_rfl) (lenK (len_api_Final _) (by kernel_rfl)))) ?_
        refine q_run 2 (is' := [6, 7, 8]) (us := [(21, .slice Aa1 a1.length ca1), (22, .int .i64 t16)]) (by kernel_rfl) ?_
        obtain ⟨g36, hp37⟩ := ite_some hp31
        obtain ⟨b38, p39, hA40, hc41⟩ := ha1.atF g36.1 g36.2
        refine q_indexAddr (c := (cd25 [1, 1, 0, 1, 0, 0, 1, 0, 0, 0])) (i := 6) (d := (some 23)) (ty := 0) (t := 36) (e := 24) (n := a1.length) (cp := ca1) (sz := 49) (kk := .i64) (x := (.tmp 21)) (y := (.tmp 22)) (b := b38) (o' := p39) (j := t16) (by kernel_rfl) (by kernel_rfl) (slv (by kernel_rfl) hA40) (by kernel_rfl) (by kernel_rfl) (by kernel_rfl) g36.1 g36.2 ?_
        refine q_load (c := (cd25 [1, 1, 0, 1, 0, 0, 1, 0, 0, 0])) (i := 7) (d := (some 24)) (ty := 24) (t := 24) (x := (.tmp 23)) (p := ⟨b38, p39 + t16.toNat * 49, none⟩) (v := .agg (enc_api_Final (gt a1 t16)).toArray) (by kernel_rfl) (by kernel_rfl) (by kernel_rfl) (fun w hC => (loads_agg (hc41.cells hC) (by kernel_rfl) (lenK (len_api_Final _) (by kernel_rfl)))) ?_
        refine q_val (c := (cd25 [1, 1, 0, 1, 0, 0, 1, 0, 0, 0])) (i := 8) (d := (some 25)) (ty := 4) (op := .binOp .neq 24 (.tmp 20) (.tmp 24) 24) (v := .bool (!(decide ((gt a0 t16) = (gt a1 t16))))) (by kernel_rfl) (by kernel_rfl) (fun w hC o ho _ => x_neq_api_Final (by kernel_rfl) (by kernel_rfl) ho) ?_
        refine q_split (!(decide ((gt a0 t16) = (gt a1 t16)))) (fun h42 => ?_) (fun h43 => ?_)
        · skip
          have hp44 := ite_t hp37 h42
          refine Qs.nil ?_
          intro w45 hS46
          refine sx_run 5 (todo' := [.code (cd25 [1, 1, 0, 1, 0, 0, 1, 0, 0, 1, 0, 1]), .inBlock 1, .code (cd25 [1, 1, 0, 1, 0, 0, 1, 1]), .inLoop (cd25 [1, 1, 0, 1, 0, 0]), .inBlock 0, .code (cd25 [1, 1, 1])]) (us := [(4, .bool false)]) (by kernel_rfl) ?_
          refine runs_ret (fn := Try.f25) (v := .bool false) Try.func25 (by kernel_rfl) ?_
          have hr47 := (hq26 _ (Option.some.inj hp44))
          cases hr47
          exact hR _ _ ⟨rfl, hS46⟩
        · skip
          have hp48 := ite_f hp37 h43
          refine Qs.nil ?_
          intro w49 hS50
          refine sx_run 8 (todo' := [.inLoop (cd25 [1, 1, 0, 1, 0, 0]), .inBlock 0, .code (cd25 [1, 1, 1])]) (us := [(15, .int .i64 t16), (16, .int .i64 (IntKind.i64.wrap (t16 + 1))), (5, .int .i64 (IntKind.i64.wrap (t16 + 1)))]) (by kernel_rfl) ?_
          refine sx_run 1 (todo' := [.code (cd25 [1, 1, 0, 1, 0, 0]), .inLoop (cd25 [1, 1, 0, 1, 0, 0]), .inBlock 0, .code (cd25 [1, 1, 1])]) (us := []) (by kernel_rfl) ?_
          refine Runs.fill (m := [some (.slice Aa0 a0.length ca0), some (.slice Aa1 a1.length ca1), none, none, none, some (.int .i64 (IntKind.i64.wrap (t16 + 1))), none, none, none, none, none, none, none, none, none, none, none, none, none, none, none, none, none, none, none, none]) (by kernel_rfl) ?_
          exact ih23 (IntKind.i64.wrap (t16 + 1)) _ hp48 he21 _ _ hS50
      · skip
        have hp51 := ite_f hb22 h28
        refine sx_run 3 (todo' := [.code (cd25 [1, 1, 1])]) (us := []) (by kernel_rfl) ?_
        refine Runs.fill (m := [none, none, none, none, none, none, none, none, none, none, none, none, none, none, none, none, none, none, none, none, none, none, none, none, none, none]) (by kernel_rfl) ?_
        exact J12 ((Option.some.inj hp51).trans he21) _ _ hS18
    refine Runs.fill (m := [some (.slice Aa0 a0.length ca0), some (.slice Aa1 a1.length ca1), none, none, none, some (.int .i64 0), none, none, none, none, none, none, none, none, none, none, none, none, none, none, none, none, none, none, none, none]) (by kernel_rfl) ?_
    exact L25 0 _ hv7 rfl _ _ hS0

noncomputable def cd26 (p : List Nat) : Code := sub (bodyOf Try.f26) p
def weirlaw10_Back.f (a0 : List api_Final) (a0n : Nat) (a1 : List api_Final) : Option Bool :=
  (if 0 ≤ (IntKind.i64.wrap ((a1.length : Int) + 1)) ∧ (IntKind.i64.wrap ((a1.length : Int) + 1)) ≤ (a0.length : Int) then (if a0n ≤ a0.length then (weirlaw10_Same.f (a0.take a0n) a1 >>= (fun t7 => (if t7 = true then (if 0 ≤ (a1.length : Int) ∧ (a1.length : Int) < (((IntKind.i64.wrap ((a1.length : Int) + 1)).toNat : Nat) : Int) ∧ (a1.length : Int) < (a0.length : Int) then (if (((gt a0 (a1.length : Int)).N) == (-7)) = true then some (true) else some (false)) else none) else some (false)))) else none) else none)
set_option maxHeartbeats 16000000 in
theorem weirlaw10_Back.ok (a0 : List api_Final) (a0n : Nat) (a1 : List api_Final) (Aa0 : Option Addr) (ca0 : Nat) (Aa1 : Option Addr) (ca1 : Nat) {w0 : World} {Z : Zm} {fs : List XObj} {w : World} (hS0 : St w0 Z (xrow Aa0 ca0 24 49 (a0.flatMap enc_api_Final) :: fs) w) (ha1 : SlZ (flat enc_api_Final) 49 Z Aa1 ca1 a1) {q0 : Bool} (hp0 : weirlaw10_Back.f a0 a0n a1 = some q0) :
    Calls Try.prog 26 #[.slice Aa0 a0n ca0, .slice Aa1 a1.length ca1] w (fun e w' => e = .returned (.bool q0) ∧ St w0 Z (xrow Aa0 ca0 24 49 (a0.flatMap enc_api_Final) :: fs) w') := by
  refine calls_abs ?_; intro R hR
  unfold weirlaw10_Back.f at hp0
  refine calls_of_runs (fn := Try.f26) (c := cd26 []) Try.func26 (by kernel_rfl) (al := [.slice Aa0 a0n ca0, .slice Aa1 a1.length ca1]) rfl (n := 21) rfl ?_
  refine sx_run 10 (todo' := [.inRegion (opsOf (cd26 [1, 0])) [4, 5], .code (cd26 [1, 1])]) (us := [(4, .bool false), (6, .slice Aa0 a0n ca0), (7, .slice Aa1 a1.length ca1), (8, .int .i64 (a1.length : Int)), (9, .int .i64 (IntKind.i64.wrap ((a1.length : Int) + 1)))]) (by kernel_rfl) ?_
  obtain ⟨g1, hp2⟩ := ite_some hp0
  have hc3 := (hS0.row 0 rfl).cap len_api_Final (by omega)
  have g4 : 0 ≤ (IntKind.i64.wrap ((a1.length : Int) + 1)) ∧ (IntKind.i64.wrap ((a1.length : Int) + 1)) ≤ (ca0 : Int) := by omega
  refine r_val (c := (cd26 [1, 0])) (i := 4) (d := (some 10)) (ty := 36) (op := .slice 36 (.tmp 6) none (some (.tmp 9)) none) (v := .slice Aa0 ((IntKind.i64.wrap ((a1.length : Int) + 1)).toNat) ca0) (by kernel_rfl) (by kernel_rfl) (fun o ho _ => x_cutSl_nsC (e := 24) (sz := 49) (A := Aa0) (n := a0n) (c := ca0) (k := .i64) (by kernel_rfl) (by kernel_rfl) (by kernel_rfl) (by kernel_rfl) g4 cut0 ho) ?_
  refine sx_run 6 (todo' := [.inRegion (opsOf (cd26 [1, 1, 0])) [2, 3, 4, 5, 6, 7, 8, 9, 10, 11, 12], .code (cd26 [1, 1, 1])]) (us := [(5, .slice Aa0 ((IntKind.i64.wrap ((a1.length : Int) + 1)).toNat) ca0), (11, .slice Aa0 a0n ca0), (12, .slice Aa1 a1.length ca1)]) (by kernel_rfl) ?_
  obtain ⟨g5, hp6⟩ := ite_some hp2
  obtain ⟨t7, hr8, hp9⟩ := bind_some' hp6
  obtain ⟨Z10, hz11, hS12, hs13, hb14⟩ := hS0.lendrow len_api_Final (by omega)
  refine r_call1 (c := (cd26 [1, 1, 0])) (i := 2) (d := (some 13)) (g := 25) (args := #[.slice Aa0 a0n ca0, .slice Aa1 a1.length ca1]) (by kernel_rfl) (by kernel_rfl) (by kernel_rfl) (by kernel_rfl) (args_eq (by rw [lenTake g5]) (weirlaw10_Same.ok (a0.take a0n) a1 Aa0 ca0 Aa1 ca1 hS12 (hs13.take0 a0n) (ha1.up hz11) hr8)) ?_
  rintro _ w15 ⟨rfl, hS16⟩
  refine ⟨.bool t7, rfl, ?_⟩
  have hS17 := hb14 _ _ hS16
  refine sx_run 1 (todo' := [.inRegion (opsOf (cd26 [1, 1, 0])) [4, 5, 6, 7, 8, 9, 10, 11, 12], .code (cd26 [1, 1, 1])]) (us := [(14, .bool t7)]) (by kernel_rfl) ?_
  cases t7
  · skip
    have hp18 := ite_f hp9 rfl
    refine sx_run 10 (todo' := [.code (cd26 [1, 1, 1])]) (us := [(15, undef), (16, undef), (17, undef), (18, undef), (19, undef), (20, undef), (21, undef), (22, .bool false), (4, .bool false)]) (by kernel_rfl) ?_
    refine runs_ret (fn := Try.f26) (v := .bool false) Try.func26 (by kernel_rfl) ?_
    have hr19 := (Option.some.inj hp18)
    cases hr19
    exact hR _ _ ⟨rfl, hS17⟩
  · skip
    have hp20 := ite_t hp9 rfl
    refine sx_run 3 (todo' := [.inRegion (opsOf (cd26 [1, 1, 0])) [7, 8, 9, 10, 11, 12], .code (cd26 [1, 1, 1])]) (us := [(15, .slice Aa0 ((IntKind.i64.wrap ((a1.length : Int) + 1)).toNat) ca0), (16, .slice Aa1 a1.length ca1), (17, .int .i64 (a1.length : Int))]) (by kernel_rfl) ?_
    obtain ⟨g21, hp22⟩ := ite_some hp20
    obtain ⟨b23, p24, hA25, -⟩ := (hS17.row 0 rfl).at_ len_api_Final (by omega) (i := (a1.length : Int)) (by omega) g21.2.2
    have g26 : 0 ≤ (a1.length : Int) ∧ (a1.length : Int) < (a0.length : Int) := ⟨g21.1, g21.2.2⟩
    refine r_indexAddr (c := (cd26 [1, 1, 0])) (i := 7) (d := (some 18)) (ty := 0) (t := 36) (e := 24) (n := (IntKind.i64.wrap ((a1.length : Int) + 1)).toNat) (cp := ca0) (sz := 49) (kk := .i64) (x := (.tmp 15)) (y := (.tmp 17)) (b := b23) (o' := p24) (j := (a1.length : Int)) (by kernel_rfl) (by kernel_rfl) (slv (by kernel_rfl) hA25) (by kernel_rfl) (by kernel_rfl) (by kernel_rfl) g21.1 g21.2.1 ?_
    refine sx_run 1 (todo' := [.inRegion (opsOf (cd26 [1, 1, 0])) [9, 10, 11, 12], .code (cd26 [1, 1, 1])]) (us := [(19, .pointer (some ⟨b23, p24 + (a1.length : Int).toNat * 49, none⟩))]) (by kernel_rfl) ?_
    refine r_load (c := (cd26 [1, 1, 0])) (i := 9) (d := (some 20)) (ty := 3) (t := 3) (x := (.tmp 19)) (p := ⟨b23, p24 + (a1.length : Int).toNat * 49, none⟩) (v := .int .i64 ((gt a0 (a1.length : Int)).N)) (by kernel_rfl) (by kernel_rfl) (by kernel_rfl) (loads_at 0 ((hS17.row 0 rfl).at2 hA25 len_api_Final (by omega) g26.1 g26.2) (by kernel_rfl) (by kernel_rfl)) ?_
    refine sx_split 1 (todo' := [.inRegion (opsOf (cd26 [1, 1, 0])) [11, 12], .code (cd26 [1, 1, 1])]) (us := []) (d := 21) (t := (((gt a0 (a1.length : Int)).N) == (-7))) (by kernel_rfl) (fun h27 => ?_) (fun h28 => ?_)
    · skip
      have hp29 := ite_t hp22 h27
      refine sx_run 3 (todo' := [.code (cd26 [1, 1, 1])]) (us := [(22, .bool true), (4, .bool true)]) (by kernel_rfl) ?_
      refine runs_ret (fn := Try.f26) (v := .bool true) Try.func26 (by kernel_rfl) ?_
      have hr30 := (Option.some.inj hp29)
      cases hr30
      exact hR _ _ ⟨rfl, hS17⟩
    · skip
      have hp31 := ite_f hp22 h28
      refine sx_run 3 (todo' := [.code (cd26 [1, 1, 1])]) (us := [(22, .bool false), (4, .bool false)]) (by kernel_rfl) ?_
      refine runs_ret (fn := Try.f26) (v := .bool false) Try.func26 (by kernel_rfl) ?_
      have hr32 := (Option.some.inj hp31)
      cases hr32
      exact hR _ _ ⟨rfl, hS17⟩

noncomputable def cd27 (p : List Nat) : Code := sub (bodyOf Try.f27) p
def weirlaw10_Spoil.l1 (t19 : List api_Final) (t23 : Int) : Option Unit :=
  (if (decide (t23 < 12)) = true then (if (t19.length + ([(⟨(-8), (Vector.replicate 48 0)⟩ : api_Final)] : List api_Final).length) * 392 ≤ 140737488355328 then (weirlaw10_Spoil.l1 (t19 ++ ([(⟨(-8), (Vector.replicate 48 0)⟩ : api_Final)] : List api_Final)) (IntKind.i64.wrap (t23 + 1))) else none) else some (()))
 partial_fixpoint
def weirlaw10_Spoil.l0 (t52 : Int) (t53 : List api_Final) : Option (List api_Final) :=
  (if (decide (t52 < (t53.length : Int))) = true then (if 0 ≤ t52 ∧ t52 < (t53.length : Int) then (weirlaw10_Spoil.l0 (IntKind.i64.wrap (t52 + 1)) (setl t53 t52 (⟨(-9), (gt t53 t52).V⟩ : api_Final))) else none) else some (t53))
 partial_fixpoint
def weirlaw10_Spoil.f (a0 : List api_Final) : Option Unit :=
  (weirlaw10_Spoil.l0 0 a0 >>= (fun t4 => (weirlaw10_Spoil.l1 t4 0 >>= (fun _ => some (())))))
set_option maxHeartbeats 16000000 in
theorem weirlaw10_Spoil.ok (a0 : List api_Final) (Aa0 : Option Addr) (ca0 : Nat) {w0 : World} {Z : Zm} {fs : List XObj} {w : World} (hS0 : St w0 Z (xrow Aa0 ca0 24 49 (a0.flatMap enc_api_Final) :: fs) w) (hp0 : weirlaw10_Spoil.f a0 = some ()) :
    Calls Try.prog 27 #[.slice Aa0 a0.length ca0] w (fun e w' => e = .returned (.tuple #[]) ∧ St w0 Z (fs) w') := by
  refine calls_abs ?_; intro R hR
  unfold weirlaw10_Spoil.f at hp0
  refine calls_of_runs (fn := Try.f27) (c := cd27 []) Try.func27 (by kernel_rfl) (al := [.slice Aa0 a0.length ca0]) rfl (n := 21) rfl ?_
  refine sx_run 7 (todo' := [.code (cd27 [0, 1, 0, 0]), .inLoop (cd27 [0, 1, 0, 0]), .inBlock 0, .code (cd27 [1])]) (us := [(2, .int .i64 0)]) (by kernel_rfl) ?_
  obtain ⟨v1, hv2, hp3⟩ := bind_some' hp0
  have J7 : ∀ (t4 : List api_Final) (he9 : t4 = v1) (l8 : List Value) (w5 : World) (hS6 : St w0 Z (xrow Aa0 ca0 24 49 (t4.flatMap enc_api_Final) :: fs) w5), Runs Try.prog 27 [.code (cd27 [1])] (fill [some (.slice Aa0 t4.length ca0), none, none, none, none, none, none, none, none, none, none, none, none, none, none, none, none, none, none, none, none, none] l8) w5 R := by
    intro t4 he9 l8 w5 hS6
    subst he9
    try dsimp only at hp3
    refine sx_run 6 (todo' := [.code (cd27 [1, 1, 0, 0]), .inLoop (cd27 [1, 1, 0, 0]), .inBlock 2]) (us := [(3, .int .i64 0)]) (by kernel_rfl) ?_
    obtain ⟨v10, hv11, hp12⟩ := bind_some' hp3
    have J15 : ∀ (he17 : () = v10) (l16 : List Value) (w13 : World) (hS14 : St w0 Z (fs) w13), Runs Try.prog 27 [] (fill [none, none, none, none, none, none, none, none, none, none, none, none, none, none, none, none, none, none, none, none, none, none] l16) w13 R := by
      intro he17 l16 w13 hS14
      subst he17
      try dsimp only at hp12
      refine runs_end (fn := Try.f27) (v := .tuple #[]) Try.func27 (by kernel_rfl) ?_
      have hr18 := (Option.some.inj hp12)
      cases hr18
      exact hR _ _ ⟨rfl, hS14⟩
    have L32 : ∀ (t19 : List api_Final) (t23 : Int) (e27 : Unit), weirlaw10_Spoil.l1 t19 t23 = some e27 → e27 = v10 → ∀ (l26 : List Value) (A20 : Option Addr) (c21 : Nat) (w24 : World) (hS25 : St w0 Z (xrow A20 c21 24 49 (t19.flatMap enc_api_Final) :: fs) w24), Runs Try.prog 27 [.code (cd27 [1, 1, 0, 0]), .inLoop (cd27 [1, 1, 0, 0]), .inBlock 2] (fill [some (.slice A20 t19.length c21), none, none, some (.int .i64 t23), none, none, none, none, none, none, none, none, none, none, none, none, none, none, none, none, none, none] l26) w24 R := by
      refine weirlaw10_Spoil.l1.partial_correctness (fun t19 t23 e27 => e27 = v10 → ∀ (l26 : List Value) (A20 : Option Addr) (c21 : Nat) (w24 : World) (hS25 : St w0 Z (xrow A20 c21 24 49 (t19.flatMap enc_api_Final) :: fs) w24), Runs Try.prog 27 [.code (cd27 [1, 1, 0, 0]), .inLoop (cd27 [1, 1, 0, 0]), .inBlock 2] (fill [some (.slice A20 t19.length c21), none, none, some (.int .i64 t23), none, none, none, none, none, none, none, none, none, none, none, none, none, none, none, none, none, none] l26) w24 R) ?_
      intro rec31 ih30 t19 t23 e27 hb29 he28 l26 A20 c21 w24 hS25
      refine sx_split 5 (todo' := [.inRegion (opsOf (cd27 [1, 1, 0, 0, 0, 0])) [], .code (cd27 [1, 1, 0, 0, 0, 1]), .code (cd27 [1, 1, 0, 0, 1]), .inLoop (cd27 [1, 1, 0, 0]), .inBlock 2]) (us := [(14, .int .i64 t23)]) (d := 15) (t := (decide (t23 < 12))) (by kernel_rfl) (fun h33 => ?_) (fun h34 => ?_)
      · skip
        have hp35 := ite_t hb29 h33
        refine sx_run 8 (todo' := [.inRegion (opsOf (cd27 [1, 1, 0, 0, 1, 0, 0])) [2, 3, 4], .inBlock 3, .code (cd27 [1, 1, 0, 0, 1, 1]), .inLoop (cd27 [1, 1, 0, 0]), .inBlock 2]) (us := [(18, .slice A20 t19.length c21), (19, .agg (enc_api_Final (⟨(-8), (Vector.replicate 48 0)⟩ : api_Final)).toArray)]) (by kernel_rfl) ?_
        refine r_lit (c := (cd27 [1, 1, 0, 0, 1, 0, 0])) (i := 2) (d := (some 20)) (ty := 36) (t := 36) (e := 24) (sz := 49) (n := 1) (parts := #[(0, (.tmp 19))]) (vs := [(0, .agg (enc_api_Final (⟨(-8), (Vector.replicate 48 0)⟩ : api_Final)).toArray)]) (z := zeroOf Try.prog 24) (cs' := ([(⟨(-8), (Vector.replicate 48 0)⟩ : api_Final)] : List api_Final).flatMap enc_api_Final) hS25 (by kernel_rfl) (by kernel_rfl) (by kernel_rfl) (by kernel_rfl) (by kernel_rfl) (by decide) (by decide) (by kernel_rfl) rfl (Parts.cons (c := enc_api_Final (⟨(-8), (Vector.replicate 48 0)⟩ : api_Final)) (by kernel_rfl) (len_api_Final _) Parts.nil) rfl ?_
        intro b37 w38 hS39
        have hS40 := hS39.pick1
        obtain ⟨g41, hp42⟩ := ite_some hp35
        refine r_append (c := (cd27 [1, 1, 0, 0, 1, 0, 0])) (i := 3) (d := (some 21)) (ty := 36) (enc := enc_api_Final) (e := 24) (u := 24) (t := 36) (t2 := 36) (sz := 49) (cp := c21) (A := A20) (bytes := 392) (xs := t19) (ys := ([(⟨(-8), (Vector.replicate 48 0)⟩ : api_Final)] : List api_Final)) (s := (.tmp 18)) (x := (.tmp 20)) (xv := .slice (some ⟨b37, 0, none⟩) ([(⟨(-8), (Vector.replicate 48 0)⟩ : api_Final)] : List api_Final).length 1) (info := infoOf Try.prog 24) (z := zeroOf Try.prog 24) (ycs := ([(⟨(-8), (Vector.replicate 48 0)⟩ : api_Final)] : List api_Final).flatMap enc_api_Final) hS40 (by kernel_rfl) (by kernel_rfl) (by kernel_rfl) (by kernel_rfl) (by kernel_rfl) (.inl (by kernel_rfl)) (by kernel_rfl) (by kernel_rfl) (by kernel_rfl) (by kernel_rfl) (by kernel_rfl) (by omega) len_api_Final one_api_Final (src_row (hS40.row 1 rfl) (by omega) len_api_Final) rfl g41 (by omega) ?_
        intro A43 c44 w45 hS46
        refine sx_run 8 (todo' := [.inLoop (cd27 [1, 1, 0, 0]), .inBlock 2]) (us := [(0, .slice A43 (t19 ++ ([(⟨(-8), (Vector.replicate 48 0)⟩ : api_Final)] : List api_Final)).length c44), (16, .int .i64 t23), (17, .int .i64 (IntKind.i64.wrap (t23 + 1))), (3, .int .i64 (IntKind.i64.wrap (t23 + 1)))]) (by kernel_rfl) ?_
        have hS48 := hS46.pick1
        have hS49 := hS48.drop
        refine sx_run 1 (todo' := [.code (cd27 [1, 1, 0, 0]), .inLoop (cd27 [1, 1, 0, 0]), .inBlock 2]) (us := []) (by kernel_rfl) ?_
        refine Runs.fill (m := [some (.slice A43 (t19 ++ ([(⟨(-8), (Vector.replicate 48 0)⟩ : api_Final)] : List api_Final)).length c44), none, none, some (.int .i64 (IntKind.i64.wrap (t23 + 1))), none, none, none, none, none, none, none, none, none, none, none, none, none, none, none, none, none, none]) (by kernel_rfl) ?_
        exact ih30 (t19 ++ ([(⟨(-8), (Vector.replicate 48 0)⟩ : api_Final)] : List api_Final)) (IntKind.i64.wrap (t23 + 1)) _ hp42 he28 _ A43 c44 _ hS49
      · skip
        have hp50 := ite_f hb29 h34
        refine sx_run 3 (todo' := []) (us := []) (by kernel_rfl) ?_
        have hS51 := hS25.drop
        refine Runs.fill (m := [none, none, none, none, none, none, none, none, none, none, none, none, none, none, none, none, none, none, none, none, none, none]) (by kernel_rfl) ?_
        exact J15 ((Option.some.inj hp50).trans he28) _ _ hS51
    refine Runs.fill (m := [some (.slice Aa0 t4.length ca0), none, none, some (.int .i64 0), none, none, none, none, none, none, none, none, none, none, none, none, none, none, none, none, none, none]) (by kernel_rfl) ?_
    exact L32 t4 0 _ hv11 rfl _ Aa0 ca0 _ hS6
  have L62 : ∀ (t52 : Int) (t53 : List api_Final) (e57 : (List api_Final)), weirlaw10_Spoil.l0 t52 t53 = some e57 → e57 = v1 → ∀ (l56 : List Value) (w54 : World) (hS55 : St w0 Z (xrow Aa0 ca0 24 49 (t53.flatMap enc_api_Final) :: fs) w54), Runs Try.prog 27 [.code (cd27 [0, 1, 0, 0]), .inLoop (cd27 [0, 1, 0, 0]), .inBlock 0, .code (cd27 [1])] (fill [some (.slice Aa0 t53.length ca0), none, some (.int .i64 t52), none, none, none, none, none, none, none, none, none, none, none, none, none, none, none, none, none, none, none] l56) w54 R := by
    refine weirlaw10_Spoil.l0.partial_correctness (fun t52 t53 e57 => e57 = v1 → ∀ (l56 : List Value) (w54 : World) (hS55 : St w0 Z (xrow Aa0 ca0 24 49 (t53.flatMap enc_api_Final) :: fs) w54), Runs Try.prog 27 [.code (cd27 [0, 1, 0, 0]), .inLoop (cd27 [0, 1, 0, 0]), .inBlock 0, .code (cd27 [1])] (fill [some (.slice Aa0 t53.length ca0), none, some (.int .i64 t52), none, none, none, none, none, none, none, none, none, none, none, none, none, none, none, none, none, none, none] l56) w54 R) ?_
    intro rec61 ih60 t52 t53 e57 hb59 he58 l56 w54 hS55
    refine sx_split 7 (todo' := [.inRegion (opsOf (cd27 [0, 1, 0, 0, 0, 0])) [], .code (cd27 [0, 1, 0, 0, 0, 1]), .code (cd27 [0, 1, 0, 0, 1]), .inLoop (cd27 [0, 1, 0, 0]), .inBlock 0, .code (cd27 [1])]) (us := [(4, .int .i64 t52), (5, .slice Aa0 t53.length ca0), (6, .int .i64 (t53.length : Int))]) (d := 7) (t := (decide (t52 < (t53.length : Int)))) (by kernel_rfl) (fun h63 => ?_) (fun h64 => ?_)
    · skip
      have hp65 := ite_t hb59 h63
      refine sx_run 8 (todo' := [.inRegion (opsOf (cd27 [0, 1, 0, 0, 1, 0, 0])) [2, 3, 4], .inBlock 1, .code (cd27 [0, 1, 0, 0, 1, 1]), .inLoop (cd27 [0, 1, 0, 0]), .inBlock 0, .code (cd27 [1])]) (us := [(10, .slice Aa0 t53.length ca0), (11, .int .i64 t52)]) (by kernel_rfl) ?_
      obtain ⟨g66, hp67⟩ := ite_some hp65
      obtain ⟨b68, p69, hA70, -⟩ := (hS55.row 0 rfl).at_ len_api_Final (by omega) g66.1 g66.2
      refine r_indexAddr (c := (cd27 [0, 1, 0, 0, 1, 0, 0])) (i := 2) (d := (some 12)) (ty := 0) (t := 36) (e := 24) (n := t53.length) (cp := ca0) (sz := 49) (kk := .i64) (x := (.tmp 10)) (y := (.tmp 11)) (b := b68) (o' := p69) (j := t52) (by kernel_rfl) (by kernel_rfl) (slv (by kernel_rfl) hA70) (by kernel_rfl) (by kernel_rfl) (by kernel_rfl) g66.1 g66.2 ?_
      refine sx_run 1 (todo' := [.inRegion (opsOf (cd27 [0, 1, 0, 0, 1, 0, 0])) [4], .inBlock 1, .code (cd27 [0, 1, 0, 0, 1, 1]), .inLoop (cd27 [0, 1, 0, 0]), .inBlock 0, .code (cd27 [1])]) (us := [(13, .pointer (some ⟨b68, p69 + t52.toNat * 49, none⟩))]) (by kernel_rfl) ?_
      refine r_storeEl (c := (cd27 [0, 1, 0, 0, 1, 0, 0])) (i := 4) (d := none) (ty := 0) (enc := enc_api_Final) (e := 24) (t := 3) (sz := 49) (cp := ca0) (A := Aa0) (xs := t53) (x := (.tmp 13)) (y := (.const (.int .i64 (-9)))) (el := gt t53 t52) (el' := (⟨(-9), (gt t53 t52).V⟩ : api_Final)) (j := t52) (off := 0) (b := b68) (p := p69) (v := .int .i64 (-9)) (vs := [.int .i64 (-9)]) (ad := ⟨b68, p69 + t52.toNat * 49, none⟩) hS55 (by kernel_rfl) (by kernel_rfl) (by kernel_rfl) (by simp) (by kernel_rfl) hA70 g66 rfl len_api_Final (by kernel_rfl) (by kernel_rfl) (by kernel_rfl) (by decide) (by decide) (put_api_Final_N _ _) ?_
      intro w72 hS73
      refine Runs.fill (m := [some (.slice Aa0 t53.length ca0), none, none, none, none, some (.slice Aa0 t53.length ca0), none, none, none, none, some (.slice Aa0 t53.length ca0), none, none, none, none, none, none, none, none, none, none, none]) (by kernel_rfl) ?_
      refine Runs.refill (m' := [some (.slice Aa0 (setl t53 t52 (⟨(-9), (gt t53 t52).V⟩ : api_Final)).length ca0), none, none, none, none, some (.slice Aa0 (setl t53 t52 (⟨(-9), (gt t53 t52).V⟩ : api_Final)).length ca0), none, none, none, none, some (.slice Aa0 (setl t53 t52 (⟨(-9), (gt t53 t52).V⟩ : api_Final)).length ca0), none, none, none, none, none, none, none, none, none, none, none]) (by simp only [setl_len]) ?_
      refine sx_run 7 (todo' := [.inLoop (cd27 [0, 1, 0, 0]), .inBlock 0, .code (cd27 [1])]) (us := [(8, .int .i64 t52), (9, .int .i64 (IntKind.i64.wrap (t52 + 1))), (2, .int .i64 (IntKind.i64.wrap (t52 + 1)))]) (by kernel_rfl) ?_
      refine sx_run 1 (todo' := [.code (cd27 [0, 1, 0, 0]), .inLoop (cd27 [0, 1, 0, 0]), .inBlock 0, .code (cd27 [1])]) (us := []) (by kernel_rfl) ?_
      refine Runs.fill (m := [some (.slice Aa0 (setl t53 t52 (⟨(-9), (gt t53 t52).V⟩ : api_Final)).length ca0), none, some (.int .i64 (IntKind.i64.wrap (t52 + 1))), none, none, none, none, none, none, none, none, none, none, none, none, none, none, none, none, none, none, none]) (by kernel_rfl) ?_
      exact ih60 (IntKind.i64.wrap (t52 + 1)) (setl t53 t52 (⟨(-9), (gt t53 t52).V⟩ : api_Final)) _ hp67 he58 _ _ hS73
    · skip
      have hp74 := ite_f hb59 h64
      refine sx_run 3 (todo' := [.code (cd27 [1])]) (us := []) (by kernel_rfl) ?_
      refine Runs.fill (m := [some (.slice Aa0 t53.length ca0), none, none, none, none, none, none, none, none, none, none, none, none, none, none, none, none, none, none, none, none, none]) (by kernel_rfl) ?_
      exact J7 t53 ((Option.some.inj hp74).trans he58) _ _ hS55
  refine Runs.fill (m := [some (.slice Aa0 a0.length ca0), none, some (.int .i64 0), none, none, none, none, none, none, none, none, none, none, none, none, none, none, none, none, none, none, none]) (by kernel_rfl) ?_
  exact L62 0 a0 _ hv2 rfl _ _ hS0

noncomputable def cd5 (p : List Nat) : Code := sub (bodyOf Try.f5) p
def weirlaw10_StateOrders.f (a0 : List api_Final) (a1 : api_Final) (a2 : api_Final) : Option Bool :=
  (weirlaw10_few.f a0 ([] : List api_Final) >>= (fun t9 => (if (!t9) = true then some (true) else (weirlaw10_Lent.f a0 >>= (fun (t21, t22) => (if t22 ≤ t21.length then (state_Sort.f (t21.take t22) >>= (fun t32 => (if t22 ≤ t21.length then (state_Sort.f (t21.take t22) >>= (fun t48 => (weirref10_Sort.f a0 >>= (fun t62 => (state_Check.f a1 >>= (fun t70 => (weirlaw10_num.f t70 >>= (fun t79 => (weirref10_Check.f a1 >>= (fun t88 => (if (t79 != t88) = true then some (false) else (state_Compare.f a1 a2 >>= (fun t110 => (weirref10_Compare.f a1 a2 >>= (fun t119 => (if (t110 != t119) = true then some (false) else (if t22 ≤ t21.length then (state_Rises.f (t21.take t22) >>= (fun t143 => (weirref10_Rises.f a0 >>= (fun t159 => (if (!(t143 == t159)) = true then some (false) else (weirlaw10_Same.f t32 t62 >>= (fun t181 => (if (!t181) = true then some (false) else (weirlaw10_Same.f t48 t62 >>= (fun t216 => (if (!t216) = true then some (false) else (weirlaw10_Back.f t21 t22 a0 >>= (fun t251 => (if (!t251) = true then some (false) else (weirlaw10_Spoil.f t32 >>= (fun _ => (weirlaw10_Same.f t48 t62 >>= (fun t281 => (if t281 = true then (weirlaw10_Back.f t21 t22 a0 >>= (fun t307 => some (t307))) else some (false)))))))))))))))))))) else none))))))))))))))))) else none))) else none))))))
set_option maxHeartbeats 16000000 in
theorem weirlaw10_StateOrders.ok (a0 : List api_Final) (a1 : api_Final) (a2 : api_Final) (Aa0 : Option Addr) (ca0 : Nat) {w0 : World} {Z : Zm} {fs : List XObj} {w : World} (hS0 : St w0 Z (fs) w) (ha0 : SlZ (flat enc_api_Final) 49 Z Aa0 ca0 a0) {q0 : Bool} (hp0 : weirlaw10_StateOrders.f a0 a1 a2 = some q0) :
    Calls Try.prog 5 #[.slice Aa0 a0.length ca0, .agg (enc_api_Final a1).toArray, .agg (enc_api_Final a2).toArray] w (fun e w' => e = .returned (.bool q0) ∧ St w0 Z (fs) w') := by
  refine calls_abs ?_; intro R hR
  unfold weirlaw10_StateOrders.f at hp0
  refine calls_of_runs (fn := Try.f5) (c := cd5 []) Try.func5 (by kernel_rfl) (al := [.slice Aa0 a0.length ca0, .agg (enc_api_Final a1).toArray, .agg (enc_api_Final a2).toArray]) rfl (n := 69) rfl ?_
  refine sx_run 2 (todo' := [.inRegion (opsOf (cd5 [0])) [0, 1, 2], .code (cd5 [1])]) (us := []) (by kernel_rfl) ?_
  refine r_box (c := (cd5 [0])) (i := 0) (d := (some 4)) (ty := 0) (x := (.tmp 1)) (v := .agg (enc_api_Final a1).toArray) (t := 24) (cs := enc_api_Final a1) hS0 (by kernel_rfl) (by kernel_rfl) (by kernel_rfl) (by kernel_rfl) ?_
  intro b1 w2 hS3
  refine r_box (c := (cd5 [0])) (i := 1) (d := (some 5)) (ty := 0) (x := (.tmp 2)) (v := .agg (enc_api_Final a2).toArray) (t := 24) (cs := enc_api_Final a2) hS3 (by kernel_rfl) (by kernel_rfl) (by kernel_rfl) (by kernel_rfl) ?_
  intro b5 w6 hS7
  refine sx_run 6 (todo' := [.inRegion (opsOf (cd5 [1, 0, 0])) [1, 2], .code (cd5 [1, 0, 1]), .code (cd5 [1, 1])]) (us := [(6, .bool false), (11, .slice Aa0 a0.length ca0)]) (by kernel_rfl) ?_
  obtain ⟨t9, hr10, hp11⟩ := bind_some' hp0
  refine r_call1 (c := (cd5 [1, 0, 0])) (i := 1) (d := (some 12)) (g := 12) (args := #[.slice Aa0 a0.length ca0, .slice none 0 0]) (by kernel_rfl) (by kernel_rfl) (by kernel_rfl) (by kernel_rfl) (weirlaw10_few.ok a0 ([] : List api_Final) Aa0 ca0 none 0 hS7 ha0 (SlZ.nil _ _ _ _ _) hr10) ?_
  rintro _ w12 ⟨rfl, hS13⟩
  refine ⟨.bool t9, rfl, ?_⟩
  refine sx_split 1 (todo' := [.inRegion (opsOf (cd5 [1, 0, 0])) [], .code (cd5 [1, 0, 1]), .code (cd5 [1, 1])]) (us := []) (d := 13) (t := (!t9)) (by kernel_rfl) (fun h14 => ?_) (fun h15 => ?_)
  · skip
    have hp16 := ite_t hp11 h14
    refine sx_run 6 (todo' := [.code (cd5 [1, 0, 1, 0, 1]), .code (cd5 [1, 1])]) (us := [(6, .bool true)]) (by kernel_rfl) ?_
    have hS17 := hS13.drop
    have hS18 := hS17.drop
    refine runs_ret (fn := Try.f5) (v := .bool true) Try.func5 (by kernel_rfl) ?_
    have hr19 := (Option.some.inj hp16)
    cases hr19
    exact hR _ _ ⟨rfl, hS18⟩
  · skip
    have hp20 := ite_f hp11 h15
    refine sx_run 6 (todo' := [.inRegion (opsOf (cd5 [1, 1, 0])) [1, 2], .code (cd5 [1, 1, 1])]) (us := [(14, .slice Aa0 a0.length ca0)]) (by kernel_rfl) ?_
    obtain ⟨⟨t21, t22⟩, hr25, hp26⟩ := bind_some' hp20
    try dsimp only at hp26
    refine r_call1 (c := (cd5 [1, 1, 0])) (i := 1) (d := (some 15)) (g := 16) (args := #[.slice Aa0 a0.length ca0]) (by kernel_rfl) (by kernel_rfl) (by kernel_rfl) (by kernel_rfl) (weirlaw10_Lent.ok a0 Aa0 ca0 hS13 ha0 hr25) ?_
    rintro _ w28 ⟨Q23, Q24, rfl, hS29⟩
    refine ⟨.slice Q23 t22 Q24, rfl, ?_⟩
    refine sx_run 5 (todo' := [.inRegion (opsOf (cd5 [1, 1, 1, 0])) [1, 2], .code (cd5 [1, 1, 1, 1])]) (us := [(7, .slice Q23 t22 Q24), (16, .slice Q23 t22 Q24)]) (by kernel_rfl) ?_
    obtain ⟨g30, hp31⟩ := ite_some hp26
    obtain ⟨t32, hr35, hp36⟩ := bind_some' hp31
    obtain ⟨Z38, hz39, hS40, hs41, hb42⟩ := hS29.lendrow len_api_Final (by omega)
    refine r_call1 (c := (cd5 [1, 1, 1, 0])) (i := 1) (d := (some 17)) (g := 18) (args := #[.slice Q23 t22 Q24]) (by kernel_rfl) (by kernel_rfl) (by kernel_rfl) (by kernel_rfl) (args_eq (by rw [lenTake g30]) (state_Sort.ok (t21.take t22) Q23 Q24 hS40 (hs41.take0 t22) hr35)) ?_
    rintro _ w43 ⟨Q33, Q34, rfl, hS44⟩
    refine ⟨.slice Q33 t32.length Q34, rfl, ?_⟩
    have hS45 := hb42 _ _ hS44
    refine sx_run 5 (todo' := [.inRegion (opsOf (cd5 [1, 1, 1, 1, 0])) [1, 2], .code (cd5 [1, 1, 1, 1, 1])]) (us := [(8, .slice Q33 t32.length Q34), (18, .slice Q23 t22 Q24)]) (by kernel_rfl) ?_
    obtain ⟨g46, hp47⟩ := ite_some hp36
    obtain ⟨t48, hr51, hp52⟩ := bind_some' hp47
    obtain ⟨Z54, hz55, hS56, hs57, hb58⟩ := hS45.lendrow len_api_Final (by omega)
    refine r_call1 (c := (cd5 [1, 1, 1, 1, 0])) (i := 1) (d := (some 19)) (g := 18) (args := #[.slice Q23 t22 Q24]) (by kernel_rfl) (by kernel_rfl) (by kernel_rfl) (by kernel_rfl) (args_eq (by rw [lenTake g46]) (state_Sort.ok (t21.take t22) Q23 Q24 hS56 (hs57.take0 t22) hr51)) ?_
    rintro _ w59 ⟨Q49, Q50, rfl, hS60⟩
    refine ⟨.slice Q49 t48.length Q50, rfl, ?_⟩
    have hS61 := hb58 _ _ hS60
    refine sx_run 5 (todo' := [.inRegion (opsOf (cd5 [1, 1, 1, 1, 1, 0])) [1, 2], .code (cd5 [1, 1, 1, 1, 1, 1])]) (us := [(9, .slice Q49 t48.length Q50), (20, .slice Aa0 a0.length ca0)]) (by kernel_rfl) ?_
    obtain ⟨t62, hr65, hp66⟩ := bind_some' hp52
    refine r_call1 (c := (cd5 [1, 1, 1, 1, 1, 0])) (i := 1) (d := (some 21)) (g := 14) (args := #[.slice Aa0 a0.length ca0]) (by kernel_rfl) (by kernel_rfl) (by kernel_rfl) (by kernel_rfl) (weirref10_Sort.ok a0 Aa0 ca0 hS61 ha0 hr65) ?_
    rintro _ w68 ⟨Q63, Q64, rfl, hS69⟩
    refine ⟨.slice Q63 t62.length Q64, rfl, ?_⟩
    refine sx_run 4 (todo' := [.code (cd5 [1, 1, 1, 1, 1, 1, 0, 0]), .code (cd5 [1, 1, 1, 1, 1, 1, 0, 1]), .code (cd5 [1, 1, 1, 1, 1, 1, 1])]) (us := [(10, .slice Q63 t62.length Q64)]) (by kernel_rfl) ?_
    refine r_quiet hS69 (c := (cd5 [1, 1, 1, 1, 1, 1, 0, 0])) (id := 7) (by kernel_rfl) (by kernel_rfl) (by kernel_rfl) (is := [0, 1, 2, 3, 4, 5, 6, 7, 8, 9, 10, 11, 12, 13, 14, 15, 16, 17, 18, 19, 20, 21, 22, 23, 24, 25, 26, 27, 28, 29, 30, 31, 32, 33, 34, 35, 36, 37, 38, 39]) (by kernel_rfl) ?_
    refine q_load (c := (cd5 [1, 1, 1, 1, 1, 1, 0, 0])) (i := 0) (d := (some 22)) (ty := 24) (t := 24) (x := (.tmp 4)) (p := ⟨b1, 0, none⟩) (v := .agg (enc_api_Final a1).toArray) (by kernel_rfl) (by kernel_rfl) (by kernel_rfl) (fun w hC => (loads_agg (hC.blk 5 rfl) (by kernel_rfl) (lenK (len_api_Final _) (by kernel_rfl)))) ?_
    obtain ⟨t70, hr71, hp72⟩ := bind_some' hp66
    refine q_call1 (c := (cd5 [1, 1, 1, 1, 1, 1, 0, 0])) (i := 1) (d := (some 23)) (v := .int .i64 t70) (g := 19) (args := #[.agg (enc_api_Final a1).toArray]) (by kernel_rfl) (by kernel_rfl) (by kernel_rfl) (by kernel_rfl) (fun w hC => by
      refine (state_Check.ok a1 hC hr71).mono ?_
      rintro e w2 ⟨rfl, h2⟩
      have hS73 := h2.pick5
      have hS74 := hS73.pick5
      have hS75 := hS74.pick5
      have hS76 := hS75.pick5
      have hS77 := hS76.pick5
      have hS78 := hS77.pick5
      exact ⟨rfl, hS78⟩) ?_
    obtain ⟨t79, hr80, hp81⟩ := bind_some' hp72
    refine q_call1 (c := (cd5 [1, 1, 1, 1, 1, 1, 0, 0])) (i := 2) (d := (some 24)) (v := .int .i64 t79) (g := 11) (args := #[.int .i64 t70]) (by kernel_rfl) (by kernel_rfl) (by kernel_rfl) (by kernel_rfl) (fun w hC => by
      refine (weirlaw10_num.ok t70 hC hr80).mono ?_
      rintro e w2 ⟨rfl, h2⟩
      have hS82 := h2.pick5
      have hS83 := hS82.pick5
      have hS84 := hS83.pick5
      have hS85 := hS84.pick5
      have hS86 := hS85.pick5
      have hS87 := hS86.pick5
      exact ⟨rfl, hS87⟩) ?_
    refine q_load (c := (cd5 [1, 1, 1, 1, 1, 1, 0, 0])) (i := 3) (d := (some 25)) (ty := 24) (t := 24) (x := (.tmp 4)) (p := ⟨b1, 0, none⟩) (v := .agg (enc_api_Final a1).toArray) (by kernel_rfl) (by kernel_rfl) (by kernel_rfl) (fun w hC => (loads_agg (hC.blk 5 rfl) (by kernel_rfl) (lenK (len_api_Final _) (by kernel_rfl)))) ?_
    obtain ⟨t88, hr89, hp90⟩ := bind_some' hp81
    refine q_call1 (c := (cd5 [1, 1, 1, 1, 1, 1, 0, 0])) (i := 4) (d := (some 26)) (v := .int .i64 t88) (g := 20) (args := #[.agg (enc_api_Final a1).toArray]) (by kernel_rfl) (by kernel_rfl) (by kernel_rfl) (by kernel_rfl) (fun w hC => by
      refine (weirref10_Check.ok a1 hC hr89).mono ?_
      rintro e w2 ⟨rfl, h2⟩
      have hS91 := h2.pick5
      have hS92 := hS91.pick5
      have hS93 := hS92.pick5
      have hS94 := hS93.pick5
      have hS95 := hS94.pick5
      have hS96 := hS95.pick5
      exact ⟨rfl, hS96⟩) ?_
    refine q_splitr 1 (is' := [6, 7, 8, 9, 10, 11, 12, 13, 14, 15, 16, 17, 18, 19, 20, 21, 22, 23, 24, 25, 26, 27, 28, 29, 30, 31, 32, 33, 34, 35, 36, 37, 38, 39]) (us := []) (d := 27) (t := (t79 != t88)) (by kernel_rfl) (fun h97 => ?_) (fun h98 => ?_)
    · skip
      have hp99 := ite_t hp90 h97
      refine q_run 34 (is' := []) (us := [(28, .bool true), (29, undef), (30, undef), (31, undef), (32, undef), (33, undef), (34, undef), (35, undef), (36, .bool true), (37, .bool true), (38, undef), (39, undef), (40, undef), (41, undef), (42, undef), (43, .bool true), (44, .bool true), (45, undef), (46, undef), (47, undef), (48, undef), (49, .bool true), (50, .bool true), (51, undef), (52, undef), (53, undef), (54, undef), (55, .bool true), (56, .bool true), (57, undef), (58, undef), (59, undef), (60, undef), (61, .bool true)]) (by kernel_rfl) ?_
      refine Qs.nil ?_
      intro w100 hS101
      refine sx_run 5 (todo' := [.code (cd5 [1, 1, 1, 1, 1, 1, 0, 1, 0, 1]), .code (cd5 [1, 1, 1, 1, 1, 1, 1])]) (us := [(6, .bool false)]) (by kernel_rfl) ?_
      have hS102 := hS101.drop
      have hS103 := hS102.drop
      have hS104 := hS103.drop
      have hS105 := hS104.drop
      have hS106 := hS105.drop
      have hS107 := hS106.drop
      refine runs_ret (fn := Try.f5) (v := .bool false) Try.func5 (by kernel_rfl) ?_
      have hr108 := (Option.some.inj hp99)
      cases hr108
      exact hR _ _ ⟨rfl, hS107⟩
    · skip
      have hp109 := ite_f hp90 h98
      refine q_run 1 (is' := [7, 8, 9, 10, 11, 12, 13, 14, 15, 16, 17, 18, 19, 20, 21, 22, 23, 24, 25, 26, 27, 28, 29, 30, 31, 32, 33, 34, 35, 36, 37, 38, 39]) (us := [(28, .bool false)]) (by kernel_rfl) ?_
      refine q_load (c := (cd5 [1, 1, 1, 1, 1, 1, 0, 0])) (i := 7) (d := (some 29)) (ty := 24) (t := 24) (x := (.tmp 4)) (p := ⟨b1, 0, none⟩) (v := .agg (enc_api_Final a1).toArray) (by kernel_rfl) (by kernel_rfl) (by kernel_rfl) (fun w hC => (loads_agg (hC.blk 5 rfl) (by kernel_rfl) (lenK (len_api_Final _) (by kernel_rfl)))) ?_
      refine q_load (c := (cd5 [1, 1, 1, 1, 1, 1, 0, 0])) (i := 8) (d := (some 30)) (ty := 24) (t := 24) (x := (.tmp 5)) (p := ⟨b5, 0, none⟩) (v := .agg (enc_api_Final a2).toArray) (by kernel_rfl) (by kernel_rfl) (by kernel_rfl) (fun w hC => (loads_agg (hC.blk 4 rfl) (by kernel_rfl) (lenK (len_api_Final _) (by kernel_rfl)))) ?_
      obtain ⟨t110, hr111, hp112⟩ := bind_some' hp109
      refine q_call1 (c := (cd5 [1, 1, 1, 1, 1, 1, 0, 0])) (i := 9) (d := (some 31)) (v := .int .i64 t110) (g := 21) (args := #[.agg (enc_api_Final a1).toArray, .agg (enc_api_Final a2).toArray]) (by kernel_rfl) (by kernel_rfl) (by kernel_rfl) (by kernel_rfl) (fun w hC => by
        refine (state_Compare.ok a1 a2 hC hr111).mono ?_
        rintro e w2 ⟨rfl, h2⟩
        have hS113 := h2.pick5
        have hS114 := hS113.pick5
        have hS115 := hS114.pick5
        have hS116 := hS115.pick5
        have hS117 := hS116.pick5
        have hS118 := hS117.pick5
        exact ⟨rfl, hS118⟩) ?_
      refine q_load (c := (cd5 [1, 1, 1, 1, 1, 1, 0, 0])) (i := 10) (d := (some 32)) (ty := 24) (t := 24) (x := (.tmp 4)) (p := ⟨b1, 0, none⟩) (v := .agg (enc_api_Final a1).toArray) (by kernel_rfl) (by kernel_rfl) (by kernel_rfl) (fun w hC => (loads_agg (hC.blk 5 rfl) (by kernel_rfl) (lenK (len_api_Final _) (by kernel_rfl)))) ?_
      refine q_load (c := (cd5 [1, 1, 1, 1, 1, 1, 0, 0])) (i := 11) (d := (some 33)) (ty := 24) (t := 24) (x := (.tmp 5)) (p := ⟨b5, 0, none⟩) (v := .agg (enc_api_Final a2).toArray) (by kernel_rfl) (by kernel_rfl) (by kernel_rfl) (fun w hC => (loads_agg (hC.blk 4 rfl) (by kernel_rfl) (lenK (len_api_Final _) (by kernel_rfl)))) ?_
      obtain ⟨t119, hr120, hp121⟩ := bind_some' hp112
      refine q_call1 (c := (cd5 [1, 1, 1, 1, 1, 1, 0, 0])) (i := 12) (d := (some 34)) (v := .int .i64 t119) (g := 22) (args := #[.agg (enc_api_Final a1).toArray, .agg (enc_api_Final a2).toArray]) (by kernel_rfl) (by kernel_rfl) (by kernel_rfl) (by kernel_rfl) (fun w hC => by
        refine (weirref10_Compare.ok a1 a2 hC hr120).mono ?_
        rintro e w2 ⟨rfl, h2⟩
        have hS122 := h2.pick5
        have hS123 := hS122.pick5
        have hS124 := hS123.pick5
        have hS125 := hS124.pick5
        have hS126 := hS125.pick5
        have hS127 := hS126.pick5
        exact ⟨rfl, hS127⟩) ?_
      refine q_splitr 1 (is' := [14, 15, 16, 17, 18, 19, 20, 21, 22, 23, 24, 25, 26, 27, 28, 29, 30, 31, 32, 33, 34, 35, 36, 37, 38, 39]) (us := []) (d := 35) (t := (t110 != t119)) (by kernel_rfl) (fun h128 => ?_) (fun h129 => ?_)
      · skip
        have hp130 := ite_t hp121 h128
        refine q_run 26 (is' := []) (us := [(36, .bool true), (37, .bool true), (38, undef), (39, undef), (40, undef), (41, undef), (42, undef), (43, .bool true), (44, .bool true), (45, undef), (46, undef), (47, undef), (48, undef), (49, .bool true), (50, .bool true), (51, undef), (52, undef), (53, undef), (54, undef), (55, .bool true), (56, .bool true), (57, undef), (58, undef), (59, undef), (60, undef), (61, .bool true)]) (by kernel_rfl) ?_
        refine Qs.nil ?_
        intro w131 hS132
        refine sx_run 5 (todo' := [.code (cd5 [1, 1, 1, 1, 1, 1, 0, 1, 0, 1]), .code (cd5 [1, 1, 1, 1, 1, 1, 1])]) (us := [(6, .bool false)]) (by kernel_rfl) ?_
        have hS133 := hS132.drop
        have hS134 := hS133.drop
        have hS135 := hS134.drop
        have hS136 := hS135.drop
        have hS137 := hS136.drop
        have hS138 := hS137.drop
        refine runs_ret (fn := Try.f5) (v := .bool false) Try.func5 (by kernel_rfl) ?_
        have hr139 := (Option.some.inj hp130)
        cases hr139
        exact hR _ _ ⟨rfl, hS138⟩
      · skip
        have hp140 := ite_f hp121 h129
        refine q_run 3 (is' := [17, 18, 19, 20, 21, 22, 23, 24, 25, 26, 27, 28, 29, 30, 31, 32, 33, 34, 35, 36, 37, 38, 39]) (us := [(36, .bool false), (37, .bool false), (38, .slice Q23 t22 Q24)]) (by kernel_rfl) ?_
        obtain ⟨g141, hp142⟩ := ite_some hp140
        obtain ⟨t143, hr144, hp145⟩ := bind_some' hp142
        refine q_call1 (c := (cd5 [1, 1, 1, 1, 1, 1, 0, 0])) (i := 17) (d := (some 39)) (v := .bool t143) (g := 23) (args := #[.slice Q23 t22 Q24]) (by kernel_rfl) (by kernel_rfl) (by kernel_rfl) (by kernel_rfl) (fun w hC => by
          have hS146 := hC.pick1
          obtain ⟨Z147, hz148, hS149, hs150, hb151⟩ := hS146.lendrow len_api_Final (by omega)
          refine (args_eq (by rw [lenTake g141]) (state_Rises.ok (t21.take t22) Q23 Q24 hS149 (hs150.take0 t22) hr144)).mono ?_
          rintro e w2 ⟨rfl, h2⟩
          have hS152 := hb151 _ _ h2
          have hS153 := hS152.pick5
          have hS154 := hS153.pick5
          have hS155 := hS154.pick5
          have hS156 := hS155.pick5
          have hS157 := hS156.pick4
          have hS158 := hS157.pick5
          exact ⟨rfl, hS158⟩) ?_
        refine q_run 1 (is' := [19, 20, 21, 22, 23, 24, 25, 26, 27, 28, 29, 30, 31, 32, 33, 34, 35, 36, 37, 38, 39]) (us := [(40, .slice Aa0 a0.length ca0)]) (by kernel_rfl) ?_
        obtain ⟨t159, hr160, hp161⟩ := bind_some' hp145
        refine q_call1 (c := (cd5 [1, 1, 1, 1, 1, 1, 0, 0])) (i := 19) (d := (some 41)) (v := .bool t159) (g := 24) (args := #[.slice Aa0 a0.length ca0]) (by kernel_rfl) (by kernel_rfl) (by kernel_rfl) (by kernel_rfl) (fun w hC => by
          refine (weirref10_Rises.ok a0 Aa0 ca0 hC ha0 hr160).mono ?_
          rintro e w2 ⟨rfl, h2⟩
          have hS162 := h2.pick5
          have hS163 := hS162.pick5
          have hS164 := hS163.pick5
          have hS165 := hS164.pick5
          have hS166 := hS165.pick5
          have hS167 := hS166.pick5
          exact ⟨rfl, hS167⟩) ?_
        refine q_splitr 1 (is' := [21, 22, 23, 24, 25, 26, 27, 28, 29, 30, 31, 32, 33, 34, 35, 36, 37, 38, 39]) (us := []) (d := 42) (t := (!(t143 == t159))) (by kernel_rfl) (fun h168 => ?_) (fun h169 => ?_)
        · skip
          have hp170 := ite_t hp161 h168
          refine q_run 19 (is' := []) (us := [(43, .bool true), (44, .bool true), (45, undef), (46, undef), (47, undef), (48, undef), (49, .bool true), (50, .bool true), (51, undef), (52, undef), (53, undef), (54, undef), (55, .bool true), (56, .bool true), (57, undef), (58, undef), (59, undef), (60, undef), (61, .bool true)]) (by kernel_rfl) ?_
          refine Qs.nil ?_
          intro w171 hS172
          refine sx_run 5 (todo' := [.code (cd5 [1, 1, 1, 1, 1, 1, 0, 1, 0, 1]), .code (cd5 [1, 1, 1, 1, 1, 1, 1])]) (us := [(6, .bool false)]) (by kernel_rfl) ?_
          have hS173 := hS172.drop
          have hS174 := hS173.drop
          have hS175 := hS174.drop
          have hS176 := hS175.drop
          have hS177 := hS176.drop
          have hS178 := hS177.drop
          refine runs_ret (fn := Try.f5) (v := .bool false) Try.func5 (by kernel_rfl) ?_
          have hr179 := (Option.some.inj hp170)
          cases hr179
          exact hR _ _ ⟨rfl, hS178⟩
        · skip
          have hp180 := ite_f hp161 h169
          refine q_run 4 (is' := [25, 26, 27, 28, 29, 30, 31, 32, 33, 34, 35, 36, 37, 38, 39]) (us := [(43, .bool false), (44, .bool false), (45, .slice Q33 t32.length Q34), (46, .slice Q63 t62.length Q64)]) (by kernel_rfl) ?_
          obtain ⟨t181, hr182, hp183⟩ := bind_some' hp180
          refine q_call1 (c := (cd5 [1, 1, 1, 1, 1, 1, 0, 0])) (i := 25) (d := (some 47)) (v := .bool t181) (g := 25) (args := #[.slice Q33 t32.length Q34, .slice Q63 t62.length Q64]) (by kernel_rfl) (by kernel_rfl) (by kernel_rfl) (by kernel_rfl) (fun w hC => by
            have hS184 := hC.pick3
            obtain ⟨Z185, hz186, hS187, hs188, hb189⟩ := hS184.lendrow len_api_Final (by omega)
            obtain ⟨Z190, hz191, hS192, hs193, hb194⟩ := hS187.lendrow len_api_Final (by omega)
            refine (weirlaw10_Same.ok t32 t62 Q33 Q34 Q63 Q64 hS192 (hs188.up hz191) hs193 hr182).mono ?_
            rintro e w2 ⟨rfl, h2⟩
            have hS195 := hb194 _ _ h2
            have hS196 := hb189 _ _ hS195
            have hS197 := hS196.pick5
            have hS198 := hS197.pick5
            have hS199 := hS198.pick2
            have hS200 := hS199.pick5
            have hS201 := hS200.pick5
            have hS202 := hS201.pick5
            exact ⟨rfl, hS202⟩) ?_
          refine q_splitr 1 (is' := [27, 28, 29, 30, 31, 32, 33, 34, 35, 36, 37, 38, 39]) (us := []) (d := 48) (t := (!t181)) (by kernel_rfl) (fun h203 => ?_) (fun h204 => ?_)
          · skip
            have hp205 := ite_t hp183 h203
            refine q_run 13 (is' := []) (us := [(49, .bool true), (50, .bool true), (51, undef), (52, undef), (53, undef), (54, undef), (55, .bool true), (56, .bool true), (57, undef), (58, undef), (59, undef), (60, undef), (61, .bool true)]) (by kernel_rfl) ?_
            refine Qs.nil ?_
            intro w206 hS207
            refine sx_run 5 (todo' := [.code (cd5 [1, 1, 1, 1, 1, 1, 0, 1, 0, 1]), .code (cd5 [1, 1, 1, 1, 1, 1, 1])]) (us := [(6, .bool false)]) (by kernel_rfl) ?_
            have hS208 := hS207.drop
            have hS209 := hS208.drop
            have hS210 := hS209.drop
            have hS211 := hS210.drop
            have hS212 := hS211.drop
            have hS213 := hS212.drop
            refine runs_ret (fn := Try.f5) (v := .bool false) Try.func5 (by kernel_rfl) ?_
            have hr214 := (Option.some.inj hp205)
            cases hr214
            exact hR _ _ ⟨rfl, hS213⟩
          · skip
            have hp215 := ite_f hp183 h204
            refine q_run 4 (is' := [31, 32, 33, 34, 35, 36, 37, 38, 39]) (us := [(49, .bool false), (50, .bool false), (51, .slice Q49 t48.length Q50), (52, .slice Q63 t62.length Q64)]) (by kernel_rfl) ?_
            obtain ⟨t216, hr217, hp218⟩ := bind_some' hp215
            refine q_call1 (c := (cd5 [1, 1, 1, 1, 1, 1, 0, 0])) (i := 31) (d := (some 53)) (v := .bool t216) (g := 25) (args := #[.slice Q49 t48.length Q50, .slice Q63 t62.length Q64]) (by kernel_rfl) (by kernel_rfl) (by kernel_rfl) (by kernel_rfl) (fun w hC => by
              have hS219 := hC.pick2
              obtain ⟨Z220, hz221, hS222, hs223, hb224⟩ := hS219.lendrow len_api_Final (by omega)
              obtain ⟨Z225, hz226, hS227, hs228, hb229⟩ := hS222.lendrow len_api_Final (by omega)
              refine (weirlaw10_Same.ok t48 t62 Q49 Q50 Q63 Q64 hS227 (hs223.up hz226) hs228 hr217).mono ?_
              rintro e w2 ⟨rfl, h2⟩
              have hS230 := hb229 _ _ h2
              have hS231 := hb224 _ _ hS230
              have hS232 := hS231.pick5
              have hS233 := hS232.pick5
              have hS234 := hS233.pick5
              have hS235 := hS234.pick3
              have hS236 := hS235.pick5
              have hS237 := hS236.pick5
              exact ⟨rfl, hS237⟩) ?_
            refine q_splitr 1 (is' := [33, 34, 35, 36, 37, 38, 39]) (us := []) (d := 54) (t := (!t216)) (by kernel_rfl) (fun h238 => ?_) (fun h239 => ?_)
            · skip
              have hp240 := ite_t hp218 h238
              refine q_run 7 (is' := []) (us := [(55, .bool true), (56, .bool true), (57, undef), (58, undef), (59, undef), (60, undef), (61, .bool true)]) (by kernel_rfl) ?_
              refine Qs.nil ?_
              intro w241 hS242
              refine sx_run 5 (todo' := [.code (cd5 [1, 1, 1, 1, 1, 1, 0, 1, 0, 1]), .code (cd5 [1, 1, 1, 1, 1, 1, 1])]) (us := [(6, .bool false)]) (by kernel_rfl) ?_
              have hS243 := hS242.drop
              have hS244 := hS243.drop
              have hS245 := hS244.drop
              have hS246 := hS245.drop
              have hS247 := hS246.drop
              have hS248 := hS247.drop
              refine runs_ret (fn := Try.f5) (v := .bool false) Try.func5 (by kernel_rfl) ?_
              have hr249 := (Option.some.inj hp240)
              cases hr249
              exact hR _ _ ⟨rfl, hS248⟩
            · skip
              have hp250 := ite_f hp218 h239
              refine q_run 4 (is' := [37, 38, 39]) (us := [(55, .bool false), (56, .bool false), (57, .slice Q23 t22 Q24), (58, .slice Aa0 a0.length ca0)]) (by kernel_rfl) ?_
              obtain ⟨t251, hr252, hp253⟩ := bind_some' hp250
              refine q_call1 (c := (cd5 [1, 1, 1, 1, 1, 1, 0, 0])) (i := 37) (d := (some 59)) (v := .bool t251) (g := 26) (args := #[.slice Q23 t22 Q24, .slice Aa0 a0.length ca0]) (by kernel_rfl) (by kernel_rfl) (by kernel_rfl) (by kernel_rfl) (fun w hC => by
                have hS254 := hC.pick1
                refine (weirlaw10_Back.ok t21 t22 a0 Q23 Q24 Aa0 ca0 hS254 ha0 hr252).mono ?_
                rintro e w2 ⟨rfl, h2⟩
                have hS255 := h2.pick5
                have hS256 := hS255.pick5
                have hS257 := hS256.pick5
                have hS258 := hS257.pick5
                have hS259 := hS258.pick4
                have hS260 := hS259.pick5
                exact ⟨rfl, hS260⟩) ?_
              refine q_splitr 1 (is' := [39]) (us := []) (d := 60) (t := (!t251)) (by kernel_rfl) (fun h261 => ?_) (fun h262 => ?_)
              · skip
                have hp263 := ite_t hp253 h261
                refine q_run 1 (is' := []) (us := [(61, .bool true)]) (by kernel_rfl) ?_
                refine Qs.nil ?_
                intro w264 hS265
                refine sx_run 5 (todo' := [.code (cd5 [1, 1, 1, 1, 1, 1, 0, 1, 0, 1]), .code (cd5 [1, 1, 1, 1, 1, 1, 1])]) (us := [(6, .bool false)]) (by kernel_rfl) ?_
                have hS266 := hS265.drop
                have hS267 := hS266.drop
                have hS268 := hS267.drop
                have hS269 := hS268.drop
                have hS270 := hS269.drop
                have hS271 := hS270.drop
                refine runs_ret (fn := Try.f5) (v := .bool false) Try.func5 (by kernel_rfl) ?_
                have hr272 := (Option.some.inj hp263)
                cases hr272
                exact hR _ _ ⟨rfl, hS271⟩
              · skip
                have hp273 := ite_f hp253 h262
                refine q_run 1 (is' := []) (us := [(61, .bool false)]) (by kernel_rfl) ?_
                refine Qs.nil ?_
                intro w274 hS275
                refine sx_run 5 (todo' := [.inRegion (opsOf (cd5 [1, 1, 1, 1, 1, 1, 1, 0])) [1], .code (cd5 [1, 1, 1, 1, 1, 1, 1, 1])]) (us := [(62, .slice Q33 t32.length Q34)]) (by kernel_rfl) ?_
                obtain ⟨_, hr276, hp277⟩ := bind_some' hp273
                have hS278 := hS275.pick3
                refine r_call1 (c := (cd5 [1, 1, 1, 1, 1, 1, 1, 0])) (i := 1) (d := (some 63)) (g := 27) (args := #[.slice Q33 t32.length Q34]) (by kernel_rfl) (by kernel_rfl) (by kernel_rfl) (by kernel_rfl) (weirlaw10_Spoil.ok t32 Q33 Q34 hS278 hr276) ?_
                rintro _ w279 ⟨rfl, hS280⟩
                refine ⟨.tuple #[], rfl, ?_⟩
                refine sx_run 5 (todo' := [.inRegion (opsOf (cd5 [1, 1, 1, 1, 1, 1, 1, 1, 0])) [2, 3, 4, 5, 6, 7, 8], .code (cd5 [1, 1, 1, 1, 1, 1, 1, 1, 1])]) (us := [(64, .slice Q49 t48.length Q50), (65, .slice Q63 t62.length Q64)]) (by kernel_rfl) ?_
                obtain ⟨t281, hr282, hp283⟩ := bind_some' hp277
                have hS284 := hS280.pick2
                obtain ⟨Z285, hz286, hS287, hs288, hb289⟩ := hS284.lendrow len_api_Final (by omega)
                obtain ⟨Z290, hz291, hS292, hs293, hb294⟩ := hS287.lendrow len_api_Final (by omega)
                refine r_call1 (c := (cd5 [1, 1, 1, 1, 1, 1, 1, 1, 0])) (i := 2) (d := (some 66)) (g := 25) (args := #[.slice Q49 t48.length Q50, .slice Q63 t62.length Q64]) (by kernel_rfl) (by kernel_rfl) (by kernel_rfl) (by kernel_rfl) (weirlaw10_Same.ok t48 t62 Q49 Q50 Q63 Q64 hS292 (hs288.up hz291) hs293 hr282) ?_
                rintro _ w295 ⟨rfl, hS296⟩
                refine ⟨.bool t281, rfl, ?_⟩
                have hS297 := hb294 _ _ hS296
                have hS298 := hb289 _ _ hS297
                refine sx_run 1 (todo' := [.inRegion (opsOf (cd5 [1, 1, 1, 1, 1, 1, 1, 1, 0])) [4, 5, 6, 7, 8], .code (cd5 [1, 1, 1, 1, 1, 1, 1, 1, 1])]) (us := [(67, .bool t281)]) (by kernel_rfl) ?_
                cases t281
                · skip
                  have hp299 := ite_f hp283 rfl
                  refine sx_run 6 (todo' := [.code (cd5 [1, 1, 1, 1, 1, 1, 1, 1, 1])]) (us := [(68, undef), (69, undef), (70, undef), (71, .bool false), (6, .bool false)]) (by kernel_rfl) ?_
                  have hS300 := hS298.drop
                  have hS301 := hS300.drop
                  have hS302 := hS301.drop
                  have hS303 := hS302.drop
                  have hS304 := hS303.drop
                  refine runs_ret (fn := Try.f5) (v := .bool false) Try.func5 (by kernel_rfl) ?_
                  have hr305 := (Option.some.inj hp299)
                  cases hr305
                  exact hR _ _ ⟨rfl, hS304⟩
                · skip
                  have hp306 := ite_t hp283 rfl
                  refine sx_run 2 (todo' := [.inRegion (opsOf (cd5 [1, 1, 1, 1, 1, 1, 1, 1, 0])) [6, 7, 8], .code (cd5 [1, 1, 1, 1, 1, 1, 1, 1, 1])]) (us := [(68, .slice Q23 t22 Q24), (69, .slice Aa0 a0.length ca0)]) (by kernel_rfl) ?_
                  obtain ⟨t307, hr308, hp309⟩ := bind_some' hp306
                  have hS310 := hS298.pick2
                  refine r_call1 (c := (cd5 [1, 1, 1, 1, 1, 1, 1, 1, 0])) (i := 6) (d := (some 70)) (g := 26) (args := #[.slice Q23 t22 Q24, .slice Aa0 a0.length ca0]) (by kernel_rfl) (by kernel_rfl) (by kernel_rfl) (by kernel_rfl) (weirlaw10_Back.ok t21 t22 a0 Q23 Q24 Aa0 ca0 hS310 ha0 hr308) ?_
                  rintro _ w311 ⟨rfl, hS312⟩
                  refine ⟨.bool t307, rfl, ?_⟩
                  refine sx_run 3 (todo' := [.code (cd5 [1, 1, 1, 1, 1, 1, 1, 1, 1])]) (us := [(71, .bool t307), (6, .bool t307)]) (by kernel_rfl) ?_
                  have hS313 := hS312.drop
                  have hS314 := hS313.drop
                  have hS315 := hS314.drop
                  have hS316 := hS315.drop
                  have hS317 := hS316.drop
                  refine runs_ret (fn := Try.f5) (v := .bool t307) Try.func5 (by kernel_rfl) ?_
                  have hr318 := (Option.some.inj hp309)
                  cases hr318
                  exact hR _ _ ⟨rfl, hS317⟩

noncomputable def cd47 (p : List Nat) : Code := sub (bodyOf Try.f47) p
def state_Union_1.f (a0 : Bool) (a1 : Bool) : Option Bool :=
  some (true)
set_option maxHeartbeats 16000000 in
theorem state_Union_1.ok (a0 : Bool) (a1 : Bool) {w0 : World} {Z : Zm} {fs : List XObj} {w : World} (hS0 : St w0 Z (fs) w) {q0 : Bool} (hp0 : state_Union_1.f a0 a1 = some q0) :
    Calls Try.prog 47 #[.bool a0, .bool a1] w (fun e w' => e = .returned (.bool q0) ∧ St w0 Z (fs) w') := by
  refine calls_abs ?_; intro R hR
  unfold state_Union_1.f at hp0
  refine calls_of_runs (fn := Try.f47) (c := cd47 []) Try.func47 (by kernel_rfl) (al := [.bool a0, .bool a1]) rfl (n := 3) rfl ?_
  refine sx_run 8 (todo' := [.code (cd47 [1, 1])]) (us := [(4, .bool false), (4, .bool true)]) (by kernel_rfl) ?_
  refine runs_ret (fn := Try.f47) (v := .bool true) Try.func47 (by kernel_rfl) ?_
  have hr1 := (Option.some.inj hp0)
  cases hr1
  exact hR _ _ ⟨rfl, hS0⟩

noncomputable def cd46 (p : List Nat) : Code := sub (bodyOf Try.f46) p
def state_walk.l0 (t38 : List api_Final) (t43 : List api_Final) (t48 : List api_Final) : Option (List api_Final) :=
  (((if (decide ((t38.length : Int) > 0)) = true then some (.inl ()) else (if (decide ((t43.length : Int) > 0)) = true then some (.inl ()) else some (.inr (t48)))) : Option (Sum Unit (List api_Final))) >>= (fun | .inl () => (((if ((t38.length : Int) == 0) = true then some (1) else (if (decide ((t43.length : Int) > 0)) = true then (if 0 ≤ (0 : Int) ∧ (0 : Int) < (t38.length : Int) then (if 0 ≤ (0 : Int) ∧ (0 : Int) < (t43.length : Int) then (state_Compare.f (gt t38 (0 : Int)) (gt t43 (0 : Int)) >>= (fun t284 => some (t284))) else none) else none) else some ((-1)))) : Option Int) >>= (fun t73 => (((if (decide (t73 ≤ 0)) = true then (if 0 ≤ (0 : Int) ∧ (0 : Int) < (t38.length : Int) then (if 0 ≤ (1 : Int) ∧ (1 : Int) ≤ (t38.length : Int) then some ((((t38.take t38.length).drop ((1 : Int).toNat)), (gt t38 (0 : Int)))) else none) else none) else some ((t38, (⟨0, (Vector.replicate 48 0)⟩ : api_Final)))) : Option ((List api_Final) × api_Final)) >>= (fun (t86, t91) => (((if (decide (t73 ≥ 0)) = true then (if 0 ≤ (0 : Int) ∧ (0 : Int) < (t43.length : Int) then (if 0 ≤ (1 : Int) ∧ (1 : Int) ≤ (t43.length : Int) then some ((((t43.take t43.length).drop ((1 : Int).toNat)), (gt t43 (0 : Int)))) else none) else none) else some ((t43, t91))) : Option ((List api_Final) × api_Final)) >>= (fun (t100, t105) => (if (decide (t73 ≤ 0)) = true then (if (decide (t73 ≥ 0)) = true then (state_Union_1.f true true >>= (fun t117 => (if t117 = true then (if (t48.length + ([t105] : List api_Final).length) * 392 ≤ 140737488355328 then (state_walk.l0 t86 t100 (t48 ++ ([t105] : List api_Final))) else none) else (state_walk.l0 t86 t100 t48)))) else (state_Union_1.f true false >>= (fun t143 => (if t143 = true then (if (t48.length + ([t105] : List api_Final).length) * 392 ≤ 140737488355328 then (state_walk.l0 t86 t100 (t48 ++ ([t105] : List api_Final))) else none) else (state_walk.l0 t86 t100 t48))))) else (if (decide (t73 ≥ 0)) = true then (state_Union_1.f false true >>= (fun t172 => (if t172 = true then (if (t48.length + ([t105] : List api_Final).length) * 392 ≤ 140737488355328 then (state_walk.l0 t86 t100 (t48 ++ ([t105] : List api_Final))) else none) else (state_walk.l0 t86 t100 t48)))) else (state_Union_1.f false false >>= (fun t198 => (if t198 = true then (if (t48.length + ([t105] : List api_Final).length) * 392 ≤ 140737488355328 then (state_walk.l0 t86 t100 (t48 ++ ([t105] : List api_Final))) else none) else (state_walk.l0 t86 t100 t48)))))))))))) | .inr e => some e))
 partial_fixpoint
def state_walk.f (a0 : List api_Final) (a1 : List api_Final) : Option ((List api_Final) × Int) :=
  (state_Rises.f a0 >>= (fun t1 => (if (!t1) = true then some (([], 100)) else (state_Rises.f a1 >>= (fun t13 => (if (!t13) = true then some (([], 100)) else (state_walk.l0 a0 a1 [] >>= (fun t28 => some ((t28, 0))))))))))
set_option maxHeartbeats 16000000 in
theorem state_walk.ok (a0 : List api_Final) (a1 : List api_Final) (Aa0 : Option Addr) (ca0 : Nat) (Aa1 : Option Addr) (ca1 : Nat) {w0 : World} {Z : Zm} {fs : List XObj} {w : World} (hS0 : St w0 Z (fs) w) (ha0 : SlZ (flat enc_api_Final) 49 Z Aa0 ca0 a0) (ha1 : SlZ (flat enc_api_Final) 49 Z Aa1 ca1 a1) {q0 : List api_Final} {q1 : Int} (hp0 : state_walk.f a0 a1 = some (q0, q1)) :
    Calls Try.prog 46 #[.slice Aa0 a0.length ca0, .slice Aa1 a1.length ca1, .func (.func 47) #[] #[]] w (fun e w' => ∃ (QA0 : Option Addr) (Qc0 : Nat), e = .returned (.tuple #[.slice QA0 q0.length Qc0, .int .i64 q1]) ∧ St w0 Z (xrow QA0 Qc0 24 49 (q0.flatMap enc_api_Final) :: fs) w') := by
  refine calls_abs ?_; intro R hR
  unfold state_walk.f at hp0
  refine calls_of_runs (fn := Try.f46) (c := cd46 []) Try.func46 (by kernel_rfl) (al := [.slice Aa0 a0.length ca0, .slice Aa1 a1.length ca1, .func (.func 47) #[] #[]]) rfl (n := 64) rfl ?_
  refine sx_run 9 (todo' := [.inRegion (opsOf (cd46 [1, 0, 0])) [1, 2, 3, 4, 5, 6, 7], .code (cd46 [1, 0, 1]), .code (cd46 [1, 1])]) (us := [(6, .slice none 0 0), (7, .int .i64 0), (11, .slice Aa0 a0.length ca0)]) (by kernel_rfl) ?_
  obtain ⟨t1, hr2, hp3⟩ := bind_some' hp0
  refine r_call1 (c := (cd46 [1, 0, 0])) (i := 1) (d := (some 12)) (g := 23) (args := #[.slice Aa0 a0.length ca0]) (by kernel_rfl) (by kernel_rfl) (by kernel_rfl) (by kernel_rfl) (state_Rises.ok a0 Aa0 ca0 hS0 ha0 hr2) ?_
  rintro _ w4 ⟨rfl, hS5⟩
  refine ⟨.bool t1, rfl, ?_⟩
  refine sx_split 1 (todo' := [.inRegion (opsOf (cd46 [1, 0, 0])) [3, 4, 5, 6, 7], .code (cd46 [1, 0, 1]), .code (cd46 [1, 1])]) (us := []) (d := 13) (t := (!t1)) (by kernel_rfl) (fun h6 => ?_) (fun h7 => ?_)
  · skip
    have hp8 := ite_t hp3 h6
    refine sx_run 12 (todo' := [.code (cd46 [1, 0, 1, 0, 1]), .code (cd46 [1, 1])]) (us := [(14, .bool true), (15, undef), (16, undef), (17, undef), (18, .bool true), (6, .slice none 0 0), (7, .int .i64 100)]) (by kernel_rfl) ?_
    have hS10 := hS5.nilrow none 24 49
    refine runs_ret (fn := Try.f46) (v := .tuple #[.slice none 0 0, .int .i64 100]) Try.func46 (by kernel_rfl) ?_
    have hr11 := (Option.some.inj hp8)
    cases hr11
    exact hR _ _ ⟨none, 0, rfl, hS10⟩
  · skip
    have hp12 := ite_f hp3 h7
    refine sx_run 2 (todo' := [.inRegion (opsOf (cd46 [1, 0, 0])) [5, 6, 7], .code (cd46 [1, 0, 1]), .code (cd46 [1, 1])]) (us := [(14, .bool false), (15, .slice Aa1 a1.length ca1)]) (by kernel_rfl) ?_
    obtain ⟨t13, hr14, hp15⟩ := bind_some' hp12
    refine r_call1 (c := (cd46 [1, 0, 0])) (i := 5) (d := (some 16)) (g := 23) (args := #[.slice Aa1 a1.length ca1]) (by kernel_rfl) (by kernel_rfl) (by kernel_rfl) (by kernel_rfl) (state_Rises.ok a1 Aa1 ca1 hS5 ha1 hr14) ?_
    rintro _ w16 ⟨rfl, hS17⟩
    refine ⟨.bool t13, rfl, ?_⟩
    refine sx_split 1 (todo' := [.inRegion (opsOf (cd46 [1, 0, 0])) [7], .code (cd46 [1, 0, 1]), .code (cd46 [1, 1])]) (us := []) (d := 17) (t := (!t13)) (by kernel_rfl) (fun h18 => ?_) (fun h19 => ?_)
    · skip
      have hp20 := ite_t hp15 h18
      refine sx_run 8 (todo' := [.code (cd46 [1, 0, 1, 0, 1]), .code (cd46 [1, 1])]) (us := [(18, .bool true), (6, .slice none 0 0), (7, .int .i64 100)]) (by kernel_rfl) ?_
      have hS22 := hS17.nilrow none 24 49
      refine runs_ret (fn := Try.f46) (v := .tuple #[.slice none 0 0, .int .i64 100]) Try.func46 (by kernel_rfl) ?_
      have hr23 := (Option.some.inj hp20)
      cases hr23
      exact hR _ _ ⟨none, 0, rfl, hS22⟩
    · skip
      have hp24 := ite_f hp15 h19
      refine sx_run 11 (todo' := [.code (cd46 [1, 1, 1, 0, 0, 0]), .inLoop (cd46 [1, 1, 1, 0, 0, 0]), .inBlock 0, .code (cd46 [1, 1, 1, 1])]) (us := [(18, .bool false), (8, .slice none 0 0)]) (by kernel_rfl) ?_
      obtain ⟨v25, hv26, hp27⟩ := bind_some' hp24
      have J34 : ∀ (t28 : List api_Final) (he36 : t28 = v25) (l35 : List Value) (A29 : Option Addr) (c30 : Nat) (w32 : World) (hS33 : St w0 Z (xrow A29 c30 24 49 (t28.flatMap enc_api_Final) :: fs) w32), Runs Try.prog 46 [.code (cd46 [1, 1, 1, 1])] (fill [none, none, none, none, none, none, none, none, some (.slice A29 t28.length c30), none, none, none, none, none, none, none, none, none, none, none, none, none, none, none, none, none, none, none, none, none, none, none, none, none, none, none, none, none, none, none, none, none, none, none, none, none, none, none, none, none, none, none, none, none, none, none, none, none, none, none, none, none, none, none, none, none, none] l35) w32 R := by
        intro t28 he36 l35 A29 c30 w32 hS33
        subst he36
        try dsimp only at hp27
        refine sx_run 6 (todo' := [.code (cd46 [1, 1, 1, 1, 1])]) (us := [(66, .slice A29 t28.length c30), (6, .slice A29 t28.length c30), (7, .int .i64 0)]) (by kernel_rfl) ?_
        refine runs_ret (fn := Try.f46) (v := .tuple #[.slice A29 t28.length c30, .int .i64 0]) Try.func46 (by kernel_rfl) ?_
        have hr37 := (Option.some.inj hp27)
        cases hr37
        exact hR _ _ ⟨A29, c30, rfl, hS33⟩
      have L60 : ∀ (t38 : List api_Final) (t43 : List api_Final) (t48 : List api_Final) (e55 : (List api_Final)), state_walk.l0 t38 t43 t48 = some e55 → e55 = v25 → ∀ (l54 : List Value) (A39 : Option Addr) (c40 : Nat) (A44 : Option Addr) (c45 : Nat) (A49 : Option Addr) (c50 : Nat) (w52 : World) (hS53 : St w0 Z (xrow A49 c50 24 49 (t48.flatMap enc_api_Final) :: fs) w52) (hs42 : SlZ (flat enc_api_Final) 49 Z A39 c40 t38) (hs47 : SlZ (flat enc_api_Final) 49 Z A44 c45 t43), Runs Try.prog 46 [.code (cd46 [1, 1, 1, 0, 0, 0]), .inLoop (cd46 [1, 1, 1, 0, 0, 0]), .inBlock 0, .code (cd46 [1, 1, 1, 1])] (fill [some (.slice A39 t38.length c40), some (.slice A44 t43.length c45), some (.func (.func 47) #[] #[]), none, none, none, none, none, some (.slice A49 t48.length c50), none, none, none, none, none, none, none, none, none, none, none, none, none, none, none, none, none, none, none, none, none, none, none, none, none, none, none, none, none, none, none, none, none, none, none, none, none, none, none, none, none, none, none, none, none, none, none, none, none, none, none, none, none, none, none, none, none, none] l54) w52 R := by
        refine state_walk.l0.partial_correctness (fun t38 t43 t48 e55 => e55 = v25 → ∀ (l54 : List Value) (A39 : Option Addr) (c40 : Nat) (A44 : Option Addr) (c45 : Nat) (A49 : Option Addr) (c50 : Nat) (w52 : World) (hS53 : St w0 Z (xrow A49 c50 24 49 (t48.flatMap enc_api_Final) :: fs) w52) (hs42 : SlZ (flat enc_api_Final) 49 Z A39 c40 t38) (hs47 : SlZ (flat enc_api_Final) 49 Z A44 c45 t43), Runs Try.prog 46 [.code (cd46 [1, 1, 1, 0, 0, 0]), .inLoop (cd46 [1, 1, 1, 0, 0, 0]), .inBlock 0, .code (cd46 [1, 1, 1, 1])] (fill [some (.slice A39 t38.length c40), some (.slice A44 t43.length c45), some (.func (.func 47) #[] #[]), none, none, none, none, none, some (.slice A49 t48.length c50), none, none, none, none, none, none, none, none, none, none, none, none, none, none, none, none, none, none, none, none, none, none, none, none, none, none, none, none, none, none, none, none, none, none, none, none, none, none, none, none, none, none, none, none, none, none, none, none, none, none, none, none, none, none, none, none, none, none] l54) w52 R) ?_
        intro rec59 ih58 t38 t43 t48 e55 hb57 he56 l54 A39 c40 A44 c45 A49 c50 w52 hS53 hs42 hs47
        obtain ⟨v61, hv62, hp63⟩ := bind_some' hb57
        have hq66 : ∀ x, Sum.inr x = v61 → x = e55 := by intro x hx; subst hx; simpa using hp63
        have J67 : ∀ (he69 : Sum.inl () = v61) (l68 : List Value) (w64 : World) (hS65 : St w0 Z (xrow A49 c50 24 49 (t48.flatMap enc_api_Final) :: fs) w64), Runs Try.prog 46 [.code (cd46 [1, 1, 1, 0, 0, 0, 1]), .inLoop (cd46 [1, 1, 1, 0, 0, 0]), .inBlock 0, .code (cd46 [1, 1, 1, 1])] (fill [some (.slice A39 t38.length c40), some (.slice A44 t43.length c45), some (.func (.func 47) #[] #[]), none, none, none, none, none, some (.slice A49 t48.length c50), none, none, none, none, none, none, none, none, none, none, none, none, none, none, none, none, none, none, none, none, none, none, none, none, none, none, none, none, none, none, none, none, none, none, none, none, none, none, none, none, none, none, none, none, none, none, none, none, none, none, none, none, none, none, none, none, none, none] l68) w64 R := by
          intro he69 l68 w64 hS65
          subst he69
          try dsimp only at hp63
          obtain ⟨v70, hv71, hp72⟩ := bind_some' hp63
          have J76 : ∀ (t73 : Int) (he78 : t73 = v70) (l77 : List Value) (w74 : World) (hS75 : St w0 Z (xrow A49 c50 24 49 (t48.flatMap enc_api_Final) :: fs) w74), Runs Try.prog 46 [.code (cd46 [1, 1, 1, 0, 0, 0, 1, 0, 1, 1]), .inBlock 1, .inLoop (cd46 [1, 1, 1, 0, 0, 0]), .inBlock 0, .code (cd46 [1, 1, 1, 1])] (fill [some (.slice A39 t38.length c40), some (.slice A44 t43.length c45), some (.func (.func 47) #[] #[]), none, none, none, none, none, some (.slice A49 t48.length c50), some (.int .i64 t73), none, none, none, none, none, none, none, none, none, none, none, none, none, none, none, none, none, none, none, none, none, none, none, none, none, none, none, none, none, none, none, none, none, none, none, none, none, none, none, none, none, none, none, none, none, none, none, none, none, none, none, none, none, none, none, none, none] l77) w74 R := by
            intro t73 he78 l77 w74 hS75
            subst he78
            try dsimp only at hp72
            refine sx_run 2 (todo' := [.inRegion (opsOf (cd46 [1, 1, 1, 0, 0, 0, 1, 0, 1, 1, 0])) [0], .code (cd46 [1, 1, 1, 0, 0, 0, 1, 0, 1, 1, 1]), .inBlock 1, .inLoop (cd46 [1, 1, 1, 0, 0, 0]), .inBlock 0, .code (cd46 [1, 1, 1, 1])]) (us := []) (by kernel_rfl) ?_
            refine r_alloc (c := (cd46 [1, 1, 1, 0, 0, 0, 1, 0, 1, 1, 0])) (i := 0) (d := (some 10)) (ty := 0) (z := .agg (enc_api_Final (⟨0, (Vector.replicate 48 0)⟩ : api_Final)).toArray) (t := 24) (cs := enc_api_Final (⟨0, (Vector.replicate 48 0)⟩ : api_Final)) hS75 (by kernel_rfl) (by kernel_rfl) (by kernel_rfl) (by kernel_rfl) ?_
            intro b79 w80 hS81
            obtain ⟨v83, hv84, hp85⟩ := bind_some' hp72
            have J94 : ∀ (t86 : List api_Final) (t91 : api_Final) (he96 : (t86, t91) = v83) (l95 : List Value) (A87 : Option Addr) (c88 : Nat) (w92 : World) (hS93 : St w0 Z (xrow A49 c50 24 49 (t48.flatMap enc_api_Final) :: xblk b79 24 (enc_api_Final t91) :: fs) w92) (hs90 : SlZ (flat enc_api_Final) 49 Z A87 c88 t86), Runs Try.prog 46 [.code (cd46 [1, 1, 1, 0, 0, 0, 1, 0, 1, 1, 1, 1]), .inBlock 1, .inLoop (cd46 [1, 1, 1, 0, 0, 0]), .inBlock 0, .code (cd46 [1, 1, 1, 1])] (fill [some (.slice A87 t86.length c88), some (.slice A44 t43.length c45), some (.func (.func 47) #[] #[]), none, none, none, none, none, some (.slice A49 t48.length c50), some (.int .i64 t73), some (.pointer (some ⟨b79, 0, none⟩)), none, none, none, none, none, none, none, none, none, none, none, none, none, none, none, none, none, none, none, none, none, none, none, none, none, none, none, none, none, none, none, none, none, none, none, none, none, none, none, none, none, none, none, none, none, none, none, none, none, none, none, none, none, none, none, none] l95) w92 R := by
              intro t86 t91 he96 l95 A87 c88 w92 hS93 hs90
              subst he96
              try dsimp only at hp85
              obtain ⟨v97, hv98, hp99⟩ := bind_some' hp85
              have J108 : ∀ (t100 : List api_Final) (t105 : api_Final) (he110 : (t100, t105) = v97) (l109 : List Value) (A101 : Option Addr) (c102 : Nat) (w106 : World) (hS107 : St w0 Z (xrow A49 c50 24 49 (t48.flatMap enc_api_Final) :: xblk b79 24 (enc_api_Final t105) :: fs) w106) (hs104 : SlZ (flat enc_api_Final) 49 Z A101 c102 t100), Runs Try.prog 46 [.code (cd46 [1, 1, 1, 0, 0, 0, 1, 0, 1, 1, 1, 1, 1]), .inBlock 1, .inLoop (cd46 [1, 1, 1, 0, 0, 0]), .inBlock 0, .code (cd46 [1, 1, 1, 1])] (fill [some (.slice A87 t86.length c88), some (.slice A101 t100.length c102), some (.func (.func 47) #[] #[]), none, none, none, none, none, some (.slice A49 t48.length c50), some (.int .i64 t73), some (.pointer (some ⟨b79, 0, none⟩)), none, none, none, none, none, none, none, none, none, none, none, none, none, none, none, none, none, none, none, none, none, none, none, none, none, none, none, none, none, none, none, none, none, none, none, none, none, none, none, none, none, none, none, none, none, none, none, none, none, none, none, none, none, none, none, none] l109) w106 R := by
                intro t100 t105 he110 l109 A101 c102 w106 hS107 hs104
                subst he110
                try dsimp only at hp99
                refine sx_split 5 (todo' := [.inRegion (opsOf (cd46 [1, 1, 1, 0, 0, 0, 1, 0, 1, 1, 1, 1, 1, 0])) [3, 4, 5], .code (cd46 [1, 1, 1, 0, 0, 0, 1, 0, 1, 1, 1, 1, 1, 1]), .inBlock 1, .inLoop (cd46 [1, 1, 1, 0, 0, 0]), .inBlock 0, .code (cd46 [1, 1, 1, 1])]) (us := [(56, .func (.func 47) #[] #[]), (57, .int .i64 t73)]) (d := 58) (t := (decide (t73 ≤ 0))) (by kernel_rfl) (fun h111 => ?_) (fun h112 => ?_)
                · skip
                  have hp113 := ite_t hp99 h111
                  refine sx_split 2 (todo' := [.inRegion (opsOf (cd46 [1, 1, 1, 0, 0, 0, 1, 0, 1, 1, 1, 1, 1, 0])) [5], .code (cd46 [1, 1, 1, 0, 0, 0, 1, 0, 1, 1, 1, 1, 1, 1]), .inBlock 1, .inLoop (cd46 [1, 1, 1, 0, 0, 0]), .inBlock 0, .code (cd46 [1, 1, 1, 1])]) (us := [(59, .int .i64 t73)]) (d := 60) (t := (decide (t73 ≥ 0))) (by kernel_rfl) (fun h114 => ?_) (fun h115 => ?_)
                  · skip
                    have hp116 := ite_t hp113 h114
                    obtain ⟨t117, hr118, hp119⟩ := bind_some' hp116
                    refine r_call1 (c := (cd46 [1, 1, 1, 0, 0, 0, 1, 0, 1, 1, 1, 1, 1, 0])) (i := 5) (d := (some 61)) (g := 47) (args := #[.bool true, .bool true]) (by kernel_rfl) (by kernel_rfl) (by kernel_rfl) (by kernel_rfl) (state_Union_1.ok true true hS107 hr118) ?_
                    rintro _ w120 ⟨rfl, hS121⟩
                    refine ⟨.bool t117, rfl, ?_⟩
                    refine sx_run 1 (todo' := [.code (cd46 [1, 1, 1, 0, 0, 0, 1, 0, 1, 1, 1, 1, 1, 1]), .inBlock 1, .inLoop (cd46 [1, 1, 1, 0, 0, 0]), .inBlock 0, .code (cd46 [1, 1, 1, 1])]) (us := []) (by kernel_rfl) ?_
                    cases t117
                    · skip
                      have hp122 := ite_f hp119 rfl
                      refine sx_run 3 (todo' := [.inLoop (cd46 [1, 1, 1, 0, 0, 0]), .inBlock 0, .code (cd46 [1, 1, 1, 1])]) (us := []) (by kernel_rfl) ?_
                      have hS123 := hS121.pick1
                      have hS124 := hS123.drop
                      refine sx_run 1 (todo' := [.code (cd46 [1, 1, 1, 0, 0, 0]), .inLoop (cd46 [1, 1, 1, 0, 0, 0]), .inBlock 0, .code (cd46 [1, 1, 1, 1])]) (us := []) (by kernel_rfl) ?_
                      refine Runs.fill (m := [some (.slice A87 t86.length c88), some (.slice A101 t100.length c102), some (.func (.func 47) #[] #[]), none, none, none, none, none, some (.slice A49 t48.length c50), none, none, none, none, none, none, none, none, none, none, none, none, none, none, none, none, none, none, none, none, none, none, none, none, none, none, none, none, none, none, none, none, none, none, none, none, none, none, none, none, none, none, none, none, none, none, none, none, none, none, none, none, none, none, none, none, none, none]) (by kernel_rfl) ?_
                      exact ih58 t86 t100 t48 _ hp122 he56 _ A87 c88 A101 c102 A49 c50 _ hS124 hs90 hs104
                    · skip
                      have hp125 := ite_t hp119 rfl
                      refine sx_run 3 (todo' := [.inRegion (opsOf (cd46 [1, 1, 1, 0, 0, 0, 1, 0, 1, 1, 1, 1, 1, 1, 0])) [1, 2, 3, 4], .inBlock 1, .inLoop (cd46 [1, 1, 1, 0, 0, 0]), .inBlock 0, .code (cd46 [1, 1, 1, 1])]) (us := [(62, .slice A49 t48.length c50)]) (by kernel_rfl) ?_
                      refine r_load (c := (cd46 [1, 1, 1, 0, 0, 0, 1, 0, 1, 1, 1, 1, 1, 1, 0])) (i := 1) (d := (some 63)) (ty := 24) (t := 24) (x := (.tmp 10)) (p := ⟨b79, 0, none⟩) (v := .agg (enc_api_Final t105).toArray) (by kernel_rfl) (by kernel_rfl) (by kernel_rfl) (loads_agg (hS121.blk 1 rfl) (by kernel_rfl) (lenK (len_api_Final _) (by kernel_rfl))) ?_
                      refine r_lit (c := (cd46 [1, 1, 1, 0, 0, 0, 1, 0, 1, 1, 1, 1, 1, 1, 0])) (i := 2) (d := (some 64)) (ty := 36) (t := 36) (e := 24) (sz := 49) (n := 1) (parts := #[(0, (.tmp 63))]) (vs := [(0, .agg (enc_api_Final t105).toArray)]) (z := zeroOf Try.prog 24) (cs' := ([t105] : List api_Final).flatMap enc_api_Final) hS121 (by kernel_rfl) (by kernel_rfl) (by kernel_rfl) (by kernel_rfl) (by kernel_rfl) (by decide) (by decide) (by kernel_rfl) rfl (Parts.cons (c := enc_api_Final t105) (by kernel_rfl) (len_api_Final _) Parts.nil) rfl ?_
                      intro b127 w128 hS129
                      have hS130 := hS129.pick1
                      obtain ⟨g131, hp132⟩ := ite_some hp125
                      refine r_append (c := (cd46 [1, 1, 1, 0, 0, 0, 1, 0, 1, 1, 1, 1, 1, 1, 0])) (i := 3) (d := (some 65)) (ty := 36) (enc := enc_api_Final) (e := 24) (u := 24) (t := 36) (t2 := 36) (sz := 49) (cp := c50) (A := A49) (bytes := 392) (xs := t48) (ys := ([t105] : List api_Final)) (s := (.tmp 62)) (x := (.tmp 64)) (xv := .slice (some ⟨b127, 0, none⟩) ([t105] : List api_Final).length 1) (info := infoOf Try.prog 24) (z := zeroOf Try.prog 24) (ycs := ([t105] : List api_Final).flatMap enc_api_Final) hS130 (by kernel_rfl) (by kernel_rfl) (by kernel_rfl) (by kernel_rfl) (by kernel_rfl) (.inl (by kernel_rfl)) (by kernel_rfl) (by kernel_rfl) (by kernel_rfl) (by kernel_rfl) (by kernel_rfl) (by omega) len_api_Final one_api_Final (src_row (hS130.row 1 rfl) (by omega) len_api_Final) rfl g131 (by omega) ?_
                      intro A133 c134 w135 hS136
                      refine sx_run 3 (todo' := [.inLoop (cd46 [1, 1, 1, 0, 0, 0]), .inBlock 0, .code (cd46 [1, 1, 1, 1])]) (us := [(8, .slice A133 (t48 ++ ([t105] : List api_Final)).length c134)]) (by kernel_rfl) ?_
                      have hS138 := hS136.pick1
                      have hS139 := hS138.drop
                      have hS140 := hS139.pick1
                      have hS141 := hS140.drop
                      refine sx_run 1 (todo' := [.code (cd46 [1, 1, 1, 0, 0, 0]), .inLoop (cd46 [1, 1, 1, 0, 0, 0]), .inBlock 0, .code (cd46 [1, 1, 1, 1])]) (us := []) (by kernel_rfl) ?_
                      refine Runs.fill (m := [some (.slice A87 t86.length c88), some (.slice A101 t100.length c102), some (.func (.func 47) #[] #[]), none, none, none, none, none, some (.slice A133 (t48 ++ ([t105] : List api_Final)).length c134), none, none, none, none, none, none, none, none, none, none, none, none, none, none, none, none, none, none, none, none, none, none, none, none, none, none, none, none, none, none, none, none, none, none, none, none, none, none, none, none, none, none, none, none, none, none, none, none, none, none, none, none, none, none, none, none, none, none]) (by kernel_rfl) ?_
                      exact ih58 t86 t100 (t48 ++ ([t105] : List api_Final)) _ hp132 he56 _ A87 c88 A101 c102 A133 c134 _ hS141 hs90 hs104
                  · skip
                    have hp142 := ite_f hp113 h115
                    obtain ⟨t143, hr144, hp145⟩ := bind_some' hp142
                    refine r_call1 (c := (cd46 [1, 1, 1, 0, 0, 0, 1, 0, 1, 1, 1, 1, 1, 0])) (i := 5) (d := (some 61)) (g := 47) (args := #[.bool true, .bool false]) (by kernel_rfl) (by kernel_rfl) (by kernel_rfl) (by kernel_rfl) (state_Union_1.ok true false hS107 hr144) ?_
                    rintro _ w146 ⟨rfl, hS147⟩
                    refine ⟨.bool t143, rfl, ?_⟩
                    refine sx_run 1 (todo' := [.code (cd46 [1, 1, 1, 0, 0, 0, 1, 0, 1, 1, 1, 1, 1, 1]), .inBlock 1, .inLoop (cd46 [1, 1, 1, 0, 0, 0]), .inBlock 0, .code (cd46 [1, 1, 1, 1])]) (us := []) (by kernel_rfl) ?_
                    cases t143
                    · skip
                      have hp148 := ite_f hp145 rfl
                      refine sx_run 3 (todo' := [.inLoop (cd46 [1, 1, 1, 0, 0, 0]), .inBlock 0, .code (cd46 [1, 1, 1, 1])]) (us := []) (by kernel_rfl) ?_
                      have hS149 := hS147.pick1
                      have hS150 := hS149.drop
                      refine sx_run 1 (todo' := [.code (cd46 [1, 1, 1, 0, 0, 0]), .inLoop (cd46 [1, 1, 1, 0, 0, 0]), .inBlock 0, .code (cd46 [1, 1, 1, 1])]) (us := []) (by kernel_rfl) ?_
                      refine Runs.fill (m := [some (.slice A87 t86.length c88), some (.slice A101 t100.length c102), some (.func (.func 47) #[] #[]), none, none, none, none, none, some (.slice A49 t48.length c50), none, none, none, none, none, none, none, none, none, none, none, none, none, none, none, none, none, none, none, none, none, none, none, none, none, none, none, none, none, none, none, none, none, none, none, none, none, none, none, none, none, none, none, none, none, none, none, none, none, none, none, none, none, none, none, none, none, none]) (by kernel_rfl) ?_
                      exact ih58 t86 t100 t48 _ hp148 he56 _ A87 c88 A101 c102 A49 c50 _ hS150 hs90 hs104
                    · skip
                      have hp151 := ite_t hp145 rfl
                      refine sx_run 3 (todo' := [.inRegion (opsOf (cd46 [1, 1, 1, 0, 0, 0, 1, 0, 1, 1, 1, 1, 1, 1, 0])) [1, 2, 3, 4], .inBlock 1, .inLoop (cd46 [1, 1, 1, 0, 0, 0]), .inBlock 0, .code (cd46 [1, 1, 1, 1])]) (us := [(62, .slice A49 t48.length c50)]) (by kernel_rfl) ?_
                      refine r_load (c := (cd46 [1, 1, 1, 0, 0, 0, 1, 0, 1, 1, 1, 1, 1, 1, 0])) (i := 1) (d := (some 63)) (ty := 24) (t := 24) (x := (.tmp 10)) (p := ⟨b79, 0, none⟩) (v := .agg (enc_api_Final t105).toArray) (by kernel_rfl) (by kernel_rfl) (by kernel_rfl) (loads_agg (hS147.blk 1 rfl) (by kernel_rfl) (lenK (len_api_Final _) (by kernel_rfl))) ?_
                      refine r_lit (c := (cd46 [1, 1, 1, 0, 0, 0, 1, 0, 1, 1, 1, 1, 1, 1, 0])) (i := 2) (d := (some 64)) (ty := 36) (t := 36) (e := 24) (sz := 49) (n := 1) (parts := #[(0, (.tmp 63))]) (vs := [(0, .agg (enc_api_Final t105).toArray)]) (z := zeroOf Try.prog 24) (cs' := ([t105] : List api_Final).flatMap enc_api_Final) hS147 (by kernel_rfl) (by kernel_rfl) (by kernel_rfl) (by kernel_rfl) (by kernel_rfl) (by decide) (by decide) (by kernel_rfl) rfl (Parts.cons (c := enc_api_Final t105) (by kernel_rfl) (len_api_Final _) Parts.nil) rfl ?_
                      intro b153 w154 hS155
                      have hS156 := hS155.pick1
                      obtain ⟨g157, hp158⟩ := ite_some hp151
                      refine r_append (c := (cd46 [1, 1, 1, 0, 0, 0, 1, 0, 1, 1, 1, 1, 1, 1, 0])) (i := 3) (d := (some 65)) (ty := 36) (enc := enc_api_Final) (e := 24) (u := 24) (t := 36) (t2 := 36) (sz := 49) (cp := c50) (A := A49) (bytes := 392) (xs := t48) (ys := ([t105] : List api_Final)) (s := (.tmp 62)) (x := (.tmp 64)) (xv := .slice (some ⟨b153, 0, none⟩) ([t105] : List api_Final).length 1) (info := infoOf Try.prog 24) (z := zeroOf Try.prog 24) (ycs := ([t105] : List api_Final).flatMap enc_api_Final) hS156 (by kernel_rfl) (by kernel_rfl) (by kernel_rfl) (by kernel_rfl) (by kernel_rfl) (.inl (by kernel_rfl)) (by kernel_rfl) (by kernel_rfl) (by kernel_rfl) (by kernel_rfl) (by kernel_rfl) (by omega) len_api_Final one_api_Final (src_row (hS156.row 1 rfl) (by omega) len_api_Final) rfl g157 (by omega) ?_
                      intro A159 c160 w161 hS162
                      refine sx_run 3 (todo' := [.inLoop (cd46 [1, 1, 1, 0, 0, 0]), .inBlock 0, .code (cd46 [1, 1, 1, 1])]) (us := [(8, .slice A159 (t48 ++ ([t105] : List api_Final)).length c160)]) (by kernel_rfl) ?_
                      have hS164 := hS162.pick1
                      have hS165 := hS164.drop
                      have hS166 := hS165.pick1
                      have hS167 := hS166.drop
                      refine sx_run 1 (todo' := [.code (cd46 [1, 1, 1, 0, 0, 0]), .inLoop (cd46 [1, 1, 1, 0, 0, 0]), .inBlock 0, .code (cd46 [1, 1, 1, 1])]) (us := []) (by kernel_rfl) ?_
                      refine Runs.fill (m := [some (.slice A87 t86.length c88), some (.slice A101 t100.length c102), some (.func (.func 47) #[] #[]), none, none, none, none, none, some (.slice A159 (t48 ++ ([t105] : List api_Final)).length c160), none, none, none, none, none, none, none, none, none, none, none, none, none, none, none, none, none, none, none, none, none, none, none, none, none, none, none, none, none, none, none, none, none, none, none, none, none, none, none, none, none, none, none, none, none, none, none, none, none, none, none, none, none, none, none, none, none, none]) (by kernel_rfl) ?_
                      exact ih58 t86 t100 (t48 ++ ([t105] : List api_Final)) _ hp158 he56 _ A87 c88 A101 c102 A159 c160 _ hS167 hs90 hs104
                · skip
                  have hp168 := ite_f hp99 h112
                  refine sx_split 2 (todo' := [.inRegion (opsOf (cd46 [1, 1, 1, 0, 0, 0, 1, 0, 1, 1, 1, 1, 1, 0])) [5], .code (cd46 [1, 1, 1, 0, 0, 0, 1, 0, 1, 1, 1, 1, 1, 1]), .inBlock 1, .inLoop (cd46 [1, 1, 1, 0, 0, 0]), .inBlock 0, .code (cd46 [1, 1, 1, 1])]) (us := [(59, .int .i64 t73)]) (d := 60) (t := (decide (t73 ≥ 0))) (by kernel_rfl) (fun h169 => ?_) (fun h170 => ?_)
                  · skip
                    have hp171 := ite_t hp168 h169
                    obtain ⟨t172, hr173, hp174⟩ := bind_some' hp171
                    refine r_call1 (c := (cd46 [1, 1, 1, 0, 0, 0, 1, 0, 1, 1, 1, 1, 1, 0])) (i := 5) (d := (some 61)) (g := 47) (args := #[.bool false, .bool true]) (by kernel_rfl) (by kernel_rfl) (by kernel_rfl) (by kernel_rfl) (state_Union_1.ok false true hS107 hr173) ?_
                    rintro _ w175 ⟨rfl, hS176⟩
                    refine ⟨.bool t172, rfl, ?_⟩
                    refine sx_run 1 (todo' := [.code (cd46 [1, 1, 1, 0, 0, 0, 1, 0, 1, 1, 1, 1, 1, 1]), .inBlock 1, .inLoop (cd46 [1, 1, 1, 0, 0, 0]), .inBlock 0, .code (cd46 [1, 1, 1, 1])]) (us := []) (by kernel_rfl) ?_
                    cases t172
                    · skip
                      have hp177 := ite_f hp174 rfl
                      refine sx_run 3 (todo' := [.inLoop (cd46 [1, 1, 1, 0, 0, 0]), .inBlock 0, .code (cd46 [1, 1, 1, 1])]) (us := []) (by kernel_rfl) ?_
                      have hS178 := hS176.pick1
                      have hS179 := hS178.drop
                      refine sx_run 1 (todo' := [.code (cd46 [1, 1, 1, 0, 0, 0]), .inLoop (cd46 [1, 1, 1, 0, 0, 0]), .inBlock 0, .code (cd46 [1, 1, 1, 1])]) (us := []) (by kernel_rfl) ?_
                      refine Runs.fill (m := [some (.slice A87 t86.length c88), some (.slice A101 t100.length c102), some (.func (.func 47) #[] #[]), none, none, none, none, none, some (.slice A49 t48.length c50), none, none, none, none, none, none, none, none, none, none, none, none, none, none, none, none, none, none, none, none, none, none, none, none, none, none, none, none, none, none, none, none, none, none, none, none, none, none, none, none, none, none, none, none, none, none, none, none, none, none, none, none, none, none, none, none, none, none]) (by kernel_rfl) ?_
                      exact ih58 t86 t100 t48 _ hp177 he56 _ A87 c88 A101 c102 A49 c50 _ hS179 hs90 hs104
                    · skip
                      have hp180 := ite_t hp174 rfl
                      refine sx_run 3 (todo' := [.inRegion (opsOf (cd46 [1, 1, 1, 0, 0, 0, 1, 0, 1, 1, 1, 1, 1, 1, 0])) [1, 2, 3, 4], .inBlock 1, .inLoop (cd46 [1, 1, 1, 0, 0, 0]), .inBlock 0, .code (cd46 [1, 1, 1, 1])]) (us := [(62, .slice A49 t48.length c50)]) (by kernel_rfl) ?_
                      refine r_load (c := (cd46 [1, 1, 1, 0, 0, 0, 1, 0, 1, 1, 1, 1, 1, 1, 0])) (i := 1) (d := (some 63)) (ty := 24) (t := 24) (x := (.tmp 10)) (p := ⟨b79, 0, none⟩) (v := .agg (enc_api_Final t105).toArray) (by kernel_rfl) (by kernel_rfl) (by kernel_rfl) (loads_agg (hS176.blk 1 rfl) (by kernel_rfl) (lenK (len_api_Final _) (by kernel_rfl))) ?_
                      refine r_lit (c := (cd46 [1, 1, 1, 0, 0, 0, 1, 0, 1, 1, 1, 1, 1, 1, 0])) (i := 2) (d := (some 64)) (ty := 36) (t := 36) (e := 24) (sz := 49) (n := 1) (parts := #[(0, (.tmp 63))]) (vs := [(0, .agg (enc_api_Final t105).toArray)]) (z := zeroOf Try.prog 24) (cs' := ([t105] : List api_Final).flatMap enc_api_Final) hS176 (by kernel_rfl) (by kernel_rfl) (by kernel_rfl) (by kernel_rfl) (by kernel_rfl) (by decide) (by decide) (by kernel_rfl) rfl (Parts.cons (c := enc_api_Final t105) (by kernel_rfl) (len_api_Final _) Parts.nil) rfl ?_
                      intro b182 w183 hS184
                      have hS185 := hS184.pick1
                      obtain ⟨g186, hp187⟩ := ite_some hp180
                      refine r_append (c := (cd46 [1, 1, 1, 0, 0, 0, 1, 0, 1, 1, 1, 1, 1, 1, 0])) (i := 3) (d := (some 65)) (ty := 36) (enc := enc_api_Final) (e := 24) (u := 24) (t := 36) (t2 := 36) (sz := 49) (cp := c50) (A := A49) (bytes := 392) (xs := t48) (ys := ([t105] : List api_Final)) (s := (.tmp 62)) (x := (.tmp 64)) (xv := .slice (some ⟨b182, 0, none⟩) ([t105] : List api_Final).length 1) (info := infoOf Try.prog 24) (z := zeroOf Try.prog 24) (ycs := ([t105] : List api_Final).flatMap enc_api_Final) hS185 (by kernel_rfl) (by kernel_rfl) (by kernel_rfl) (by kernel_rfl) (by kernel_rfl) (.inl (by kernel_rfl)) (by kernel_rfl) (by kernel_rfl) (by kernel_rfl) (by kernel_rfl) (by kernel_rfl) (by omega) len_api_Final one_api_Final (src_row (hS185.row 1 rfl) (by omega) len_api_Final) rfl g186 (by omega) ?_
                      intro A188 c189 w190 hS191
                      refine sx_run 3 (todo' := [.inLoop (cd46 [1, 1, 1, 0, 0, 0]), .inBlock 0, .code (cd46 [1, 1, 1, 1])]) (us := [(8, .slice A188 (t48 ++ ([t105] : List api_Final)).length c189)]) (by kernel_rfl) ?_
                      have hS193 := hS191.pick1
                      have hS194 := hS193.drop
                      have hS195 := hS194.pick1
                      have hS196 := hS195.drop
                      refine sx_run 1 (todo' := [.code (cd46 [1, 1, 1, 0, 0, 0]), .inLoop (cd46 [1, 1, 1, 0, 0, 0]), .inBlock 0, .code (cd46 [1, 1, 1, 1])]) (us := []) (by kernel_rfl) ?_
                      refine Runs.fill (m := [some (.slice A87 t86.length c88), some (.slice A101 t100.length c102), some (.func (.func 47) #[] #[]), none, none, none, none, none, some (.slice A188 (t48 ++ ([t105] : List api_Final)).length c189), none, none, none, none, none, none, none, none, none, none, none, none, none, none, none, none, none, none, none, none, none, none, none, none, none, none, none, none, none, none, none, none, none, none, none, none, none, none, none, none, none, none, none, none, none, none, none, none, none, none, none, none, none, none, none, none, none, none]) (by kernel_rfl) ?_
                      exact ih58 t86 t100 (t48 ++ ([t105] : List api_Final)) _ hp187 he56 _ A87 c88 A101 c102 A188 c189 _ hS196 hs90 hs104
                  · skip
                    have hp197 := ite_f hp168 h170
                    obtain ⟨t198, hr199, hp200⟩ := bind_some' hp197
                    refine r_call1 (c := (cd46 [1, 1, 1, 0, 0, 0, 1, 0, 1, 1, 1, 1, 1, 0])) (i := 5) (d := (some 61)) (g := 47) (args := #[.bool false, .bool false]) (by kernel_rfl) (by kernel_rfl) (by kernel_rfl) (by kernel_rfl) (state_Union_1.ok false false hS107 hr199) ?_
                    rintro _ w201 ⟨rfl, hS202⟩
                    refine ⟨.bool t198, rfl, ?_⟩
                    refine sx_run 1 (todo' := [.code (cd46 [1, 1, 1, 0, 0, 0, 1, 0, 1, 1, 1, 1, 1, 1]), .inBlock 1, .inLoop (cd46 [1, 1, 1, 0, 0, 0]), .inBlock 0, .code (cd46 [1, 1, 1, 1])]) (us := []) (by kernel_rfl) ?_
                    cases t198
                    · skip
                      have hp203 := ite_f hp200 rfl
                      refine sx_run 3 (todo' := [.inLoop (cd46 [1, 1, 1, 0, 0, 0]), .inBlock 0, .code (cd46 [1, 1, 1, 1])]) (us := []) (by kernel_rfl) ?_
                      have hS204 := hS202.pick1
                      have hS205 := hS204.drop
                      refine sx_run 1 (todo' := [.code (cd46 [1, 1, 1, 0, 0, 0]), .inLoop (cd46 [1, 1, 1, 0, 0, 0]), .inBlock 0, .code (cd46 [1, 1, 1, 1])]) (us := []) (by kernel_rfl) ?_
                      refine Runs.fill (m := [some (.slice A87 t86.length c88), some (.slice A101 t100.length c102), some (.func (.func 47) #[] #[]), none, none, none, none, none, some (.slice A49 t48.length c50), none, none, none, none, none, none, none, none, none, none, none, none, none, none, none, none, none, none, none, none, none, none, none, none, none, none, none, none, none, none, none, none, none, none, none, none, none, none, none, none, none, none, none, none, none, none, none, none, none, none, none, none, none, none, none, none, none, none]) (by kernel_rfl) ?_
                      exact ih58 t86 t100 t48 _ hp203 he56 _ A87 c88 A101 c102 A49 c50 _ hS205 hs90 hs104
                    · skip
                      have hp206 := ite_t hp200 rfl
                      refine sx_run 3 (todo' := [.inRegion (opsOf (cd46 [1, 1, 1, 0, 0, 0, 1, 0, 1, 1, 1, 1, 1, 1, 0])) [1, 2, 3, 4], .inBlock 1, .inLoop (cd46 [1, 1, 1, 0, 0, 0]), .inBlock 0, .code (cd46 [1, 1, 1, 1])]) (us := [(62, .slice A49 t48.length c50)]) (by kernel_rfl) ?_
                      refine r_load (c := (cd46 [1, 1, 1, 0, 0, 0, 1, 0, 1, 1, 1, 1, 1, 1, 0])) (i := 1) (d := (some 63)) (ty := 24) (t := 24) (x := (.tmp 10)) (p := ⟨b79, 0, none⟩) (v := .agg (enc_api_Final t105).toArray) (by kernel_rfl) (by kernel_rfl) (by kernel_rfl) (loads_agg (hS202.blk 1 rfl) (by kernel_rfl) (lenK (len_api_Final _) (by kernel_rfl))) ?_
                      refine r_lit (c := (cd46 [1, 1, 1, 0, 0, 0, 1, 0, 1, 1, 1, 1, 1, 1, 0])) (i := 2) (d := (some 64)) (ty := 36) (t := 36) (e := 24) (sz := 49) (n := 1) (parts := #[(0, (.tmp 63))]) (vs := [(0, .agg (enc_api_Final t105).toArray)]) (z := zeroOf Try.prog 24) (cs' := ([t105] : List api_Final).flatMap enc_api_Final) hS202 (by kernel_rfl) (by kernel_rfl) (by kernel_rfl) (by kernel_rfl) (by kernel_rfl) (by decide) (by decide) (by kernel_rfl) rfl (Parts.cons (c := enc_api_Final t105) (by kernel_rfl) (len_api_Final _) Parts.nil) rfl ?_
                      intro b208 w209 hS210
                      have hS211 := hS210.pick1
                      obtain ⟨g212, hp213⟩ := ite_some hp206
                      refine r_append (c := (cd46 [1, 1, 1, 0, 0, 0, 1, 0, 1, 1, 1, 1, 1, 1, 0])) (i := 3) (d := (some 65)) (ty := 36) (enc := enc_api_Final) (e := 24) (u := 24) (t := 36) (t2 := 36) (sz := 49) (cp := c50) (A := A49) (bytes := 392) (xs := t48) (ys := ([t105] : List api_Final)) (s := (.tmp 62)) (x := (.tmp 64)) (xv := .slice (some ⟨b208, 0, none⟩) ([t105] : List api_Final).length 1) (info := infoOf Try.prog 24) (z := zeroOf Try.prog 24) (ycs := ([t105] : List api_Final).flatMap enc_api_Final) hS211 (by kernel_rfl) (by kernel_rfl) (by kernel_rfl) (by kernel_rfl) (by kernel_rfl) (.inl (by kernel_rfl)) (by kernel_rfl) (by kernel_rfl) (by kernel_rfl) (by kernel_rfl) (by kernel_rfl) (by omega) len_api_Final one_api_Final (src_row (hS211.row 1 rfl) (by omega) len_api_Final) rfl g212 (by omega) ?_
                      intro A214 c215 w216 hS217
                      refine sx_run 3 (todo' := [.inLoop (cd46 [1, 1, 1, 0, 0, 0]), .inBlock 0, .code (cd46 [1, 1, 1, 1])]) (us := [(8, .slice A214 (t48 ++ ([t105] : List api_Final)).length c215)]) (by kernel_rfl) ?_
                      have hS219 := hS217.pick1
                      have hS220 := hS219.drop
                      have hS221 := hS220.pick1
                      have hS222 := hS221.drop
                      refine sx_run 1 (todo' := [.code (cd46 [1, 1, 1, 0, 0, 0]), .inLoop (cd46 [1, 1, 1, 0, 0, 0]), .inBlock 0, .code (cd46 [1, 1, 1, 1])]) (us := []) (by kernel_rfl) ?_
                      refine Runs.fill (m := [some (.slice A87 t86.length c88), some (.slice A101 t100.length c102), some (.func (.func 47) #[] #[]), none, none, none, none, none, some (.slice A214 (t48 ++ ([t105] : List api_Final)).length c215), none, none, none, none, none, none, none, none, none, none, none, none, none, none, none, none, none, none, none, none, none, none, none, none, none, none, none, none, none, none, none, none, none, none, none, none, none, none, none, none, none, none, none, none, none, none, none, none, none, none, none, none, none, none, none, none, none, none]) (by kernel_rfl) ?_
                      exact ih58 t86 t100 (t48 ++ ([t105] : List api_Final)) _ hp213 he56 _ A87 c88 A101 c102 A214 c215 _ hS222 hs90 hs104
              refine sx_split 5 (todo' := [.inRegion (opsOf (cd46 [1, 1, 1, 0, 0, 0, 1, 0, 1, 1, 1, 1, 0, 0])) [], .code (cd46 [1, 1, 1, 0, 0, 0, 1, 0, 1, 1, 1, 1, 0, 1]), .code (cd46 [1, 1, 1, 0, 0, 0, 1, 0, 1, 1, 1, 1, 1]), .inBlock 1, .inLoop (cd46 [1, 1, 1, 0, 0, 0]), .inBlock 0, .code (cd46 [1, 1, 1, 1])]) (us := [(49, .int .i64 t73)]) (d := 50) (t := (decide (t73 ≥ 0))) (by kernel_rfl) (fun h223 => ?_) (fun h224 => ?_)
              · skip
                have hp225 := ite_t hv98 h223
                refine sx_run 2 (todo' := [.code (cd46 [1, 1, 1, 0, 0, 0, 1, 0, 1, 1, 1, 1, 0, 1, 0]), .code (cd46 [1, 1, 1, 0, 0, 0, 1, 0, 1, 1, 1, 1, 1]), .inBlock 1, .inLoop (cd46 [1, 1, 1, 0, 0, 0]), .inBlock 0, .code (cd46 [1, 1, 1, 1])]) (us := []) (by kernel_rfl) ?_
                obtain ⟨g226, hp227⟩ := ite_some hp225
                obtain ⟨b228, p229, hA230, hc231⟩ := hs47.atF g226.1 g226.2
                obtain ⟨g232, hp233⟩ := ite_some hp227
                obtain ⟨A236, c237, hr234, hs235⟩ := cutSlZ hs47 ((1 : Int).toNat) (t43.length) (by omega) (by omega)
                have hS239 := hS93.pick1
                refine r_drawnF (X := Unit) (c := (cd46 [1, 1, 1, 0, 0, 0, 1, 0, 1, 1, 1, 1, 0, 1, 0])) (id := 14) (C0 := fun w' => St w0 Z (xblk b79 24 (enc_api_Final t91) :: xrow A49 c50 24 49 (t48.flatMap enc_api_Final) :: fs) w') (C1 := fun _ w' => St w0 Z (xblk b79 24 (enc_api_Final (gt t43 (0 : Int))) :: xrow A49 c50 24 49 (t48.flatMap enc_api_Final) :: fs) w') (vs := [.slice A44 t43.length c45, .pointer (some ⟨b228, p229 + (0 : Int).toNat * 49, none⟩), .agg (enc_api_Final (gt t43 (0 : Int))).toArray, .slice A44 t43.length c45, .slice A236 ((t43.take t43.length).drop ((1 : Int).toNat)).length c237, undef, undef]) (vx := fun _ => [.slice A44 t43.length c45, .pointer (some ⟨b228, p229 + (0 : Int).toNat * 49, none⟩), .agg (enc_api_Final (gt t43 (0 : Int))).toArray, .slice A44 t43.length c45, .slice A236 ((t43.take t43.length).drop ((1 : Int).toNat)).length c237, undef, .slice A236 ((t43.take t43.length).drop ((1 : Int).toNat)).length c237]) 5 7 [5, 6] [6] (by kernel_rfl) (by kernel_rfl) (by kernel_rfl) (by decide) (by kernel_rfl) (by kernel_rfl) (by kernel_rfl) rfl ?_ (fun _ => ⟨rfl, rfl⟩) hS239.drew ?_ ?_ ?_ ?_ ?_
                · intro _u i hi hd
                  match i, hi, hd with
                  | 0, _, _ => exact rfl
                  | 1, _, _ => exact rfl
                  | 2, _, _ => exact rfl
                  | 3, _, _ => exact rfl
                  | 4, _, _ => exact rfl
                  | 5, _, hd => exact absurd hd (by decide)
                  | 6, _, hd => exact absurd hd (by decide)
                  | i + 7, hi, _ => exact absurd hi (by omega)
                · intro i hi hd w hC
                  match i, hi, hd with
                  | 0, _, _ => exact does_pure (v := .slice A44 t43.length c45) (by kernel_rfl) rfl hC
                  | 1, _, _ => exact does_run (x_indexAddr (t := 36) (e := 24) (x := (.tmp 51)) (y := (.const (.int .i64 0))) (b := b228) (o' := p229) (n := t43.length) (cp := c45) (sz := 49) (kk := .i64) (j := (0 : Int)) (slv (by kernel_rfl) hA230) (by kernel_rfl) (by kernel_rfl) (by kernel_rfl) g226.1 g226.2 (by kernel_rfl)) rfl hC
                  | 2, _, _ => exact does_run (x_load (t := 24) (x := (.tmp 52)) (p := ⟨b228, p229 + (0 : Int).toNat * 49, none⟩) (v := .agg (enc_api_Final (gt t43 (0 : Int))).toArray) (by kernel_rfl) (loads_agg (hc231.cells hC) (by kernel_rfl) (lenK (len_api_Final _) (by kernel_rfl))) (by kernel_rfl)) rfl hC
                  | 3, _, _ => exact does_pure (v := .slice A44 t43.length c45) (by kernel_rfl) rfl hC
                  | 4, _, _ => exact does_run (x_cutSl_sn (t := 36) (x := (.tmp 54)) (lo := (.const (.int .i64 1))) (e := 24) (sz := 49) (A := A44) (n := t43.length) (c := c45) (k := .i64) (by kernel_rfl) (by kernel_rfl) (by kernel_rfl) (by kernel_rfl) g232 hr234 (by kernel_rfl)) rfl hC
                  | 5, _, hd => exact absurd hd (by decide)
                  | 6, _, hd => exact absurd hd (by decide)
                  | i + 7, hi, _ => exact absurd hi (by omega)
                · intro i hi hd _u w hC
                  match i, hi, hd with
                  | 0, _, _ => exact does_pure (v := .slice A44 t43.length c45) (by kernel_rfl) rfl hC
                  | 1, _, _ => exact does_run (x_indexAddr (t := 36) (e := 24) (x := (.tmp 51)) (y := (.const (.int .i64 0))) (b := b228) (o' := p229) (n := t43.length) (cp := c45) (sz := 49) (kk := .i64) (j := (0 : Int)) (slv (by kernel_rfl) hA230) (by kernel_rfl) (by kernel_rfl) (by kernel_rfl) g226.1 g226.2 (by kernel_rfl)) rfl hC
                  | 2, _, _ => exact does_run (x_load (t := 24) (x := (.tmp 52)) (p := ⟨b228, p229 + (0 : Int).toNat * 49, none⟩) (v := .agg (enc_api_Final (gt t43 (0 : Int))).toArray) (by kernel_rfl) (loads_agg (hc231.cells hC) (by kernel_rfl) (lenK (len_api_Final _) (by kernel_rfl))) (by kernel_rfl)) rfl hC
                  | 3, _, _ => exact does_pure (v := .slice A44 t43.length c45) (by kernel_rfl) rfl hC
                  | 4, _, _ => exact does_run (x_cutSl_sn (t := 36) (x := (.tmp 54)) (lo := (.const (.int .i64 1))) (e := 24) (sz := 49) (A := A44) (n := t43.length) (c := c45) (k := .i64) (by kernel_rfl) (by kernel_rfl) (by kernel_rfl) (by kernel_rfl) g232 hr234 (by kernel_rfl)) rfl hC
                  | 5, _, hd => exact absurd hd (by decide)
                  | 6, _, hd => exact absurd hd (by decide)
                  | i + 7, hi, _ => exact absurd hi (by omega)
                · intro w hC
                  exact does_store (ux := ()) (t := 24) (x := (.tmp 10)) (y := (.tmp 53)) (b := b79) (o := 0) (e := 24) (cs := enc_api_Final t91) (v := .agg (enc_api_Final (gt t43 (0 : Int))).toArray) (vs := enc_api_Final (gt t43 (0 : Int))) (cs' := enc_api_Final (gt t43 (0 : Int))) hC (by kernel_rfl) (by kernel_rfl) (by kernel_rfl) (by kernel_rfl) (by kernel_rfl) (lenK (len_api_Final _) (by kernel_rfl)) (one_api_Final _) (by simp only [len_api_Final, List.length_cons, List.length_nil, List.length_append]; omega) (over_all ((len_api_Final _).trans (len_api_Final _).symm)) (fun _ h => h)
                · intro i hi hd hne _u w hC
                  match i, hi, hd, hne with
                  | 0, _, hd, _ => exact absurd hd (by decide)
                  | 1, _, hd, _ => exact absurd hd (by decide)
                  | 2, _, hd, _ => exact absurd hd (by decide)
                  | 3, _, hd, _ => exact absurd hd (by decide)
                  | 4, _, hd, _ => exact absurd hd (by decide)
                  | 5, _, _, hne => exact absurd rfl hne
                  | 6, _, _, _ => exact does_pure (v := .slice A236 ((t43.take t43.length).drop ((1 : Int).toNat)).length c237) (by kernel_rfl) rfl hC
                  | i + 7, hi, _, _ => exact absurd hi (by omega)
                intro _u w240 hS241
                have hS242 := hS241.pick1
                refine Runs.fill (m := [some (.slice A87 t86.length c88), some (.slice A236 ((t43.take t43.length).drop ((1 : Int).toNat)).length c237), some (.func (.func 47) #[] #[]), none, none, none, none, none, some (.slice A49 t48.length c50), some (.int .i64 t73), some (.pointer (some ⟨b79, 0, none⟩)), none, none, none, none, none, none, none, none, none, none, none, none, none, none, none, none, none, none, none, none, none, none, none, none, none, none, none, none, none, none, none, none, none, none, none, none, none, none, none, none, none, none, none, none, none, none, none, none, none, none, none, none, none, none, none, none]) (by kernel_rfl) ?_
                exact J108 ((t43.take t43.length).drop ((1 : Int).toNat)) (gt t43 (0 : Int)) (Option.some.inj hp233) _ A236 c237 _ hS242 hs235
              · skip
                have hp243 := ite_f hv98 h224
                refine sx_run 3 (todo' := [.code (cd46 [1, 1, 1, 0, 0, 0, 1, 0, 1, 1, 1, 1, 1]), .inBlock 1, .inLoop (cd46 [1, 1, 1, 0, 0, 0]), .inBlock 0, .code (cd46 [1, 1, 1, 1])]) (us := []) (by kernel_rfl) ?_
                refine Runs.fill (m := [some (.slice A87 t86.length c88), some (.slice A44 t43.length c45), some (.func (.func 47) #[] #[]), none, none, none, none, none, some (.slice A49 t48.length c50), some (.int .i64 t73), some (.pointer (some ⟨b79, 0, none⟩)), none, none, none, none, none, none, none, none, none, none, none, none, none, none, none, none, none, none, none, none, none, none, none, none, none, none, none, none, none, none, none, none, none, none, none, none, none, none, none, none, none, none, none, none, none, none, none, none, none, none, none, none, none, none, none, none]) (by kernel_rfl) ?_
                exact J108 t43 t91 (Option.some.inj hp243) _ A44 c45 _ hS93 hs47
            refine sx_split 6 (todo' := [.inRegion (opsOf (cd46 [1, 1, 1, 0, 0, 0, 1, 0, 1, 1, 1, 0, 0])) [], .code (cd46 [1, 1, 1, 0, 0, 0, 1, 0, 1, 1, 1, 0, 1]), .code (cd46 [1, 1, 1, 0, 0, 0, 1, 0, 1, 1, 1, 1]), .inBlock 1, .inLoop (cd46 [1, 1, 1, 0, 0, 0]), .inBlock 0, .code (cd46 [1, 1, 1, 1])]) (us := [(42, .int .i64 t73)]) (d := 43) (t := (decide (t73 ≤ 0))) (by kernel_rfl) (fun h244 => ?_) (fun h245 => ?_)
            · skip
              have hp246 := ite_t hv84 h244
              refine sx_run 2 (todo' := [.code (cd46 [1, 1, 1, 0, 0, 0, 1, 0, 1, 1, 1, 0, 1, 0]), .code (cd46 [1, 1, 1, 0, 0, 0, 1, 0, 1, 1, 1, 1]), .inBlock 1, .inLoop (cd46 [1, 1, 1, 0, 0, 0]), .inBlock 0, .code (cd46 [1, 1, 1, 1])]) (us := []) (by kernel_rfl) ?_
              obtain ⟨g247, hp248⟩ := ite_some hp246
              obtain ⟨b249, p250, hA251, hc252⟩ := hs42.atF g247.1 g247.2
              obtain ⟨g253, hp254⟩ := ite_some hp248
              obtain ⟨A257, c258, hr255, hs256⟩ := cutSlZ hs42 ((1 : Int).toNat) (t38.length) (by omega) (by omega)
              refine r_drawnF (X := Unit) (c := (cd46 [1, 1, 1, 0, 0, 0, 1, 0, 1, 1, 1, 0, 1, 0])) (id := 12) (C0 := fun w' => St w0 Z (xblk b79 24 (enc_api_Final (⟨0, (Vector.replicate 48 0)⟩ : api_Final)) :: xrow A49 c50 24 49 (t48.flatMap enc_api_Final) :: fs) w') (C1 := fun _ w' => St w0 Z (xblk b79 24 (enc_api_Final (gt t38 (0 : Int))) :: xrow A49 c50 24 49 (t48.flatMap enc_api_Final) :: fs) w') (vs := [.slice A39 t38.length c40, .pointer (some ⟨b249, p250 + (0 : Int).toNat * 49, none⟩), .agg (enc_api_Final (gt t38 (0 : Int))).toArray, .slice A39 t38.length c40, .slice A257 ((t38.take t38.length).drop ((1 : Int).toNat)).length c258, undef, undef]) (vx := fun _ => [.slice A39 t38.length c40, .pointer (some ⟨b249, p250 + (0 : Int).toNat * 49, none⟩), .agg (enc_api_Final (gt t38 (0 : Int))).toArray, .slice A39 t38.length c40, .slice A257 ((t38.take t38.length).drop ((1 : Int).toNat)).length c258, undef, .slice A257 ((t38.take t38.length).drop ((1 : Int).toNat)).length c258]) 5 7 [5, 6] [6] (by kernel_rfl) (by kernel_rfl) (by kernel_rfl) (by decide) (by kernel_rfl) (by kernel_rfl) (by kernel_rfl) rfl ?_ (fun _ => ⟨rfl, rfl⟩) hS81.drew ?_ ?_ ?_ ?_ ?_
              · intro _u i hi hd
                match i, hi, hd with
                | 0, _, _ => exact rfl
                | 1, _, _ => exact rfl
                | 2, _, _ => exact rfl
                | 3, _, _ => exact rfl
                | 4, _, _ => exact rfl
                | 5, _, hd => exact absurd hd (by decide)
                | 6, _, hd => exact absurd hd (by decide)
                | i + 7, hi, _ => exact absurd hi (by omega)
              · intro i hi hd w hC
                match i, hi, hd with
                | 0, _, _ => exact does_pure (v := .slice A39 t38.length c40) (by kernel_rfl) rfl hC
                | 1, _, _ => exact does_run (x_indexAddr (t := 36) (e := 24) (x := (.tmp 44)) (y := (.const (.int .i64 0))) (b := b249) (o' := p250) (n := t38.length) (cp := c40) (sz := 49) (kk := .i64) (j := (0 : Int)) (slv (by kernel_rfl) hA251) (by kernel_rfl) (by kernel_rfl) (by kernel_rfl) g247.1 g247.2 (by kernel_rfl)) rfl hC
                | 2, _, _ => exact does_run (x_load (t := 24) (x := (.tmp 45)) (p := ⟨b249, p250 + (0 : Int).toNat * 49, none⟩) (v := .agg (enc_api_Final (gt t38 (0 : Int))).toArray) (by kernel_rfl) (loads_agg (hc252.cells hC) (by kernel_rfl) (lenK (len_api_Final _) (by kernel_rfl))) (by kernel_rfl)) rfl hC
                | 3, _, _ => exact does_pure (v := .slice A39 t38.length c40) (by kernel_rfl) rfl hC
                | 4, _, _ => exact does_run (x_cutSl_sn (t := 36) (x := (.tmp 47)) (lo := (.const (.int .i64 1))) (e := 24) (sz := 49) (A := A39) (n := t38.length) (c := c40) (k := .i64) (by kernel_rfl) (by kernel_rfl) (by kernel_rfl) (by kernel_rfl) g253 hr255 (by kernel_rfl)) rfl hC
                | 5, _, hd => exact absurd hd (by decide)
                | 6, _, hd => exact absurd hd (by decide)
                | i + 7, hi, _ => exact absurd hi (by omega)
              · intro i hi hd _u w hC
                match i, hi, hd with
                | 0, _, _ => exact does_pure (v := .slice A39 t38.length c40) (by kernel_rfl) rfl hC
                | 1, _, _ => exact does_run (x_indexAddr (t := 36) (e := 24) (x := (.tmp 44)) (y := (.const (.int .i64 0))) (b := b249) (o' := p250) (n := t38.length) (cp := c40) (sz := 49) (kk := .i64) (j := (0 : Int)) (slv (by kernel_rfl) hA251) (by kernel_rfl) (by kernel_rfl) (by kernel_rfl) g247.1 g247.2 (by kernel_rfl)) rfl hC
                | 2, _, _ => exact does_run (x_load (t := 24) (x := (.tmp 45)) (p := ⟨b249, p250 + (0 : Int).toNat * 49, none⟩) (v := .agg (enc_api_Final (gt t38 (0 : Int))).toArray) (by kernel_rfl) (loads_agg (hc252.cells hC) (by kernel_rfl) (lenK (len_api_Final _) (by kernel_rfl))) (by kernel_rfl)) rfl hC
                | 3, _, _ => exact does_pure (v := .slice A39 t38.length c40) (by kernel_rfl) rfl hC
                | 4, _, _ => exact does_run (x_cutSl_sn (t := 36) (x := (.tmp 47)) (lo := (.const (.int .i64 1))) (e := 24) (sz := 49) (A := A39) (n := t38.length) (c := c40) (k := .i64) (by kernel_rfl) (by kernel_rfl) (by kernel_rfl) (by kernel_rfl) g253 hr255 (by kernel_rfl)) rfl hC
                | 5, _, hd => exact absurd hd (by decide)
                | 6, _, hd => exact absurd hd (by decide)
                | i + 7, hi, _ => exact absurd hi (by omega)
              · intro w hC
                exact does_store (ux := ()) (t := 24) (x := (.tmp 10)) (y := (.tmp 46)) (b := b79) (o := 0) (e := 24) (cs := enc_api_Final (⟨0, (Vector.replicate 48 0)⟩ : api_Final)) (v := .agg (enc_api_Final (gt t38 (0 : Int))).toArray) (vs := enc_api_Final (gt t38 (0 : Int))) (cs' := enc_api_Final (gt t38 (0 : Int))) hC (by kernel_rfl) (by kernel_rfl) (by kernel_rfl) (by kernel_rfl) (by kernel_rfl) (lenK (len_api_Final _) (by kernel_rfl)) (one_api_Final _) (by simp only [len_api_Final, List.length_cons, List.length_nil, List.length_append]; omega) (over_all ((len_api_Final _).trans (len_api_Final _).symm)) (fun _ h => h)
              · intro i hi hd hne _u w hC
                match i, hi, hd, hne with
                | 0, _, hd, _ => exact absurd hd (by decide)
                | 1, _, hd, _ => exact absurd hd (by decide)
                | 2, _, hd, _ => exact absurd hd (by decide)
                | 3, _, hd, _ => exact absurd hd (by decide)
                | 4, _, hd, _ => exact absurd hd (by decide)
                | 5, _, _, hne => exact absurd rfl hne
                | 6, _, _, _ => exact does_pure (v := .slice A257 ((t38.take t38.length).drop ((1 : Int).toNat)).length c258) (by kernel_rfl) rfl hC
                | i + 7, hi, _, _ => exact absurd hi (by omega)
              intro _u w260 hS261
              have hS262 := hS261.pick1
              refine Runs.fill (m := [some (.slice A257 ((t38.take t38.length).drop ((1 : Int).toNat)).length c258), some (.slice A44 t43.length c45), some (.func (.func 47) #[] #[]), none, none, none, none, none, some (.slice A49 t48.length c50), some (.int .i64 t73), some (.pointer (some ⟨b79, 0, none⟩)), none, none, none, none, none, none, none, none, none, none, none, none, none, none, none, none, none, none, none, none, none, none, none, none, none, none, none, none, none, none, none, none, none, none, none, none, none, none, none, none, none, none, none, none, none, none, none, none, none, none, none, none, none, none, none, none]) (by kernel_rfl) ?_
              exact J94 ((t38.take t38.length).drop ((1 : Int).toNat)) (gt t38 (0 : Int)) (Option.some.inj hp254) _ A257 c258 _ hS262 hs256
            · skip
              have hp263 := ite_f hv84 h245
              refine sx_run 3 (todo' := [.code (cd46 [1, 1, 1, 0, 0, 0, 1, 0, 1, 1, 1, 1]), .inBlock 1, .inLoop (cd46 [1, 1, 1, 0, 0, 0]), .inBlock 0, .code (cd46 [1, 1, 1, 1])]) (us := []) (by kernel_rfl) ?_
              have hS264 := hS81.pick1
              refine Runs.fill (m := [some (.slice A39 t38.length c40), some (.slice A44 t43.length c45), some (.func (.func 47) #[] #[]), none, none, none, none, none, some (.slice A49 t48.length c50), some (.int .i64 t73), some (.pointer (some ⟨b79, 0, none⟩)), none, none, none, none, none, none, none, none, none, none, none, none, none, none, none, none, none, none, none, none, none, none, none, none, none, none, none, none, none, none, none, none, none, none, none, none, none, none, none, none, none, none, none, none, none, none, none, none, none, none, none, none, none, none, none, none]) (by kernel_rfl) ?_
              exact J94 t38 (⟨0, (Vector.replicate 48 0)⟩ : api_Final) (Option.some.inj hp263) _ A39 c40 _ hS264 hs42
          refine sx_split 12 (todo' := [.inRegion (opsOf (cd46 [1, 1, 1, 0, 0, 0, 1, 0, 1, 0, 0, 0])) [3], .code (cd46 [1, 1, 1, 0, 0, 0, 1, 0, 1, 0, 0, 1]), .inBlock 2, .code (cd46 [1, 1, 1, 0, 0, 0, 1, 0, 1, 1]), .inBlock 1, .inLoop (cd46 [1, 1, 1, 0, 0, 0]), .inBlock 0, .code (cd46 [1, 1, 1, 1])]) (us := [(9, .int .i64 (-1)), (28, .slice A39 t38.length c40), (29, .int .i64 (t38.length : Int))]) (d := 30) (t := ((t38.length : Int) == 0)) (by kernel_rfl) (fun h265 => ?_) (fun h266 => ?_)
          · skip
            have hp267 := ite_t hv71 h265
            refine sx_run 7 (todo' := [.code (cd46 [1, 1, 1, 0, 0, 0, 1, 0, 1, 1]), .inBlock 1, .inLoop (cd46 [1, 1, 1, 0, 0, 0]), .inBlock 0, .code (cd46 [1, 1, 1, 1])]) (us := [(27, .bool true), (9, .int .i64 1)]) (by kernel_rfl) ?_
            refine Runs.fill (m := [some (.slice A39 t38.length c40), some (.slice A44 t43.length c45), some (.func (.func 47) #[] #[]), none, none, none, none, none, some (.slice A49 t48.length c50), some (.int .i64 1), none, none, none, none, none, none, none, none, none, none, none, none, none, none, none, none, none, none, none, none, none, none, none, none, none, none, none, none, none, none, none, none, none, none, none, none, none, none, none, none, none, none, none, none, none, none, none, none, none, none, none, none, none, none, none, none, none]) (by kernel_rfl) ?_
            exact J76 1 (Option.some.inj hp267) _ _ hS65
          · skip
            have hp268 := ite_f hv71 h266
            refine sx_split 8 (todo' := [.inRegion (opsOf (cd46 [1, 1, 1, 0, 0, 0, 1, 0, 1, 0, 0, 1, 1, 0])) [3], .code (cd46 [1, 1, 1, 0, 0, 0, 1, 0, 1, 0, 0, 1, 1, 1]), .inBlock 2, .code (cd46 [1, 1, 1, 0, 0, 0, 1, 0, 1, 1]), .inBlock 1, .inLoop (cd46 [1, 1, 1, 0, 0, 0]), .inBlock 0, .code (cd46 [1, 1, 1, 1])]) (us := [(27, .bool false), (32, .slice A44 t43.length c45), (33, .int .i64 (t43.length : Int))]) (d := 34) (t := (decide ((t43.length : Int) > 0))) (by kernel_rfl) (fun h269 => ?_) (fun h270 => ?_)
            · skip
              have hp271 := ite_t hp268 h269
              refine sx_run 3 (todo' := [.code (cd46 [1, 1, 1, 0, 0, 0, 1, 0, 1, 0, 0, 1, 1, 1, 0]), .inBlock 2, .code (cd46 [1, 1, 1, 0, 0, 0, 1, 0, 1, 1]), .inBlock 1, .inLoop (cd46 [1, 1, 1, 0, 0, 0]), .inBlock 0, .code (cd46 [1, 1, 1, 1])]) (us := [(31, .bool true)]) (by kernel_rfl) ?_
              refine r_quiet hS65 (c := (cd46 [1, 1, 1, 0, 0, 0, 1, 0, 1, 0, 0, 1, 1, 1, 0])) (id := 9) (by kernel_rfl) (by kernel_rfl) (by kernel_rfl) (is := [0, 1, 2, 3, 4, 5, 6, 7]) (by kernel_rfl) ?_
              refine q_run 1 (is' := [1, 2, 3, 4, 5, 6, 7]) (us := [(35, .slice A39 t38.length c40)]) (by kernel_rfl) ?_
              obtain ⟨g272, hp273⟩ := ite_some hp271
              obtain ⟨b274, p275, hA276, hc277⟩ := hs42.atF g272.1 g272.2
              refine q_indexAddr (c := (cd46 [1, 1, 1, 0, 0, 0, 1, 0, 1, 0, 0, 1, 1, 1, 0])) (i := 1) (d := (some 36)) (ty := 0) (t := 36) (e := 24) (n := t38.length) (cp := c40) (sz := 49) (kk := .i64) (x := (.tmp 35)) (y := (.const (.int .i64 0))) (b := b274) (o' := p275) (j := (0 : Int)) (by kernel_rfl) (by kernel_rfl) (slv (by kernel_rfl) hA276) (by kernel_rfl) (by kernel_rfl) (by kernel_rfl) g272.1 g272.2 ?_
              refine q_load (c := (cd46 [1, 1, 1, 0, 0, 0, 1, 0, 1, 0, 0, 1, 1, 1, 0])) (i := 2) (d := (some 37)) (ty := 24) (t := 24) (x := (.tmp 36)) (p := ⟨b274, p275 + (0 : Int).toNat * 49, none⟩) (v := .agg (enc_api_Final (gt t38 (0 : Int))).toArray) (by kernel_rfl) (by kernel_rfl) (by kernel_rfl) (fun w hC => (loads_agg (hc277.cells hC) (by kernel_rfl) (lenK (len_api_Final _) (by kernel_rfl)))) ?_
              refine q_run 1 (is' := [4, 5, 6, 7]) (us := [(38, .slice A44 t43.length c45)]) (by kernel_rfl) ?_
              obtain ⟨g278, hp279⟩ := ite_some hp273
              obtain ⟨b280, p281, hA282, hc283⟩ := hs47.atF g278.1 g278.2
              refine q_indexAddr (c := (cd46 [1, 1, 1, 0, 0, 0, 1, 0, 1, 0, 0, 1, 1, 1, 0])) (i := 4) (d := (some 39)) (ty := 0) (t := 36) (e := 24) (n := t43.length) (cp := c45) (sz := 49) (kk := .i64) (x := (.tmp 38)) (y := (.const (.int .i64 0))) (b := b280) (o' := p281) (j := (0 : Int)) (by kernel_rfl) (by kernel_rfl) (slv (by kernel_rfl) hA282) (by kernel_rfl) (by kernel_rfl) (by kernel_rfl) g278.1 g278.2 ?_
              refine q_load (c := (cd46 [1, 1, 1, 0, 0, 0, 1, 0, 1, 0, 0, 1, 1, 1, 0])) (i := 5) (d := (some 40)) (ty := 24) (t := 24) (x := (.tmp 39)) (p := ⟨b280, p281 + (0 : Int).toNat * 49, none⟩) (v := .agg (enc_api_Final (gt t43 (0 : Int))).toArray) (by kernel_rfl) (by kernel_rfl) (by kernel_rfl) (fun w hC => (loads_agg (hc283.cells hC) (by kernel_rfl) (lenK (len_api_Final _) (by kernel_rfl)))) ?_
              obtain ⟨t284, hr285, hp286⟩ := bind_some' hp279
              refine q_call1 (c := (cd46 [1, 1, 1, 0, 0, 0, 1, 0, 1, 0, 0, 1, 1, 1, 0])) (i := 6) (d := (some 41)) (v := .int .i64 t284) (g := 21) (args := #[.agg (enc_api_Final (gt t38 (0 : Int))).toArray, .agg (enc_api_Final (gt t43 (0 : Int))).toArray]) (by kernel_rfl) (by kernel_rfl) (by kernel_rfl) (by kernel_rfl) (fun w hC => by
                refine (state_Compare.ok (gt t38 (0 : Int)) (gt t43 (0 : Int)) hC hr285).mono ?_
                rintro e w2 ⟨rfl, h2⟩
                exact ⟨rfl, h2⟩) ?_
              refine q_run 1 (is' := []) (us := [(9, .int .i64 t284)]) (by kernel_rfl) ?_
              refine Qs.nil ?_
              intro w287 hS288
              refine sx_run 1 (todo' := [.code (cd46 [1, 1, 1, 0, 0, 0, 1, 0, 1, 1]), .inBlock 1, .inLoop (cd46 [1, 1, 1, 0, 0, 0]), .inBlock 0, .code (cd46 [1, 1, 1, 1])]) (us := []) (by kernel_rfl) ?_
              refine Runs.fill (m := [some (.slice A39 t38.length c40), some (.slice A44 t43.length c45), some (.func (.func 47) #[] #[]), none, none, none, none, none, some (.slice A49 t48.length c50), some (.int .i64 t284), none, none, none, none, none, none, none, none, none, none, none, none, none, none, none, none, none, none, none, none, none, none, none, none, none, none, none, none, none, none, none, none, none, none, none, none, none, none, none, none, none, none, none, none, none, none, none, none, none, none, none, none, none, none, none, none, none]) (by kernel_rfl) ?_
              exact J76 t284 (Option.some.inj hp286) _ _ hS288
            · skip
              have hp289 := ite_f hp268 h270
              refine sx_run 5 (todo' := [.code (cd46 [1, 1, 1, 0, 0, 0, 1, 0, 1, 1]), .inBlock 1, .inLoop (cd46 [1, 1, 1, 0, 0, 0]), .inBlock 0, .code (cd46 [1, 1, 1, 1])]) (us := [(31, .bool false)]) (by kernel_rfl) ?_
              refine Runs.fill (m := [some (.slice A39 t38.length c40), some (.slice A44 t43.length c45), some (.func (.func 47) #[] #[]), none, none, none, none, none, some (.slice A49 t48.length c50), some (.int .i64 (-1)), none, none, none, none, none, none, none, none, none, none, none, none, none, none, none, none, none, none, none, none, none, none, none, none, none, none, none, none, none, none, none, none, none, none, none, none, none, none, none, none, none, none, none, none, none, none, none, none, none, none, none, none, none, none, none, none, none]) (by kernel_rfl) ?_
              exact J76 (-1) (Option.some.inj hp289) _ _ hS65
        refine sx_split 6 (todo' := [.inRegion (opsOf (cd46 [1, 1, 1, 0, 0, 0, 0, 0])) [3, 4, 5, 6, 7], .code (cd46 [1, 1, 1, 0, 0, 0, 0, 1]), .code (cd46 [1, 1, 1, 0, 0, 0, 1]), .inLoop (cd46 [1, 1, 1, 0, 0, 0]), .inBlock 0, .code (cd46 [1, 1, 1, 1])]) (us := [(19, .slice A39 t38.length c40), (20, .int .i64 (t38.length : Int))]) (d := 21) (t := (decide ((t38.length : Int) > 0))) (by kernel_rfl) (fun h290 => ?_) (fun h291 => ?_)
        · skip
          have hp292 := ite_t hv62 h290
          refine sx_run 8 (todo' := [.code (cd46 [1, 1, 1, 0, 0, 0, 1]), .inLoop (cd46 [1, 1, 1, 0, 0, 0]), .inBlock 0, .code (cd46 [1, 1, 1, 1])]) (us := [(22, .bool true), (23, undef), (24, undef), (25, undef), (26, .bool true)]) (by kernel_rfl) ?_
          refine Runs.fill (m := [some (.slice A39 t38.length c40), some (.slice A44 t43.length c45), some (.func (.func 47) #[] #[]), none, none, none, none, none, some (.slice A49 t48.length c50), none, none, none, none, none, none, none, none, none, none, none, none, none, none, none, none, none, none, none, none, none, none, none, none, none, none, none, none, none, none, none, none, none, none, none, none, none, none, none, none, none, none, none, none, none, none, none, none, none, none, none, none, none, none, none, none, none, none]) (by kernel_rfl) ?_
          exact J67 (Option.some.inj hp292) _ _ hS53
        · skip
          have hp293 := ite_f hv62 h291
          refine sx_split 4 (todo' := [.inRegion (opsOf (cd46 [1, 1, 1, 0, 0, 0, 0, 0])) [7], .code (cd46 [1, 1, 1, 0, 0, 0, 0, 1]), .code (cd46 [1, 1, 1, 0, 0, 0, 1]), .inLoop (cd46 [1, 1, 1, 0, 0, 0]), .inBlock 0, .code (cd46 [1, 1, 1, 1])]) (us := [(22, .bool false), (23, .slice A44 t43.length c45), (24, .int .i64 (t43.length : Int))]) (d := 25) (t := (decide ((t43.length : Int) > 0))) (by kernel_rfl) (fun h294 => ?_) (fun h295 => ?_)
          · skip
            have hp296 := ite_t hp293 h294
            refine sx_run 4 (todo' := [.code (cd46 [1, 1, 1, 0, 0, 0, 1]), .inLoop (cd46 [1, 1, 1, 0, 0, 0]), .inBlock 0, .code (cd46 [1, 1, 1, 1])]) (us := [(26, .bool true)]) (by kernel_rfl) ?_
            refine Runs.fill (m := [some (.slice A39 t38.length c40), some (.slice A44 t43.length c45), some (.func (.func 47) #[] #[]), none, none, none, none, none, some (.slice A49 t48.length c50), none, none, none, none, none, none, none, none, none, none, none, none, none, none, none, none, none, none, none, none, none, none, none, none, none, none, none, none, none, none, none, none, none, none, none, none, none, none, none, none, none, none, none, none, none, none, none, none, none, none, none, none, none, none, none, none, none, none]) (by kernel_rfl) ?_
            exact J67 (Option.some.inj hp296) _ _ hS53
          · skip
            have hp297 := ite_f hp293 h295
            refine sx_run 4 (todo' := [.code (cd46 [1, 1, 1, 1])]) (us := [(26, .bool false)]) (by kernel_rfl) ?_
            refine Runs.fill (m := [none, none, none, none, none, none, none, none, some (.slice A49 t48.length c50), none, none, none, none, none, none, none, none, none, none, none, none, none, none, none, none, none, none, none, none, none, none, none, none, none, none, none, none, none, none, none, none, none, none, none, none, none, none, none, none, none, none, none, none, none, none, none, none, none, none, none, none, none, none, none, none, none, none]) (by kernel_rfl) ?_
            exact J34 t48 ((hq66 _ (Option.some.inj hp297)).trans he56) _ A49 c50 _ hS53
      have hS299 := hS17.nilrow none 24 49
      refine Runs.fill (m := [some (.slice Aa0 a0.length ca0), some (.slice Aa1 a1.length ca1), some (.func (.func 47) #[] #[]), none, none, none, none, none, some (.slice none 0 0), none, none, none, none, none, none, none, none, none, none, none, none, none, none, none, none, none, none, none, none, none, none, none, none, none, none, none, none, none, none, none, none, none, none, none, none, none, none, none, none, none, none, none, none, none, none, none, none, none, none, none, none, none, none, none, none, none, none]) (by kernel_rfl) ?_
      exact L60 a0 a1 [] _ hv26 rfl _ Aa0 ca0 Aa1 ca1 none 0 _ hS299 ha0 ha1

noncomputable def cd36 (p : List Nat) : Code := sub (bodyOf Try.f36) p
def state_Union.f (a0 : List api_Final) (a1 : List api_Final) : Option ((List api_Final) × Int) :=
  (state_walk.f a0 a1 >>= (fun (t1, t2) => some ((t1, t2))))
set_option maxHeartbeats 16000000 in
theorem state_Union.ok (a0 : List api_Final) (a1 : List api_Final) (Aa0 : Option Addr) (ca0 : Nat) (Aa1 : Option Addr) (ca1 : Nat) {w0 : World} {Z : Zm} {fs : List XObj} {w : World} (hS0 : St w0 Z (fs) w) (ha0 : SlZ (flat enc_api_Final) 49 Z Aa0 ca0 a0) (ha1 : SlZ (flat enc_api_Final) 49 Z Aa1 ca1 a1) {q0 : List api_Final} {q1 : Int} (hp0 : state_Union.f a0 a1 = some (q0, q1)) :
    Calls Try.prog 36 #[.slice Aa0 a0.length ca0, .slice Aa1 a1.length ca1] w (fun e w' => ∃ (QA0 : Option Addr) (Qc0 : Nat), e = .returned (.tuple #[.slice QA0 q0.length Qc0, .int .i64 q1]) ∧ St w0 Z (xrow QA0 Qc0 24 49 (q0.flatMap enc_api_Final) :: fs) w') := by
  refine calls_abs ?_; intro R hR
  unfold state_Union.f at hp0
  refine calls_of_runs (fn := Try.f36) (c := cd36 []) Try.func36 (by kernel_rfl) (al := [.slice Aa0 a0.length ca0, .slice Aa1 a1.length ca1]) rfl (n := 9) rfl ?_
  refine sx_run 9 (todo' := [.inRegion (opsOf (cd36 [1, 0])) [2, 3, 4, 5, 6], .code (cd36 [1, 1])]) (us := [(4, .slice none 0 0), (5, .int .i64 0), (6, .slice Aa0 a0.length ca0), (7, .slice Aa1 a1.length ca1)]) (by kernel_rfl) ?_
  obtain ⟨⟨t1, t2⟩, hr5, hp6⟩ := bind_some' hp0
  try dsimp only at hp6
  refine r_call1 (c := (cd36 [1, 0])) (i := 2) (d := (some 8)) (g := 46) (args := #[.slice Aa0 a0.length ca0, .slice Aa1 a1.length ca1, .func (.func 47) #[] #[]]) (by kernel_rfl) (by kernel_rfl) (by kernel_rfl) (by kernel_rfl) (state_walk.ok a0 a1 Aa0 ca0 Aa1 ca1 hS0 ha0 ha1 hr5) ?_
  rintro _ w8 ⟨Q3, Q4, rfl, hS9⟩
  refine ⟨.tuple #[.slice Q3 t1.length Q4, .int .i64 t2], rfl, ?_⟩
  refine sx_run 5 (todo' := [.code (cd36 [1, 1])]) (us := [(9, .slice Q3 t1.length Q4), (10, .int .i64 t2), (4, .slice Q3 t1.length Q4), (5, .int .i64 t2)]) (by kernel_rfl) ?_
  refine runs_ret (fn := Try.f36) (v := .tuple #[.slice Q3 t1.length Q4, .int .i64 t2]) Try.func36 (by kernel_rfl) ?_
  have hr10 := (Option.some.inj hp6)
  cases hr10
  exact hR _ _ ⟨Q3, Q4, rfl, hS9⟩

noncomputable def cd48 (p : List Nat) : Code := sub (bodyOf Try.f48) p
def state_Meet_1.f (a0 : Bool) (a1 : Bool) : Option Bool :=
  (if a0 = true then some (a1) else some (false))
set_option maxHeartbeats 16000000 in
theorem state_Meet_1.ok (a0 : Bool) (a1 : Bool) {w0 : World} {Z : Zm} {fs : List XObj} {w : World} (hS0 : St w0 Z (fs) w) {q0 : Bool} (hp0 : state_Meet_1.f a0 a1 = some q0) :
    Calls Try.prog 48 #[.bool a0, .bool a1] w (fun e w' => e = .returned (.bool q0) ∧ St w0 Z (fs) w') := by
  refine calls_abs ?_; intro R hR
  unfold state_Meet_1.f at hp0
  refine calls_of_runs (fn := Try.f48) (c := cd48 []) Try.func48 (by kernel_rfl) (al := [.bool a0, .bool a1]) rfl (n := 7) rfl ?_
  refine sx_run 8 (todo' := [.inRegion (opsOf (cd48 [1, 0])) [2, 3, 4], .code (cd48 [1, 1])]) (us := [(4, .bool false), (5, .bool a0), (6, .bool a0)]) (by kernel_rfl) ?_
  cases a0
  · skip
    have hp1 := ite_f hp0 rfl
    refine sx_run 4 (todo' := [.code (cd48 [1, 1])]) (us := [(7, undef), (8, .bool false), (4, .bool false)]) (by kernel_rfl) ?_
    refine runs_ret (fn := Try.f48) (v := .bool false) Try.func48 (by kernel_rfl) ?_
    have hr2 := (Option.some.inj hp1)
    cases hr2
    exact hR _ _ ⟨rfl, hS0⟩
  · skip
    have hp3 := ite_t hp0 rfl
    refine sx_run 4 (todo' := [.code (cd48 [1, 1])]) (us := [(7, .bool a1), (8, .bool a1), (4, .bool a1)]) (by kernel_rfl) ?_
    refine runs_ret (fn := Try.f48) (v := .bool a1) Try.func48 (by kernel_rfl) ?_
    have hr4 := (Option.some.inj hp3)
    cases hr4
    exact hR _ _ ⟨rfl, hS0⟩

def state_walk_1.l0 (t38 : List api_Final) (t43 : List api_Final) (t48 : List api_Final) : Option (List api_Final) :=
  (((if (decide ((t38.length : Int) > 0)) = true then some (.inl ()) else (if (decide ((t43.length : Int) > 0)) = true then some (.inl ()) else some (.inr (t48)))) : Option (Sum Unit (List api_Final))) >>= (fun | .inl () => (((if ((t38.length : Int) == 0) = true then some (1) else (if (decide ((t43.length : Int) > 0)) = true then (if 0 ≤ (0 : Int) ∧ (0 : Int) < (t38.length : Int) then (if 0 ≤ (0 : Int) ∧ (0 : Int) < (t43.length : Int) then (state_Compare.f (gt t38 (0 : Int)) (gt t43 (0 : Int)) >>= (fun t284 => some (t284))) else none) else none) else some ((-1)))) : Option Int) >>= (fun t73 => (((if (decide (t73 ≤ 0)) = true then (if 0 ≤ (0 : Int) ∧ (0 : Int) < (t38.length : Int) then (if 0 ≤ (1 : Int) ∧ (1 : Int) ≤ (t38.length : Int) then some ((((t38.take t38.length).drop ((1 : Int).toNat)), (gt t38 (0 : Int)))) else none) else none) else some ((t38, (⟨0, (Vector.replicate 48 0)⟩ : api_Final)))) : Option ((List api_Final) × api_Final)) >>= (fun (t86, t91) => (((if (decide (t73 ≥ 0)) = true then (if 0 ≤ (0 : Int) ∧ (0 : Int) < (t43.length : Int) then (if 0 ≤ (1 : Int) ∧ (1 : Int) ≤ (t43.length : Int) then some ((((t43.take t43.length).drop ((1 : Int).toNat)), (gt t43 (0 : Int)))) else none) else none) else some ((t43, t91))) : Option ((List api_Final) × api_Final)) >>= (fun (t100, t105) => (if (decide (t73 ≤ 0)) = true then (if (decide (t73 ≥ 0)) = true then (state_Meet_1.f true true >>= (fun t117 => (if t117 = true then (if (t48.length + ([t105] : List api_Final).length) * 392 ≤ 140737488355328 then (state_walk_1.l0 t86 t100 (t48 ++ ([t105] : List api_Final))) else none) else (state_walk_1.l0 t86 t100 t48)))) else (state_Meet_1.f true false >>= (fun t143 => (if t143 = true then (if (t48.length + ([t105] : List api_Final).length) * 392 ≤ 140737488355328 then (state_walk_1.l0 t86 t100 (t48 ++ ([t105] : List api_Final))) else none) else (state_walk_1.l0 t86 t100 t48))))) else (if (decide (t73 ≥ 0)) = true then (state_Meet_1.f false true >>= (fun t172 => (if t172 = true then (if (t48.length + ([t105] : List api_Final).length) * 392 ≤ 140737488355328 then (state_walk_1.l0 t86 t100 (t48 ++ ([t105] : List api_Final))) else none) else (state_walk_1.l0 t86 t100 t48)))) else (state_Meet_1.f false false >>= (fun t198 => (if t198 = true then (if (t48.length + ([t105] : List api_Final).length) * 392 ≤ 140737488355328 then (state_walk_1.l0 t86 t100 (t48 ++ ([t105] : List api_Final))) else none) else (state_walk_1.l0 t86 t100 t48)))))))))))) | .inr e => some e))
 partial_fixpoint
def state_walk_1.f (a0 : List api_Final) (a1 : List api_Final) : Option ((List api_Final) × Int) :=
  (state_Rises.f a0 >>= (fun t1 => (if (!t1) = true then some (([], 100)) else (state_Rises.f a1 >>= (fun t13 => (if (!t13) = true then some (([], 100)) else (state_walk_1.l0 a0 a1 [] >>= (fun t28 => some ((t28, 0))))))))))
set_option maxHeartbeats 16000000 in
theorem state_walk_1.ok (a0 : List api_Final) (a1 : List api_Final) (Aa0 : Option Addr) (ca0 : Nat) (Aa1 : Option Addr) (ca1 : Nat) {w0 : World} {Z : Zm} {fs : List XObj} {w : World} (hS0 : St w0 Z (fs) w) (ha0 : SlZ (flat enc_api_Final) 49 Z Aa0 ca0 a0) (ha1 : SlZ (flat enc_api_Final) 49 Z Aa1 ca1 a1) {q0 : List api_Final} {q1 : Int} (hp0 : state_walk_1.f a0 a1 = some (q0, q1)) :
    Calls Try.prog 46 #[.slice Aa0 a0.length ca0, .slice Aa1 a1.length ca1, .func (.func 48) #[] #[]] w (fun e w' => ∃ (QA0 : Option Addr) (Qc0 : Nat), e = .returned (.tuple #[.slice QA0 q0.length Qc0, .int .i64 q1]) ∧ St w0 Z (xrow QA0 Qc0 24 49 (q0.flatMap enc_api_Final) :: fs) w') := by
  refine calls_abs ?_; intro R hR
  unfold state_walk_1.f at hp0
  refine calls_of_runs (fn := Try.f46) (c := cd46 []) Try.func46 (by kernel_rfl) (al := [.slice Aa0 a0.length ca0, .slice Aa1 a1.length ca1, .func (.func 48) #[] #[]]) rfl (n := 64) rfl ?_
  refine sx_run 9 (todo' := [.inRegion (opsOf (cd46 [1, 0, 0])) [1, 2, 3, 4, 5, 6, 7], .code (cd46 [1, 0, 1]), .code (cd46 [1, 1])]) (us := [(6, .slice none 0 0), (7, .int .i64 0), (11, .slice Aa0 a0.length ca0)]) (by kernel_rfl) ?_
  obtain ⟨t1, hr2, hp3⟩ := bind_some' hp0
  refine r_call1 (c := (cd46 [1, 0, 0])) (i := 1) (d := (some 12)) (g := 23) (args := #[.slice Aa0 a0.length ca0]) (by kernel_rfl) (by kernel_rfl) (by kernel_rfl) (by kernel_rfl) (state_Rises.ok a0 Aa0 ca0 hS0 ha0 hr2) ?_
  rintro _ w4 ⟨rfl, hS5⟩
  refine ⟨.bool t1, rfl, ?_⟩
  refine sx_split 1 (todo' := [.inRegion (opsOf (cd46 [1, 0, 0])) [3, 4, 5, 6, 7], .code (cd46 [1, 0, 1]), .code (cd46 [1, 1])]) (us := []) (d := 13) (t := (!t1)) (by kernel_rfl) (fun h6 => ?_) (fun h7 => ?_)
  · skip
    have hp8 := ite_t hp3 h6
    refine sx_run 12 (todo' := [.code (cd46 [1, 0, 1, 0, 1]), .code (cd46 [1, 1])]) (us := [(14, .bool true), (15, undef), (16, undef), (17, undef), (18, .bool true), (6, .slice none 0 0), (7, .int .i64 100)]) (by kernel_rfl) ?_
    have hS10 := hS5.nilrow none 24 49
    refine runs_ret (fn := Try.f46) (v := .tuple #[.slice none 0 0, .int .i64 100]) Try.func46 (by kernel_rfl) ?_
    have hr11 := (Option.some.inj hp8)
    cases hr11
    exact hR _ _ ⟨none, 0, rfl, hS10⟩
  · skip
    have hp12 := ite_f hp3 h7
    refine sx_run 2 (todo' := [.inRegion (opsOf (cd46 [1, 0, 0])) [5, 6, 7], .code (cd46 [1, 0, 1]), .code (cd46 [1, 1])]) (us := [(14, .bool false), (15, .slice Aa1 a1.length ca1)]) (by kernel_rfl) ?_
    obtain ⟨t13, hr14, hp15⟩ := bind_some' hp12
    refine r_call1 (c := (cd46 [1, 0, 0])) (i := 5) (d := (some 16)) (g := 23) (args := #[.slice Aa1 a1.length ca1]) (by kernel_rfl) (by kernel_rfl) (by kernel_rfl) (by kernel_rfl) (state_Rises.ok a1 Aa1 ca1 hS5 ha1 hr14) ?_
    rintro _ w16 ⟨rfl, hS17⟩
    refine ⟨.bool t13, rfl, ?_⟩
    refine sx_split 1 (todo' := [.inRegion (opsOf (cd46 [1, 0, 0])) [7], .code (cd46 [1, 0, 1]), .code (cd46 [1, 1])]) (us := []) (d := 17) (t := (!t13)) (by kernel_rfl) (fun h18 => ?_) (fun h19 => ?_)
    · skip
      have hp20 := ite_t hp15 h18
      refine sx_run 8 (todo' := [.code (cd46 [1, 0, 1, 0, 1]), .code (cd46 [1, 1])]) (us := [(18, .bool true), (6, .slice none 0 0), (7, .int .i64 100)]) (by kernel_rfl) ?_
      have hS22 := hS17.nilrow none 24 49
      refine runs_ret (fn := Try.f46) (v := .tuple #[.slice none 0 0, .int .i64 100]) Try.func46 (by kernel_rfl) ?_
      have hr23 := (Option.some.inj hp20)
      cases hr23
      exact hR _ _ ⟨none, 0, rfl, hS22⟩
    · skip
      have hp24 := ite_f hp15 h19
      refine sx_run 11 (todo' := [.code (cd46 [1, 1, 1, 0, 0, 0]), .inLoop (cd46 [1, 1, 1, 0, 0, 0]), .inBlock 0, .code (cd46 [1, 1, 1, 1])]) (us := [(18, .bool false), (8, .slice none 0 0)]) (by kernel_rfl) ?_
      obtain ⟨v25, hv26, hp27⟩ := bind_some' hp24
      have J34 : ∀ (t28 : List api_Final) (he36 : t28 = v25) (l35 : List Value) (A29 : Option Addr) (c30 : Nat) (w32 : World) (hS33 : St w0 Z (xrow A29 c30 24 49 (t28.flatMap enc_api_Final) :: fs) w32), Runs Try.prog 46 [.code (cd46 [1, 1, 1, 1])] (fill [none, none, none, none, none, none, none, none, some (.slice A29 t28.length c30), none, none, none, none, none, none, none, none, none, none, none, none, none, none, none, none, none, none, none, none, none, none, none, none, none, none, none, none, none, none, none, none, none, none, none, none, none, none, none, none, none, none, none, none, none, none, none, none, none, none, none, none, none, none, none, none, none, none] l35) w32 R := by
        intro t28 he36 l35 A29 c30 w32 hS33
        subst he36
        try dsimp only at hp27
        refine sx_run 6 (todo' := [.code (cd46 [1, 1, 1, 1, 1])]) (us := [(66, .slice A29 t28.length c30), (6, .slice A29 t28.length c30), (7, .int .i64 0)]) (by kernel_rfl) ?_
        refine runs_ret (fn := Try.f46) (v := .tuple #[.slice A29 t28.length c30, .int .i64 0]) Try.func46 (by kernel_rfl) ?_
        have hr37 := (Option.some.inj hp27)
        cases hr37
        exact hR _ _ ⟨A29, c30, rfl, hS33⟩
      have L60 : ∀ (t38 : List api_Final) (t43 : List api_Final) (t48 : List api_Final) (e55 : (List api_Final)), state_walk_1.l0 t38 t43 t48 = some e55 → e55 = v25 → ∀ (l54 : List Value) (A39 : Option Addr) (c40 : Nat) (A44 : Option Addr) (c45 : Nat) (A49 : Option Addr) (c50 : Nat) (w52 : World) (hS53 : St w0 Z (xrow A49 c50 24 49 (t48.flatMap enc_api_Final) :: fs) w52) (hs42 : SlZ (flat enc_api_Final) 49 Z A39 c40 t38) (hs47 : SlZ (flat enc_api_Final) 49 Z A44 c45 t43), Runs Try.prog 46 [.code (cd46 [1, 1, 1, 0, 0, 0]), .inLoop (cd46 [1, 1, 1, 0, 0, 0]), .inBlock 0, .code (cd46 [1, 1, 1, 1])] (fill [some (.slice A39 t38.length c40), some (.slice A44 t43.length c45), some (.func (.func 48) #[] #[]), none, none, none, none, none, some (.slice A49 t48.length c50), none, none, none, none, none, none, none, none, none, none, none, none, none, none, none, none, none, none, none, none, none, none, none, none, none, none, none, none, none, none, none, none, none, none, none, none, none, none, none, none, none, none, none, none, none, none, none, none, none, none, none, none, none, none, none, none, none, none] l54) w52 R := by
        refine state_walk_1.l0.partial_correctness (fun t38 t43 t48 e55 => e55 = v25 → ∀ (l54 : List Value) (A39 : Option Addr) (c40 : Nat) (A44 : Option Addr) (c45 : Nat) (A49 : Option Addr) (c50 : Nat) (w52 : World) (hS53 : St w0 Z (xrow A49 c50 24 49 (t48.flatMap enc_api_Final) :: fs) w52) (hs42 : SlZ (flat enc_api_Final) 49 Z A39 c40 t38) (hs47 : SlZ (flat enc_api_Final) 49 Z A44 c45 t43), Runs Try.prog 46 [.code (cd46 [1, 1, 1, 0, 0, 0]), .inLoop (cd46 [1, 1, 1, 0, 0, 0]), .inBlock 0, .code (cd46 [1, 1, 1, 1])] (fill [some (.slice A39 t38.length c40), some (.slice A44 t43.length c45), some (.func (.func 48) #[] #[]), none, none, none, none, none, some (.slice A49 t48.length c50), none, none, none, none, none, none, none, none, none, none, none, none, none, none, none, none, none, none, none, none, none, none, none, none, none, none, none, none, none, none, none, none, none, none, none, none, none, none, none, none, none, none, none, none, none, none, none, none, none, none, none, none, none, none, none, none, none, none] l54) w52 R) ?_
        intro rec59 ih58 t38 t43 t48 e55 hb57 he56 l54 A39 c40 A44 c45 A49 c50 w52 hS53 hs42 hs47
        obtain ⟨v61, hv62, hp63⟩ := bind_some' hb57
        have hq66 : ∀ x, Sum.inr x = v61 → x = e55 := by intro x hx; subst hx; simpa using hp63
        have J67 : ∀ (he69 : Sum.inl () = v61) (l68 : List Value) (w64 : World) (hS65 : St w0 Z (xrow A49 c50 24 49 (t48.flatMap enc_api_Final) :: fs) w64), Runs Try.prog 46 [.code (cd46 [1, 1, 1, 0, 0, 0, 1]), .inLoop (cd46 [1, 1, 1, 0, 0, 0]), .inBlock 0, .code (cd46 [1, 1, 1, 1])] (fill [some (.slice A39 t38.length c40), some (.slice A44 t43.length c45), some (.func (.func 48) #[] #[]), none, none, none, none, none, some (.slice A49 t48.length c50), none, none, none, none, none, none, none, none, none, none, none, none, none, none, none, none, none, none, none, none, none, none, none, none, none, none, none, none, none, none, none, none, none, none, none, none, none, none, none, none, none, none, none, none, none, none, none, none, none, none, none, none, none, none, none, none, none, none] l68) w64 R := by
          intro he69 l68 w64 hS65
          subst he69
          try dsimp only at hp63
          obtain ⟨v70, hv71, hp72⟩ := bind_some' hp63
          have J76 : ∀ (t73 : Int) (he78 : t73 = v70) (l77 : List Value) (w74 : World) (hS75 : St w0 Z (xrow A49 c50 24 49 (t48.flatMap enc_api_Final) :: fs) w74), Runs Try.prog 46 [.code (cd46 [1, 1, 1, 0, 0, 0, 1, 0, 1, 1]), .inBlock 1, .inLoop (cd46 [1, 1, 1, 0, 0, 0]), .inBlock 0, .code (cd46 [1, 1, 1, 1])] (fill [some (.slice A39 t38.length c40), some (.slice A44 t43.length c45), some (.func (.func 48) #[] #[]), none, none, none, none, none, some (.slice A49 t48.length c50), some (.int .i64 t73), none, none, none, none, none, none, none, none, none, none, none, none, none, none, none, none, none, none, none, none, none, none, none, none, none, none, none, none, none, none, none, none, none, none, none, none, none, none, none, none, none, none, none, none, none, none, none, none, none, none, none, none, none, none, none, none, none] l77) w74 R := by
            intro t73 he78 l77 w74 hS75
            subst he78
            try dsimp only at hp72
            refine sx_run 2 (todo' := [.inRegion (opsOf (cd46 [1, 1, 1, 0, 0, 0, 1, 0, 1, 1, 0])) [0], .code (cd46 [1, 1, 1, 0, 0, 0, 1, 0, 1, 1, 1]), .inBlock 1, .inLoop (cd46 [1, 1, 1, 0, 0, 0]), .inBlock 0, .code (cd46 [1, 1, 1, 1])]) (us := []) (by kernel_rfl) ?_
            refine r_alloc (c := (cd46 [1, 1, 1, 0, 0, 0, 1, 0, 1, 1, 0])) (i := 0) (d := (some 10)) (ty := 0) (z := .agg (enc_api_Final (⟨0, (Vector.replicate 48 0)⟩ : api_Final)).toArray) (t := 24) (cs := enc_api_Final (⟨0, (Vector.replicate 48 0)⟩ : api_Final)) hS75 (by kernel_rfl) (by kernel_rfl) (by kernel_rfl) (by kernel_rfl) ?_
            intro b79 w80 hS81
            obtain ⟨v83, hv84, hp85⟩ := bind_some' hp72
            have J94 : ∀ (t86 : List api_Final) (t91 : api_Final) (he96 : (t86, t91) = v83) (l95 : List Value) (A87 : Option Addr) (c88 : Nat) (w92 : World) (hS93 : St w0 Z (xrow A49 c50 24 49 (t48.flatMap enc_api_Final) :: xblk b79 24 (enc_api_Final t91) :: fs) w92) (hs90 : SlZ (flat enc_api_Final) 49 Z A87 c88 t86), Runs Try.prog 46 [.code (cd46 [1, 1, 1, 0, 0, 0, 1, 0, 1, 1, 1, 1]), .inBlock 1, .inLoop (cd46 [1, 1, 1, 0, 0, 0]), .inBlock 0, .code (cd46 [1, 1, 1, 1])] (fill [some (.slice A87 t86.length c88), some (.slice A44 t43.length c45), some (.func (.func 48) #[] #[]), none, none, none, none, none, some (.slice A49 t48.length c50), some (.int .i64 t73), some (.pointer (some ⟨b79, 0, none⟩)), none, none, none, none, none, none, none, none, none, none, none, none, none, none, none, none, none, none, none, none, none, none, none, none, none, none, none, none, none, none, none, none, none, none, none, none, none, none, none, none, none, none, none, none, none, none, none, none, none, none, none, none, none, none, none, none] l95) w92 R := by
              intro t86 t91 he96 l95 A87 c88 w92 hS93 hs90
              subst he96
              try dsimp only at hp85
              obtain ⟨v97, hv98, hp99⟩ := bind_some' hp85
              have J108 : ∀ (t100 : List api_Final) (t105 : api_Final) (he110 : (t100, t105) = v97) (l109 : List Value) (A101 : Option Addr) (c102 : Nat) (w106 : World) (hS107 : St w0 Z (xrow A49 c50 24 49 (t48.flatMap enc_api_Final) :: xblk b79 24 (enc_api_Final t105) :: fs) w106) (hs104 : SlZ (flat enc_api_Final) 49 Z A101 c102 t100), Runs Try.prog 46 [.code (cd46 [1, 1, 1, 0, 0, 0, 1, 0, 1, 1, 1, 1, 1]), .inBlock 1, .inLoop (cd46 [1, 1, 1, 0, 0, 0]), .inBlock 0, .code (cd46 [1, 1, 1, 1])] (fill [some (.slice A87 t86.length c88), some (.slice A101 t100.length c102), some (.func (.func 48) #[] #[]), none, none, none, none, none, some (.slice A49 t48.length c50), some (.int .i64 t73), some (.pointer (some ⟨b79, 0, none⟩)), none, none, none, none, none, none, none, none, none, none, none, none, none, none, none, none, none, none, none, none, none, none, none, none, none, none, none, none, none, none, none, none, none, none, none, none, none, none, none, none, none, none, none, none, none, none, none, none, none, none, none, none, none, none, none, none] l109) w106 R := by
                intro t100 t105 he110 l109 A101 c102 w106 hS107 hs104
                subst he110
                try dsimp only at hp99
                refine sx_split 5 (todo' := [.inRegion (opsOf (cd46 [1, 1, 1, 0, 0, 0, 1, 0, 1, 1, 1, 1, 1, 0])) [3, 4, 5], .code (cd46 [1, 1, 1, 0, 0, 0, 1, 0, 1, 1, 1, 1, 1, 1]), .inBlock 1, .inLoop (cd46 [1, 1, 1, 0, 0, 0]), .inBlock 0, .code (cd46 [1, 1, 1, 1])]) (us := [(56, .func (.func 48) #[] #[]), (57, .int .i64 t73)]) (d := 58) (t := (decide (t73 ≤ 0))) (by kernel_rfl) (fun h111 => ?_) (fun h112 => ?_)
                · skip
                  have hp113 := ite_t hp99 h111
                  refine sx_split 2 (todo' := [.inRegion (opsOf (cd46 [1, 1, 1, 0, 0, 0, 1, 0, 1, 1, 1, 1, 1, 0])) [5], .code (cd46 [1, 1, 1, 0, 0, 0, 1, 0, 1, 1, 1, 1, 1, 1]), .inBlock 1, .inLoop (cd46 [1, 1, 1, 0, 0, 0]), .inBlock 0, .code (cd46 [1, 1, 1, 1])]) (us := [(59, .int .i64 t73)]) (d := 60) (t := (decide (t73 ≥ 0))) (by kernel_rfl) (fun h114 => ?_) (fun h115 => ?_)
                  · skip
                    have hp116 := ite_t hp113 h114
                    obtain ⟨t117, hr118, hp119⟩ := bind_some' hp116
                    refine r_call1 (c := (cd46 [1, 1, 1, 0, 0, 0, 1, 0, 1, 1, 1, 1, 1, 0])) (i := 5) (d := (some 61)) (g := 48) (args := #[.bool true, .bool true]) (by kernel_rfl) (by kernel_rfl) (by kernel_rfl) (by kernel_rfl) (state_Meet_1.ok true true hS107 hr118) ?_
                    rintro _ w120 ⟨rfl, hS121⟩
                    refine ⟨.bool t117, rfl, ?_⟩
                    refine sx_run 1 (todo' := [.code (cd46 [1, 1, 1, 0, 0, 0, 1, 0, 1, 1, 1, 1, 1, 1]), .inBlock 1, .inLoop (cd46 [1, 1, 1, 0, 0, 0]), .inBlock 0, .code (cd46 [1, 1, 1, 1])]) (us := []) (by kernel_rfl) ?_
                    cases t117
                    · skip
                      have hp122 := ite_f hp119 rfl
                      refine sx_run 3 (todo' := [.inLoop (cd46 [1, 1, 1, 0, 0, 0]), .inBlock 0, .code (cd46 [1, 1, 1, 1])]) (us := []) (by kernel_rfl) ?_
                      have hS123 := hS121.pick1
                      have hS124 := hS123.drop
                      refine sx_run 1 (todo' := [.code (cd46 [1, 1, 1, 0, 0, 0]), .inLoop (cd46 [1, 1, 1, 0, 0, 0]), .inBlock 0, .code (cd46 [1, 1, 1, 1])]) (us := []) (by kernel_rfl) ?_
                      refine Runs.fill (m := [some (.slice A87 t86.length c88), some (.slice A101 t100.length c102), some (.func (.func 48) #[] #[]), none, none, none, none, none, some (.slice A49 t48.length c50), none, none, none, none, none, none, none, none, none, none, none, none, none, none, none, none, none, none, none, none, none, none, none, none, none, none, none, none, none, none, none, none, none, none, none, none, none, none, none, none, none, none, none, none, none, none, none, none, none, none, none, none, none, none, none, none, none, none]) (by kernel_rfl) ?_
                      exact ih58 t86 t100 t48 _ hp122 he56 _ A87 c88 A101 c102 A49 c50 _ hS124 hs90 hs104
                    · skip
                      have hp125 := ite_t hp119 rfl
                      refine sx_run 3 (todo' := [.inRegion (opsOf (cd46 [1, 1, 1, 0, 0, 0, 1, 0, 1, 1, 1, 1, 1, 1, 0])) [1, 2, 3, 4], .inBlock 1, .inLoop (cd46 [1, 1, 1, 0, 0, 0]), .inBlock 0, .code (cd46 [1, 1, 1, 1])]) (us := [(62, .slice A49 t48.length c50)]) (by kernel_rfl) ?_
                      refine r_load (c := (cd46 [1, 1, 1, 0, 0, 0, 1, 0, 1, 1, 1, 1, 1, 1, 0])) (i := 1) (d := (some 63)) (ty := 24) (t := 24) (x := (.tmp 10)) (p := ⟨b79, 0, none⟩) (v := .agg (enc_api_Final t105).toArray) (by kernel_rfl) (by kernel_rfl) (by kernel_rfl) (loads_agg (hS121.blk 1 rfl) (by kernel_rfl) (lenK (len_api_Final _) (by kernel_rfl))) ?_
                      refine r_lit (c := (cd46 [1, 1, 1, 0, 0, 0, 1, 0, 1, 1, 1, 1, 1, 1, 0])) (i := 2) (d := (some 64)) (ty := 36) (t := 36) (e := 24) (sz := 49) (n := 1) (parts := #[(0, (.tmp 63))]) (vs := [(0, .agg (enc_api_Final t105).toArray)]) (z := zeroOf Try.prog 24) (cs' := ([t105] : List api_Final).flatMap enc_api_Final) hS121 (by kernel_rfl) (by kernel_rfl) (by kernel_rfl) (by kernel_rfl) (by kernel_rfl) (by decide) (by decide) (by kernel_rfl) rfl (Parts.cons (c := enc_api_Final t105) (by kernel_rfl) (len_api_Final _) Parts.nil) rfl ?_
                      intro b127 w128 hS129
                      have hS130 := hS129.pick1
                      obtain ⟨g131, hp132⟩ := ite_some hp125
                      refine r_append (c := (cd46 [1, 1, 1, 0, 0, 0, 1, 0, 1, 1, 1, 1, 1, 1, 0])) (i := 3) (d := (some 65)) (ty := 36) (enc := enc_api_Final) (e := 24) (u := 24) (t := 36) (t2 := 36) (sz := 49) (cp := c50) (A := A49) (bytes := 392) (xs := t48) (ys := ([t105] : List api_Final)) (s := (.tmp 62)) (x := (.tmp 64)) (xv := .slice (some ⟨b127, 0, none⟩) ([t105] : List api_Final).length 1) (info := infoOf Try.prog 24) (z := zeroOf Try.prog 24) (ycs := ([t105] : List api_Final).flatMap enc_api_Final) hS130 (by kernel_rfl) (by kernel_rfl) (by kernel_rfl) (by kernel_rfl) (by kernel_rfl) (.inl (by kernel_rfl)) (by kernel_rfl) (by kernel_rfl) (by kernel_rfl) (by kernel_rfl) (by kernel_rfl) (by omega) len_api_Final one_api_Final (src_row (hS130.row 1 rfl) (by omega) len_api_Final) rfl g131 (by omega) ?_
                      intro A133 c134 w135 hS136
                      refine sx_run 3 (todo' := [.inLoop (cd46 [1, 1, 1, 0, 0, 0]), .inBlock 0, .code (cd46 [1, 1, 1, 1])]) (us := [(8, .slice A133 (t48 ++ ([t105] : List api_Final)).length c134)]) (by kernel_rfl) ?_
                      have hS138 := hS136.pick1
                      have hS139 := hS138.drop
                      have hS140 := hS139.pick1
                      have hS141 := hS140.drop
                      refine sx_run 1 (todo' := [.code (cd46 [1, 1, 1, 0, 0, 0]), .inLoop (cd46 [1, 1, 1, 0, 0, 0]), .inBlock 0, .code (cd46 [1, 1, 1, 1])]) (us := []) (by kernel_rfl) ?_
                      refine Runs.fill (m := [some (.slice A87 t86.length c88), some (.slice A101 t100.length c102), some (.func (.func 48) #[] #[]), none, none, none, none, none, some (.slice A133 (t48 ++ ([t105] : List api_Final)).length c134), none, none, none, none, none, none, none, none, none, none, none, none, none, none, none, none, none, none, none, none, none, none, none, none, none, none, none, none, none, none, none, none, none, none, none, none, none, none, none, none, none, none, none, none, none, none, none, none, none, none, none, none, none, none, none, none, none, none]) (by kernel_rfl) ?_
                      exact ih58 t86 t100 (t48 ++ ([t105] : List api_Final)) _ hp132 he56 _ A87 c88 A101 c102 A133 c134 _ hS141 hs90 hs104
                  · skip
                    have hp142 := ite_f hp113 h115
                    obtain ⟨t143, hr144, hp145⟩ := bind_some' hp142
                    refine r_call1 (c := (cd46 [1, 1, 1, 0, 0, 0, 1, 0, 1, 1, 1, 1, 1, 0])) (i := 5) (d := (some 61)) (g := 48) (args := #[.bool true, .bool false]) (by kernel_rfl) (by kernel_rfl) (by kernel_rfl) (by kernel_rfl) (state_Meet_1.ok true false hS107 hr144) ?_
                    rintro _ w146 ⟨rfl, hS147⟩
                    refine ⟨.bool t143, rfl, ?_⟩
                    refine sx_run 1 (todo' := [.code (cd46 [1, 1, 1, 0, 0, 0, 1, 0, 1, 1, 1, 1, 1, 1]), .inBlock 1, .inLoop (cd46 [1, 1, 1, 0, 0, 0]), .inBlock 0, .code (cd46 [1, 1, 1, 1])]) (us := []) (by kernel_rfl) ?_
                    cases t143
                    · skip
                      have hp148 := ite_f hp145 rfl
                      refine sx_run 3 (todo' := [.inLoop (cd46 [1, 1, 1, 0, 0, 0]), .inBlock 0, .code (cd46 [1, 1, 1, 1])]) (us := []) (by kernel_rfl) ?_
                      have hS149 := hS147.pick1
                      have hS150 := hS149.drop
                      refine sx_run 1 (todo' := [.code (cd46 [1, 1, 1, 0, 0, 0]), .inLoop (cd46 [1, 1, 1, 0, 0, 0]), .inBlock 0, .code (cd46 [1, 1, 1, 1])]) (us := []) (by kernel_rfl) ?_
                      refine Runs.fill (m := [some (.slice A87 t86.length c88), some (.slice A101 t100.length c102), some (.func (.func 48) #[] #[]), none, none, none, none, none, some (.slice A49 t48.length c50), none, none, none, none, none, none, none, none, none, none, none, none, none, none, none, none, none, none, none, none, none, none, none, none, none, none, none, none, none, none, none, none, none, none, none, none, none, none, none, none, none, none, none, none, none, none, none, none, none, none, none, none, none, none, none, none, none, none]) (by kernel_rfl) ?_
                      exact ih58 t86 t100 t48 _ hp148 he56 _ A87 c88 A101 c102 A49 c50 _ hS150 hs90 hs104
                    · skip
                      have hp151 := ite_t hp145 rfl
                      refine sx_run 3 (todo' := [.inRegion (opsOf (cd46 [1, 1, 1, 0, 0, 0, 1, 0, 1, 1, 1, 1, 1, 1, 0])) [1, 2, 3, 4], .inBlock 1, .inLoop (cd46 [1, 1, 1, 0, 0, 0]), .inBlock 0, .code (cd46 [1, 1, 1, 1])]) (us := [(62, .slice A49 t48.length c50)]) (by kernel_rfl) ?_
                      refine r_load (c := (cd46 [1, 1, 1, 0, 0, 0, 1, 0, 1, 1, 1, 1, 1, 1, 0])) (i := 1) (d := (some 63)) (ty := 24) (t := 24) (x := (.tmp 10)) (p := ⟨b79, 0, none⟩) (v := .agg (enc_api_Final t105).toArray) (by kernel_rfl) (by kernel_rfl) (by kernel_rfl) (loads_agg (hS147.blk 1 rfl) (by kernel_rfl) (lenK (len_api_Final _) (by kernel_rfl))) ?_
                      refine r_lit (c := (cd46 [1, 1, 1, 0, 0, 0, 1, 0, 1, 1, 1, 1, 1, 1, 0])) (i := 2) (d := (some 64)) (ty := 36) (t := 36) (e := 24) (sz := 49) (n := 1) (parts := #[(0, (.tmp 63))]) (vs := [(0, .agg (enc_api_Final t105).toArray)]) (z := zeroOf Try.prog 24) (cs' := ([t105] : List api_Final).flatMap enc_api_Final) hS147 (by kernel_rfl) (by kernel_rfl) (by kernel_rfl) (by kernel_rfl) (by kernel_rfl) (by decide) (by decide) (by kernel_rfl) rfl (Parts.cons (c := enc_api_Final t105) (by kernel_rfl) (len_api_Final _) Parts.nil) rfl ?_
                      intro b153 w154 hS155
                      have hS156 := hS155.pick1
                      obtain ⟨g157, hp158⟩ := ite_some hp151
                      refine r_append (c := (cd46 [1, 1, 1, 0, 0, 0, 1, 0, 1, 1, 1, 1, 1, 1, 0])) (i := 3) (d := (some 65)) (ty := 36) (enc := enc_api_Final) (e := 24) (u := 24) (t := 36) (t2 := 36) (sz := 49) (cp := c50) (A := A49) (bytes := 392) (xs := t48) (ys := ([t105] : List api_Final)) (s := (.tmp 62)) (x := (.tmp 64)) (xv := .slice (some ⟨b153, 0, none⟩) ([t105] : List api_Final).length 1) (info := infoOf Try.prog 24) (z := zeroOf Try.prog 24) (ycs := ([t105] : List api_Final).flatMap enc_api_Final) hS156 (by kernel_rfl) (by kernel_rfl) (by kernel_rfl) (by kernel_rfl) (by kernel_rfl) (.inl (by kernel_rfl)) (by kernel_rfl) (by kernel_rfl) (by kernel_rfl) (by kernel_rfl) (by kernel_rfl) (by omega) len_api_Final one_api_Final (src_row (hS156.row 1 rfl) (by omega) len_api_Final) rfl g157 (by omega) ?_
                      intro A159 c160 w161 hS162
                      refine sx_run 3 (todo' := [.inLoop (cd46 [1, 1, 1, 0, 0, 0]), .inBlock 0, .code (cd46 [1, 1, 1, 1])]) (us := [(8, .slice A159 (t48 ++ ([t105] : List api_Final)).length c160)]) (by kernel_rfl) ?_
                      have hS164 := hS162.pick1
                      have hS165 := hS164.drop
                      have hS166 := hS165.pick1
                      have hS167 := hS166.drop
                      refine sx_run 1 (todo' := [.code (cd46 [1, 1, 1, 0, 0, 0]), .inLoop (cd46 [1, 1, 1, 0, 0, 0]), .inBlock 0, .code (cd46 [1, 1, 1, 1])]) (us := []) (by kernel_rfl) ?_
                      refine Runs.fill (m := [some (.slice A87 t86.length c88), some (.slice A101 t100.length c102), some (.func (.func 48) #[] #[]), none, none, none, none, none, some (.slice A159 (t48 ++ ([t105] : List api_Final)).length c160), none, none, none, none, none, none, none, none, none, none, none, none, none, none, none, none, none, none, none, none, none, none, none, none, none, none, none, none, none, none, none, none, none, none, none, none, none, none, none, none, none, none, none, none, none, none, none, none, none, none, none, none, none, none, none, none, none, none]) (by kernel_rfl) ?_
                      exact ih58 t86 t100 (t48 ++ ([t105] : List api_Final)) _ hp158 he56 _ A87 c88 A101 c102 A159 c160 _ hS167 hs90 hs104
                · skip
                  have hp168 := ite_f hp99 h112
                  refine sx_split 2 (todo' := [.inRegion (opsOf (cd46 [1, 1, 1, 0, 0, 0, 1, 0, 1, 1, 1, 1, 1, 0])) [5], .code (cd46 [1, 1, 1, 0, 0, 0, 1, 0, 1, 1, 1, 1, 1, 1]), .inBlock 1, .inLoop (cd46 [1, 1, 1, 0, 0, 0]), .inBlock 0, .code (cd46 [1, 1, 1, 1])]) (us := [(59, .int .i64 t73)]) (d := 60) (t := (decide (t73 ≥ 0))) (by kernel_rfl) (fun h169 => ?_) (fun h170 => ?_)
                  · skip
                    have hp171 := ite_t hp168 h169
                    obtain ⟨t172, hr173, hp174⟩ := bind_some' hp171
                    refine r_call1 (c := (cd46 [1, 1, 1, 0, 0, 0, 1, 0, 1, 1, 1, 1, 1, 0])) (i := 5) (d := (some 61)) (g := 48) (args := #[.bool false, .bool true]) (by kernel_rfl) (by kernel_rfl) (by kernel_rfl) (by kernel_rfl) (state_Meet_1.ok false true hS107 hr173) ?_
                    rintro _ w175 ⟨rfl, hS176⟩
                    refine ⟨.bool t172, rfl, ?_⟩
                    refine sx_run 1 (todo' := [.code (cd46 [1, 1, 1, 0, 0, 0, 1, 0, 1, 1, 1, 1, 1, 1]), .inBlock 1, .inLoop (cd46 [1, 1, 1, 0, 0, 0]), .inBlock 0, .code (cd46 [1, 1, 1, 1])]) (us := []) (by kernel_rfl) ?_
                    cases t172
                    · skip
                      have hp177 := ite_f hp174 rfl
                      refine sx_run 3 (todo' := [.inLoop (cd46 [1, 1, 1, 0, 0, 0]), .inBlock 0, .code (cd46 [1, 1, 1, 1])]) (us := []) (by kernel_rfl) ?_
                      have hS178 := hS176.pick1
                      have hS179 := hS178.drop
                      refine sx_run 1 (todo' := [.code (cd46 [1, 1, 1, 0, 0, 0]), .inLoop (cd46 [1, 1, 1, 0, 0, 0]), .inBlock 0, .code (cd46 [1, 1, 1, 1])]) (us := []) (by kernel_rfl) ?_
                      refine Runs.fill (m := [some (.slice A87 t86.length c88), some (.slice A101 t100.length c102), some (.func (.func 48) #[] #[]), none, none, none, none, none, some (.slice A49 t48.length c50), none, none, none, none, none, none, none, none, none, none, none, none, none, none, none, none, none, none, none, none, none, none, none, none, none, none, none, none, none, none, none, none, none, none, none, none, none, none, none, none, none, none, none, none, none, none, none, none, none, none, none, none, none, none, none, none, none, none]) (by kernel_rfl) ?_
                      exact ih58 t86 t100 t48 _ hp177 he56 _ A87 c88 A101 c102 A49 c50 _ hS179 hs90 hs104
                    · skip
                      have hp180 := ite_t hp174 rfl
                      refine sx_run 3 (todo' := [.inRegion (opsOf (cd46 [1, 1, 1, 0, 0, 0, 1, 0, 1, 1, 1, 1, 1, 1, 0])) [1, 2, 3, 4], .inBlock 1, .inLoop (cd46 [1, 1, 1, 0, 0, 0]), .inBlock 0, .code (cd46 [1, 1, 1, 1])]) (us := [(62, .slice A49 t48.length c50)]) (by kernel_rfl) ?_
                      refine r_load (c := (cd46 [1, 1, 1, 0, 0, 0, 1, 0, 1, 1, 1, 1, 1, 1, 0])) (i := 1) (d := (some 63)) (ty := 24) (t := 24) (x := (.tmp 10)) (p := ⟨b79, 0, none⟩) (v := .agg (enc_api_Final t105).toArray) (by kernel_rfl) (by kernel_rfl) (by kernel_rfl) (loads_agg (hS176.blk 1 rfl) (by kernel_rfl) (lenK (len_api_Final _) (by kernel_rfl))) ?_
                      refine r_lit (c := (cd46 [1, 1, 1, 0, 0, 0, 1, 0, 1, 1, 1, 1, 1, 1, 0])) (i := 2) (d := (some 64)) (ty := 36) (t := 36) (e := 24) (sz := 49) (n := 1) (parts := #[(0, (.tmp 63))]) (vs := [(0, .agg (enc_api_Final t105).toArray)]) (z := zeroOf Try.prog 24) (cs' := ([t105] : List api_Final).flatMap enc_api_Final) hS176 (by kernel_rfl) (by kernel_rfl) (by kernel_rfl) (by kernel_rfl) (by kernel_rfl) (by decide) (by decide) (by kernel_rfl) rfl (Parts.cons (c := enc_api_Final t105) (by kernel_rfl) (len_api_Final _) Parts.nil) rfl ?_
                      intro b182 w183 hS184
                      have hS185 := hS184.pick1
                      obtain ⟨g186, hp187⟩ := ite_some hp180
                      refine r_append (c := (cd46 [1, 1, 1, 0, 0, 0, 1, 0, 1, 1, 1, 1, 1, 1, 0])) (i := 3) (d := (some 65)) (ty := 36) (enc := enc_api_Final) (e := 24) (u := 24) (t := 36) (t2 := 36) (sz := 49) (cp := c50) (A := A49) (bytes := 392) (xs := t48) (ys := ([t105] : List api_Final)) (s := (.tmp 62)) (x := (.tmp 64)) (xv := .slice (some ⟨b182, 0, none⟩) ([t105] : List api_Final).length 1) (info := infoOf Try.prog 24) (z := zeroOf Try.prog 24) (ycs := ([t105] : List api_Final).flatMap enc_api_Final) hS185 (by kernel_rfl) (by kernel_rfl) (by kernel_rfl) (by kernel_rfl) (by kernel_rfl) (.inl (by kernel_rfl)) (by kernel_rfl) (by kernel_rfl) (by kernel_rfl) (by kernel_rfl) (by kernel_rfl) (by omega) len_api_Final one_api_Final (src_row (hS185.row 1 rfl) (by omega) len_api_Final) rfl g186 (by omega) ?_
                      intro A188 c189 w190 hS191
                      refine sx_run 3 (todo' := [.inLoop (cd46 [1, 1, 1, 0, 0, 0]), .inBlock 0, .code (cd46 [1, 1, 1, 1])]) (us := [(8, .slice A188 (t48 ++ ([t105] : List api_Final)).length c189)]) (by kernel_rfl) ?_
                      have hS193 := hS191.pick1
                      have hS194 := hS193.drop
                      have hS195 := hS194.pick1
                      have hS196 := hS195.drop
                      refine sx_run 1 (todo' := [.code (cd46 [1, 1, 1, 0, 0, 0]), .inLoop (cd46 [1, 1, 1, 0, 0, 0]), .inBlock 0, .code (cd46 [1, 1, 1, 1])]) (us := []) (by kernel_rfl) ?_
                      refine Runs.fill (m := [some (.slice A87 t86.length c88), some (.slice A101 t100.length c102), some (.func (.func 48) #[] #[]), none, none, none, none, none, some (.slice A188 (t48 ++ ([t105] : List api_Final)).length c189), none, none, none, none, none, none, none, none, none, none, none, none, none, none, none, none, none, none, none, none, none, none, none, none, none, none, none, none, none, none, none, none, none, none, none, none, none, none, none, none, none, none, none, none, none, none, none, none, none, none, none, none, none, none, none, none, none, none]) (by kernel_rfl) ?_
                      exact ih58 t86 t100 (t48 ++ ([t105] : List api_Final)) _ hp187 he56 _ A87 c88 A101 c102 A188 c189 _ hS196 hs90 hs104
                  · skip
                    have hp197 := ite_f hp168 h170
                    obtain ⟨t198, hr199, hp200⟩ := bind_some' hp197
                    refine r_call1 (c := (cd46 [1, 1, 1, 0, 0, 0, 1, 0, 1, 1, 1, 1, 1, 0])) (i := 5) (d := (some 61)) (g := 48) (args := #[.bool false, .bool false]) (by kernel_rfl) (by kernel_rfl) (by kernel_rfl) (by kernel_rfl) (state_Meet_1.ok false false hS107 hr199) ?_
                    rintro _ w201 ⟨rfl, hS202⟩
                    refine ⟨.bool t198, rfl, ?_⟩
                    refine sx_run 1 (todo' := [.code (cd46 [1, 1, 1, 0, 0, 0, 1, 0, 1, 1, 1, 1, 1, 1]), .inBlock 1, .inLoop (cd46 [1, 1, 1, 0, 0, 0]), .inBlock 0, .code (cd46 [1, 1, 1, 1])]) (us := []) (by kernel_rfl) ?_
                    cases t198
                    · skip
                      have hp203 := ite_f hp200 rfl
                      refine sx_run 3 (todo' := [.inLoop (cd46 [1, 1, 1, 0, 0, 0]), .inBlock 0, .code (cd46 [1, 1, 1, 1])]) (us := []) (by kernel_rfl) ?_
                      have hS204 := hS202.pick1
                      have hS205 := hS204.drop
                      refine sx_run 1 (todo' := [.code (cd46 [1, 1, 1, 0, 0, 0]), .inLoop (cd46 [1, 1, 1, 0, 0, 0]), .inBlock 0, .code (cd46 [1, 1, 1, 1])]) (us := []) (by kernel_rfl) ?_
                      refine Runs.fill (m := [some (.slice A87 t86.length c88), some (.slice A101 t100.length c102), some (.func (.func 48) #[] #[]), none, none, none, none, none, some (.slice A49 t48.length c50), none, none, none, none, none, none, none, none, none, none, none, none, none, none, none, none, none, none, none, none, none, none, none, none, none, none, none, none, none, none, none, none, none, none, none, none, none, none, none, none, none, none, none, none, none, none, none, none, none, none, none, none, none, none, none, none, none, none]) (by kernel_rfl) ?_
                      exact ih58 t86 t100 t48 _ hp203 he56 _ A87 c88 A101 c102 A49 c50 _ hS205 hs90 hs104
                    · skip
                      have hp206 := ite_t hp200 rfl
                      refine sx_run 3 (todo' := [.inRegion (opsOf (cd46 [1, 1, 1, 0, 0, 0, 1, 0, 1, 1, 1, 1, 1, 1, 0])) [1, 2, 3, 4], .inBlock 1, .inLoop (cd46 [1, 1, 1, 0, 0, 0]), .inBlock 0, .code (cd46 [1, 1, 1, 1])]) (us := [(62, .slice A49 t48.length c50)]) (by kernel_rfl) ?_
                      refine r_load (c := (cd46 [1, 1, 1, 0, 0, 0, 1, 0, 1, 1, 1, 1, 1, 1, 0])) (i := 1) (d := (some 63)) (ty := 24) (t := 24) (x := (.tmp 10)) (p := ⟨b79, 0, none⟩) (v := .agg (enc_api_Final t105).toArray) (by kernel_rfl) (by kernel_rfl) (by kernel_rfl) (loads_agg (hS202.blk 1 rfl) (by kernel_rfl) (lenK (len_api_Final _) (by kernel_rfl))) ?_
                      refine r_lit (c := (cd46 [1, 1, 1, 0, 0, 0, 1, 0, 1, 1, 1, 1, 1, 1, 0])) (i := 2) (d := (some 64)) (ty := 36) (t := 36) (e := 24) (sz := 49) (n := 1) (parts := #[(0, (.tmp 63))]) (vs := [(0, .agg (enc_api_Final t105).toArray)]) (z := zeroOf Try.prog 24) (cs' := ([t105] : List api_Final).flatMap enc_api_Final) hS202 (by kernel_rfl) (by kernel_rfl) (by kernel_rfl) (by kernel_rfl) (by kernel_rfl) (by decide) (by decide) (by kernel_rfl) rfl (Parts.cons (c := enc_api_Final t105) (by kernel_rfl) (len_api_Final _) Parts.nil) rfl ?_
                      intro b208 w209 hS210
                      have hS211 := hS210.pick1
                      obtain ⟨g212, hp213⟩ := ite_some hp206
                      refine r_append (c := (cd46 [1, 1, 1, 0, 0, 0, 1, 0, 1, 1, 1, 1, 1, 1, 0])) (i := 3) (d := (some 65)) (ty := 36) (enc := enc_api_Final) (e := 24) (u := 24) (t := 36) (t2 := 36) (sz := 49) (cp := c50) (A := A49) (bytes := 392) (xs := t48) (ys := ([t105] : List api_Final)) (s := (.tmp 62)) (x := (.tmp 64)) (xv := .slice (some ⟨b208, 0, none⟩) ([t105] : List api_Final).length 1) (info := infoOf Try.prog 24) (z := zeroOf Try.prog 24) (ycs := ([t105] : List api_Final).flatMap enc_api_Final) hS211 (by kernel_rfl) (by kernel_rfl) (by kernel_rfl) (by kernel_rfl) (by kernel_rfl) (.inl (by kernel_rfl)) (by kernel_rfl) (by kernel_rfl) (by kernel_rfl) (by kernel_rfl) (by kernel_rfl) (by omega) len_api_Final one_api_Final (src_row (hS211.row 1 rfl) (by omega) len_api_Final) rfl g212 (by omega) ?_
                      intro A214 c215 w216 hS217
                      refine sx_run 3 (todo' := [.inLoop (cd46 [1, 1, 1, 0, 0, 0]), .inBlock 0, .code (cd46 [1, 1, 1, 1])]) (us := [(8, .slice A214 (t48 ++ ([t105] : List api_Final)).length c215)]) (by kernel_rfl) ?_
                      have hS219 := hS217.pick1
                      have hS220 := hS219.drop
                      have hS221 := hS220.pick1
                      have hS222 := hS221.drop
                      refine sx_run 1 (todo' := [.code (cd46 [1, 1, 1, 0, 0, 0]), .inLoop (cd46 [1, 1, 1, 0, 0, 0]), .inBlock 0, .code (cd46 [1, 1, 1, 1])]) (us := []) (by kernel_rfl) ?_
                      refine Runs.fill (m := [some (.slice A87 t86.length c88), some (.slice A101 t100.length c102), some (.func (.func 48) #[] #[]), none, none, none, none, none, some (.slice A214 (t48 ++ ([t105] : List api_Final)).length c215), none, none, none, none, none, none, none, none, none, none, none, none, none, none, none, none, none, none, none, none, none, none, none, none, none, none, none, none, none, none, none, none, none, none, none, none, none, none, none, none, none, none, none, none, none, none, none, none, none, none, none, none, none, none, none, none, none, none]) (by kernel_rfl) ?_
                      exact ih58 t86 t100 (t48 ++ ([t105] : List api_Final)) _ hp213 he56 _ A87 c88 A101 c102 A214 c215 _ hS222 hs90 hs104
              refine sx_split 5 (todo' := [.inRegion (opsOf (cd46 [1, 1, 1, 0, 0, 0, 1, 0, 1, 1, 1, 1, 0, 0])) [], .code (cd46 [1, 1, 1, 0, 0, 0, 1, 0, 1, 1, 1, 1, 0, 1]), .code (cd46 [1, 1, 1, 0, 0, 0, 1, 0, 1, 1, 1, 1, 1]), .inBlock 1, .inLoop (cd46 [1, 1, 1, 0, 0, 0]), .inBlock 0, .code (cd46 [1, 1, 1, 1])]) (us := [(49, .int .i64 t73)]) (d := 50) (t := (decide (t73 ≥ 0))) (by kernel_rfl) (fun h223 => ?_) (fun h224 => ?_)
              · skip
                have hp225 := ite_t hv98 h223
                refine sx_run 2 (todo' := [.code (cd46 [1, 1, 1, 0, 0, 0, 1, 0, 1, 1, 1, 1, 0, 1, 0]), .code (cd46 [1, 1, 1, 0, 0, 0, 1, 0, 1, 1, 1, 1, 1]), .inBlock 1, .inLoop (cd46 [1, 1, 1, 0, 0, 0]), .inBlock 0, .code (cd46 [1, 1, 1, 1])]) (us := []) (by kernel_rfl) ?_
                obtain ⟨g226, hp227⟩ := ite_some hp225
                obtain ⟨b228, p229, hA230, hc231⟩ := hs47.atF g226.1 g226.2
                obtain ⟨g232, hp233⟩ := ite_some hp227
                obtain ⟨A236, c237, hr234, hs235⟩ := cutSlZ hs47 ((1 : Int).toNat) (t43.length) (by omega) (by omega)
                have hS239 := hS93.pick1
                refine r_drawnF (X := Unit) (c := (cd46 [1, 1, 1, 0, 0, 0, 1, 0, 1, 1, 1, 1, 0, 1, 0])) (id := 14) (C0 := fun w' => St w0 Z (xblk b79 24 (enc_api_Final t91) :: xrow A49 c50 24 49 (t48.flatMap enc_api_Final) :: fs) w') (C1 := fun _ w' => St w0 Z (xblk b79 24 (enc_api_Final (gt t43 (0 : Int))) :: xrow A49 c50 24 49 (t48.flatMap enc_api_Final) :: fs) w') (vs := [.slice A44 t43.length c45, .pointer (some ⟨b228, p229 + (0 : Int).toNat * 49, none⟩), .agg (enc_api_Final (gt t43 (0 : Int))).toArray, .slice A44 t43.length c45, .slice A236 ((t43.take t43.length).drop ((1 : Int).toNat)).length c237, undef, undef]) (vx := fun _ => [.slice A44 t43.length c45, .pointer (some ⟨b228, p229 + (0 : Int).toNat * 49, none⟩), .agg (enc_api_Final (gt t43 (0 : Int))).toArray, .slice A44 t43.length c45, .slice A236 ((t43.take t43.length).drop ((1 : Int).toNat)).length c237, undef, .slice A236 ((t43.take t43.length).drop ((1 : Int).toNat)).length c237]) 5 7 [5, 6] [6] (by kernel_rfl) (by kernel_rfl) (by kernel_rfl) (by decide) (by kernel_rfl) (by kernel_rfl) (by kernel_rfl) rfl ?_ (fun _ => ⟨rfl, rfl⟩) hS239.drew ?_ ?_ ?_ ?_ ?_
                · intro _u i hi hd
                  match i, hi, hd with
                  | 0, _, _ => exact rfl
                  | 1, _, _ => exact rfl
                  | 2, _, _ => exact rfl
                  | 3, _, _ => exact rfl
                  | 4, _, _ => exact rfl
                  | 5, _, hd => exact absurd hd (by decide)
                  | 6, _, hd => exact absurd hd (by decide)
                  | i + 7, hi, _ => exact absurd hi (by omega)
                · intro i hi hd w hC
                  match i, hi, hd with
                  | 0, _, _ => exact does_pure (v := .slice A44 t43.length c45) (by kernel_rfl) rfl hC
                  | 1, _, _ => exact does_run (x_indexAddr (t := 36) (e := 24) (x := (.tmp 51)) (y := (.const (.int .i64 0))) (b := b228) (o' := p229) (n := t43.length) (cp := c45) (sz := 49) (kk := .i64) (j := (0 : Int)) (slv (by kernel_rfl) hA230) (by kernel_rfl) (by kernel_rfl) (by kernel_rfl) g226.1 g226.2 (by kernel_rfl)) rfl hC
                  | 2, _, _ => exact does_run (x_load (t := 24) (x := (.tmp 52)) (p := ⟨b228, p229 + (0 : Int).toNat * 49, none⟩) (v := .agg (enc_api_Final (gt t43 (0 : Int))).toArray) (by kernel_rfl) (loads_agg (hc231.cells hC) (by kernel_rfl) (lenK (len_api_Final _) (by kernel_rfl))) (by kernel_rfl)) rfl hC
                  | 3, _, _ => exact does_pure (v := .slice A44 t43.length c45) (by kernel_rfl) rfl hC
                  | 4, _, _ => exact does_run (x_cutSl_sn (t := 36) (x := (.tmp 54)) (lo := (.const (.int .i64 1))) (e := 24) (sz := 49) (A := A44) (n := t43.length) (c := c45) (k := .i64) (by kernel_rfl) (by kernel_rfl) (by kernel_rfl) (by kernel_rfl) g232 hr234 (by kernel_rfl)) rfl hC
                  | 5, _, hd => exact absurd hd (by decide)
                  | 6, _, hd => exact absurd hd (by decide)
                  | i + 7, hi, _ => exact absurd hi (by omega)
                · intro i hi hd _u w hC
                  match i, hi, hd with
                  | 0, _, _ => exact does_pure (v := .slice A44 t43.length c45) (by kernel_rfl) rfl hC
                  | 1, _, _ => exact does_run (x_indexAddr (t := 36) (e := 24) (x := (.tmp 51)) (y := (.const (.int .i64 0))) (b := b228) (o' := p229) (n := t43.length) (cp := c45) (sz := 49) (kk := .i64) (j := (0 : Int)) (slv (by kernel_rfl) hA230) (by kernel_rfl) (by kernel_rfl) (by kernel_rfl) g226.1 g226.2 (by kernel_rfl)) rfl hC
                  | 2, _, _ => exact does_run (x_load (t := 24) (x := (.tmp 52)) (p := ⟨b228, p229 + (0 : Int).toNat * 49, none⟩) (v := .agg (enc_api_Final (gt t43 (0 : Int))).toArray) (by kernel_rfl) (loads_agg (hc231.cells hC) (by kernel_rfl) (lenK (len_api_Final _) (by kernel_rfl))) (by kernel_rfl)) rfl hC
                  | 3, _, _ => exact does_pure (v := .slice A44 t43.length c45) (by kernel_rfl) rfl hC
                  | 4, _, _ => exact does_run (x_cutSl_sn (t := 36) (x := (.tmp 54)) (lo := (.const (.int .i64 1))) (e := 24) (sz := 49) (A := A44) (n := t43.length) (c := c45) (k := .i64) (by kernel_rfl) (by kernel_rfl) (by kernel_rfl) (by kernel_rfl) g232 hr234 (by kernel_rfl)) rfl hC
                  | 5, _, hd => exact absurd hd (by decide)
                  | 6, _, hd => exact absurd hd (by decide)
                  | i + 7, hi, _ => exact absurd hi (by omega)
                · intro w hC
                  exact does_store (ux := ()) (t := 24) (x := (.tmp 10)) (y := (.tmp 53)) (b := b79) (o := 0) (e := 24) (cs := enc_api_Final t91) (v := .agg (enc_api_Final (gt t43 (0 : Int))).toArray) (vs := enc_api_Final (gt t43 (0 : Int))) (cs' := enc_api_Final (gt t43 (0 : Int))) hC (by kernel_rfl) (by kernel_rfl) (by kernel_rfl) (by kernel_rfl) (by kernel_rfl) (lenK (len_api_Final _) (by kernel_rfl)) (one_api_Final _) (by simp only [len_api_Final, List.length_cons, List.length_nil, List.length_append]; omega) (over_all ((len_api_Final _).trans (len_api_Final _).symm)) (fun _ h => h)
                · intro i hi hd hne _u w hC
                  match i, hi, hd, hne with
                  | 0, _, hd, _ => exact absurd hd (by decide)
                  | 1, _, hd, _ => exact absurd hd (by decide)
                  | 2, _, hd, _ => exact absurd hd (by decide)
                  | 3, _, hd, _ => exact absurd hd (by decide)
                  | 4, _, hd, _ => exact absurd hd (by decide)
                  | 5, _, _, hne => exact absurd rfl hne
                  | 6, _, _, _ => exact does_pure (v := .slice A236 ((t43.take t43.length).drop ((1 : Int).toNat)).length c237) (by kernel_rfl) rfl hC
                  | i + 7, hi, _, _ => exact absurd hi (by omega)
                intro _u w240 hS241
                have hS242 := hS241.pick1
                refine Runs.fill (m := [some (.slice A87 t86.length c88), some (.slice A236 ((t43.take t43.length).drop ((1 : Int).toNat)).length c237), some (.func (.func 48) #[] #[]), none, none, none, none, none, some (.slice A49 t48.length c50), some (.int .i64 t73), some (.pointer (some ⟨b79, 0, none⟩)), none, none, none, none, none, none, none, none, none, none, none, none, none, none, none, none, none, none, none, none, none, none, none, none, none, none, none, none, none, none, none, none, none, none, none, none, none, none, none, none, none, none, none, none, none, none, none, none, none, none, none, none, none, none, none, none]) (by kernel_rfl) ?_
                exact J108 ((t43.take t43.length).drop ((1 : Int).toNat)) (gt t43 (0 : Int)) (Option.some.inj hp233) _ A236 c237 _ hS242 hs235
              · skip
                have hp243 := ite_f hv98 h224
                refine sx_run 3 (todo' := [.code (cd46 [1, 1, 1, 0, 0, 0, 1, 0, 1, 1, 1, 1, 1]), .inBlock 1, .inLoop (cd46 [1, 1, 1, 0, 0, 0]), .inBlock 0, .code (cd46 [1, 1, 1, 1])]) (us := []) (by kernel_rfl) ?_
                refine Runs.fill (m := [some (.slice A87 t86.length c88), some (.slice A44 t43.length c45), some (.func (.func 48) #[] #[]), none, none, none, none, none, some (.slice A49 t48.length c50), some (.int .i64 t73), some (.pointer (some ⟨b79, 0, none⟩)), none, none, none, none, none, none, none, none, none, none, none, none, none, none, none, none, none, none, none, none, none, none, none, none, none, none, none, none, none, none, none, none, none, none, none, none, none, none, none, none, none, none, none, none, none, none, none, none, none, none, none, none, none, none, none, none]) (by kernel_rfl) ?_
                exact J108 t43 t91 (Option.some.inj hp243) _ A44 c45 _ hS93 hs47
            refine sx_split 6 (todo' := [.inRegion (opsOf (cd46 [1, 1, 1, 0, 0, 0, 1, 0, 1, 1, 1, 0, 0])) [], .code (cd46 [1, 1, 1, 0, 0, 0, 1, 0, 1, 1, 1, 0, 1]), .code (cd46 [1, 1, 1, 0, 0, 0, 1, 0, 1, 1, 1, 1]), .inBlock 1, .inLoop (cd46 [1, 1, 1, 0, 0, 0]), .inBlock 0, .code (cd46 [1, 1, 1, 1])]) (us := [(42, .int .i64 t73)]) (d := 43) (t := (decide (t73 ≤ 0))) (by kernel_rfl) (fun h244 => ?_) (fun h245 => ?_)
            · skip
              have hp246 := ite_t hv84 h244
              refine sx_run 2 (todo' := [.code (cd46 [1, 1, 1, 0, 0, 0, 1, 0, 1, 1, 1, 0, 1, 0]), .code (cd46 [1, 1, 1, 0, 0, 0, 1, 0, 1, 1, 1, 1]), .inBlock 1, .inLoop (cd46 [1, 1, 1, 0, 0, 0]), .inBlock 0, .code (cd46 [1, 1, 1, 1])]) (us := []) (by kernel_rfl) ?_
              obtain ⟨g247, hp248⟩ := ite_some hp246
              obtain ⟨b249, p250, hA251, hc252⟩ := hs42.atF g247.1 g247.2
              obtain ⟨g253, hp254⟩ := ite_some hp248
              obtain ⟨A257, c258, hr255, hs256⟩ := cutSlZ hs42 ((1 : Int).toNat) (t38.length) (by omega) (by omega)
              refine r_drawnF (X := Unit) (c := (cd46 [1, 1, 1, 0, 0, 0, 1, 0, 1, 1, 1, 0, 1, 0])) (id := 12) (C0 := fun w' => St w0 Z (xblk b79 24 (enc_api_Final (⟨0, (Vector.replicate 48 0)⟩ : api_Final)) :: xrow A49 c50 24 49 (t48.flatMap enc_api_Final) :: fs) w') (C1 := fun _ w' => St w0 Z (xblk b79 24 (enc_api_Final (gt t38 (0 : Int))) :: xrow A49 c50 24 49 (t48.flatMap enc_api_Final) :: fs) w') (vs := [.slice A39 t38.length c40, .pointer (some ⟨b249, p250 + (0 : Int).toNat * 49, none⟩), .agg (enc_api_Final (gt t38 (0 : Int))).toArray, .slice A39 t38.length c40, .slice A257 ((t38.take t38.length).drop ((1 : Int).toNat)).length c258, undef, undef]) (vx := fun _ => [.slice A39 t38.length c40, .pointer (some ⟨b249, p250 + (0 : Int).toNat * 49, none⟩), .agg (enc_api_Final (gt t38 (0 : Int))).toArray, .slice A39 t38.length c40, .slice A257 ((t38.take t38.length).drop ((1 : Int).toNat)).length c258, undef, .slice A257 ((t38.take t38.length).drop ((1 : Int).toNat)).length c258]) 5 7 [5, 6] [6] (by kernel_rfl) (by kernel_rfl) (by kernel_rfl) (by decide) (by kernel_rfl) (by kernel_rfl) (by kernel_rfl) rfl ?_ (fun _ => ⟨rfl, rfl⟩) hS81.drew ?_ ?_ ?_ ?_ ?_
              · intro _u i hi hd
                match i, hi, hd with
                | 0, _, _ => exact rfl
                | 1, _, _ => exact rfl
                | 2, _, _ => exact rfl
                | 3, _, _ => exact rfl
                | 4, _, _ => exact rfl
                | 5, _, hd => exact absurd hd (by decide)
                | 6, _, hd => exact absurd hd (by decide)
                | i + 7, hi, _ => exact absurd hi (by omega)
              · intro i hi hd w hC
                match i, hi, hd with
                | 0, _, _ => exact does_pure (v := .slice A39 t38.length c40) (by kernel_rfl) rfl hC
                | 1, _, _ => exact does_run (x_indexAddr (t := 36) (e := 24) (x := (.tmp 44)) (y := (.const (.int .i64 0))) (b := b249) (o' := p250) (n := t38.length) (cp := c40) (sz := 49) (kk := .i64) (j := (0 : Int)) (slv (by kernel_rfl) hA251) (by kernel_rfl) (by kernel_rfl) (by kernel_rfl) g247.1 g247.2 (by kernel_rfl)) rfl hC
                | 2, _, _ => exact does_run (x_load (t := 24) (x := (.tmp 45)) (p := ⟨b249, p250 + (0 : Int).toNat * 49, none⟩) (v := .agg (enc_api_Final (gt t38 (0 : Int))).toArray) (by kernel_rfl) (loads_agg (hc252.cells hC) (by kernel_rfl) (lenK (len_api_Final _) (by kernel_rfl))) (by kernel_rfl)) rfl hC
                | 3, _, _ => exact does_pure (v := .slice A39 t38.length c40) (by kernel_rfl) rfl hC
                | 4, _, _ => exact does_run (x_cutSl_sn (t := 36) (x := (.tmp 47)) (lo := (.const (.int .i64 1))) (e := 24) (sz := 49) (A := A39) (n := t38.length) (c := c40) (k := .i64) (by kernel_rfl) (by kernel_rfl) (by kernel_rfl) (by kernel_rfl) g253 hr255 (by kernel_rfl)) rfl hC
                | 5, _, hd => exact absurd hd (by decide)
                | 6, _, hd => exact absurd hd (by decide)
                | i + 7, hi, _ => exact absurd hi (by omega)
              · intro i hi hd _u w hC
                match i, hi, hd with
                | 0, _, _ => exact does_pure (v := .slice A39 t38.length c40) (by kernel_rfl) rfl hC
                | 1, _, _ => exact does_run (x_indexAddr (t := 36) (e := 24) (x := (.tmp 44)) (y := (.const (.int .i64 0))) (b := b249) (o' := p250) (n := t38.length) (cp := c40) (sz := 49) (kk := .i64) (j := (0 : Int)) (slv (by kernel_rfl) hA251) (by kernel_rfl) (by kernel_rfl) (by kernel_rfl) g247.1 g247.2 (by kernel_rfl)) rfl hC
                | 2, _, _ => exact does_run (x_load (t := 24) (x := (.tmp 45)) (p := ⟨b249, p250 + (0 : Int).toNat * 49, none⟩) (v := .agg (enc_api_Final (gt t38 (0 : Int))).toArray) (by kernel_rfl) (loads_agg (hc252.cells hC) (by kernel_rfl) (lenK (len_api_Final _) (by kernel_rfl))) (by kernel_rfl)) rfl hC
                | 3, _, _ => exact does_pure (v := .slice A39 t38.length c40) (by kernel_rfl) rfl hC
                | 4, _, _ => exact does_run (x_cutSl_sn (t := 36) (x := (.tmp 47)) (lo := (.const (.int .i64 1))) (e := 24) (sz := 49) (A := A39) (n := t38.length) (c := c40) (k := .i64) (by kernel_rfl) (by kernel_rfl) (by kernel_rfl) (by kernel_rfl) g253 hr255 (by kernel_rfl)) rfl hC
                | 5, _, hd => exact absurd hd (by decide)
                | 6, _, hd => exact absurd hd (by decide)
                | i + 7, hi, _ => exact absurd hi (by omega)
              · intro w hC
                exact does_store (ux := ()) (t := 24) (x := (.tmp 10)) (y := (.tmp 46)) (b := b79) (o := 0) (e := 24) (cs := enc_api_Final (⟨0, (Vector.replicate 48 0)⟩ : api_Final)) (v := .agg (enc_api_Final (gt t38 (0 : Int))).toArray) (vs := enc_api_Final (gt t38 (0 : Int))) (cs' := enc_api_Final (gt t38 (0 : Int))) hC (by kernel_rfl) (by kernel_rfl) (by kernel_rfl) (by kernel_rfl) (by kernel_rfl) (lenK (len_api_Final _) (by kernel_rfl)) (one_api_Final _) (by simp only [len_api_Final, List.length_cons, List.length_nil, List.length_append]; omega) (over_all ((len_api_Final _).trans (len_api_Final _).symm)) (fun _ h => h)
              · intro i hi hd hne _u w hC
                match i, hi, hd, hne with
                | 0, _, hd, _ => exact absurd hd (by decide)
                | 1, _, hd, _ => exact absurd hd (by decide)
                | 2, _, hd, _ => exact absurd hd (by decide)
                | 3, _, hd, _ => exact absurd hd (by decide)
                | 4, _, hd, _ => exact absurd hd (by decide)
                | 5, _, _, hne => exact absurd rfl hne
                | 6, _, _, _ => exact does_pure (v := .slice A257 ((t38.take t38.length).drop ((1 : Int).toNat)).length c258) (by kernel_rfl) rfl hC
                | i + 7, hi, _, _ => exact absurd hi (by omega)
              intro _u w260 hS261
              have hS262 := hS261.pick1
              refine Runs.fill (m := [some (.slice A257 ((t38.take t38.length).drop ((1 : Int).toNat)).length c258), some (.slice A44 t43.length c45), some (.func (.func 48) #[] #[]), none, none, none, none, none, some (.slice A49 t48.length c50), some (.int .i64 t73), some (.pointer (some ⟨b79, 0, none⟩)), none, none, none, none, none, none, none, none, none, none, none, none, none, none, none, none, none, none, none, none, none, none, none, none, none, none, none, none, none, none, none, none, none, none, none, none, none, none, none, none, none, none, none, none, none, none, none, none, none, none, none, none, none, none, none, none]) (by kernel_rfl) ?_
              exact J94 ((t38.take t38.length).drop ((1 : Int).toNat)) (gt t38 (0 : Int)) (Option.some.inj hp254) _ A257 c258 _ hS262 hs256
            · skip
              have hp263 := ite_f hv84 h245
              refine sx_run 3 (todo' := [.code (cd46 [1, 1, 1, 0, 0, 0, 1, 0, 1, 1, 1, 1]), .inBlock 1, .inLoop (cd46 [1, 1, 1, 0, 0, 0]), .inBlock 0, .code (cd46 [1, 1, 1, 1])]) (us := []) (by kernel_rfl) ?_
              have hS264 := hS81.pick1
              refine Runs.fill (m := [some (.slice A39 t38.length c40), some (.slice A44 t43.length c45), some (.func (.func 48) #[] #[]), none, none, none, none, none, some (.slice A49 t48.length c50), some (.int .i64 t73), some (.pointer (some ⟨b79, 0, none⟩)), none, none, none, none, none, none, none, none, none, none, none, none, none, none, none, none, none, none, none, none, none, none, none, none, none, none, none, none, none, none, none, none, none, none, none, none, none, none, none, none, none, none, none, none, none, none, none, none, none, none, none, none, none, none, none, none]) (by kernel_rfl) ?_
              exact J94 t38 (⟨0, (Vector.replicate 48 0)⟩ : api_Final) (Option.some.inj hp263) _ A39 c40 _ hS264 hs42
          refine sx_split 12 (todo' := [.inRegion (opsOf (cd46 [1, 1, 1, 0, 0, 0, 1, 0, 1, 0, 0, 0])) [3], .code (cd46 [1, 1, 1, 0, 0, 0, 1, 0, 1, 0, 0, 1]), .inBlock 2, .code (cd46 [1, 1, 1, 0, 0, 0, 1, 0, 1, 1]), .inBlock 1, .inLoop (cd46 [1, 1, 1, 0, 0, 0]), .inBlock 0, .code (cd46 [1, 1, 1, 1])]) (us := [(9, .int .i64 (-1)), (28, .slice A39 t38.length c40), (29, .int .i64 (t38.length : Int))]) (d := 30) (t := ((t38.length : Int) == 0)) (by kernel_rfl) (fun h265 => ?_) (fun h266 => ?_)
          · skip
            have hp267 := ite_t hv71 h265
            refine sx_run 7 (todo' := [.code (cd46 [1, 1, 1, 0, 0, 0, 1, 0, 1, 1]), .inBlock 1, .inLoop (cd46 [1, 1, 1, 0, 0, 0]), .inBlock 0, .code (cd46 [1, 1, 1, 1])]) (us := [(27, .bool true), (9, .int .i64 1)]) (by kernel_rfl) ?_
            refine Runs.fill (m := [some (.slice A39 t38.length c40), some (.slice A44 t43.length c45), some (.func (.func 48) #[] #[]), none, none, none, none, none, some (.slice A49 t48.length c50), some (.int .i64 1), none, none, none, none, none, none, none, none, none, none, none, none, none, none, none, none, none, none, none, none, none, none, none, none, none, none, none, none, none, none, none, none, none, none, none, none, none, none, none, none, none, none, none, none, none, none, none, none, none, none, none, none, none, none, none, none, none]) (by kernel_rfl) ?_
            exact J76 1 (Option.some.inj hp267) _ _ hS65
          · skip
            have hp268 := ite_f hv71 h266
            refine sx_split 8 (todo' := [.inRegion (opsOf (cd46 [1, 1, 1, 0, 0, 0, 1, 0, 1, 0, 0, 1, 1, 0])) [3], .code (cd46 [1, 1, 1, 0, 0, 0, 1, 0, 1, 0, 0, 1, 1, 1]), .inBlock 2, .code (cd46 [1, 1, 1, 0, 0, 0, 1, 0, 1, 1]), .inBlock 1, .inLoop (cd46 [1, 1, 1, 0, 0, 0]), .inBlock 0, .code (cd46 [1, 1, 1, 1])]) (us := [(27, .bool false), (32, .slice A44 t43.length c45), (33, .int .i64 (t43.length : Int))]) (d := 34) (t := (decide ((t43.length : Int) > 0))) (by kernel_rfl) (fun h269 => ?_) (fun h270 => ?_)
            · skip
              have hp271 := ite_t hp268 h269
              refine sx_run 3 (todo' := [.code (cd46 [1, 1, 1, 0, 0, 0, 1, 0, 1, 0, 0, 1, 1, 1, 0]), .inBlock 2, .code (cd46 [1, 1, 1, 0, 0, 0, 1, 0, 1, 1]), .inBlock 1, .inLoop (cd46 [1, 1, 1, 0, 0, 0]), .inBlock 0, .code (cd46 [1, 1, 1, 1])]) (us := [(31, .bool true)]) (by kernel_rfl) ?_
              refine r_quiet hS65 (c := (cd46 [1, 1, 1, 0, 0, 0, 1, 0, 1, 0, 0, 1, 1, 1, 0])) (id := 9) (by kernel_rfl) (by kernel_rfl) (by kernel_rfl) (is := [0, 1, 2, 3, 4, 5, 6, 7]) (by kernel_rfl) ?_
              refine q_run 1 (is' := [1, 2, 3, 4, 5, 6, 7]) (us := [(35, .slice A39 t38.length c40)]) (by kernel_rfl) ?_
              obtain ⟨g272, hp273⟩ := ite_some hp271
              obtain ⟨b274, p275, hA276, hc277⟩ := hs42.atF g272.1 g272.2
              refine q_indexAddr (c := (cd46 [1, 1, 1, 0, 0, 0, 1, 0, 1, 0, 0, 1, 1, 1, 0])) (i := 1) (d := (some 36)) (ty := 0) (t := 36) (e := 24) (n := t38.length) (cp := c40) (sz := 49) (kk := .i64) (x := (.tmp 35)) (y := (.const (.int .i64 0))) (b := b274) (o' := p275) (j := (0 : Int)) (by kernel_rfl) (by kernel_rfl) (slv (by kernel_rfl) hA276) (by kernel_rfl) (by kernel_rfl) (by kernel_rfl) g272.1 g272.2 ?_
              refine q_load (c := (cd46 [1, 1, 1, 0, 0, 0, 1, 0, 1, 0, 0, 1, 1, 1, 0])) (i := 2) (d := (some 37)) (ty := 24) (t := 24) (x := (.tmp 36)) (p := ⟨b274, p275 + (0 : Int).toNat * 49, none⟩) (v := .agg (enc_api_Final (gt t38 (0 : Int))).toArray) (by kernel_rfl) (by kernel_rfl) (by kernel_rfl) (fun w hC => (loads_agg (hc277.cells hC) (by kernel_rfl) (lenK (len_api_Final _) (by kernel_rfl)))) ?_
              refine q_run 1 (is' := [4, 5, 6, 7]) (us := [(38, .slice A44 t43.length c45)]) (by kernel_rfl) ?_
              obtain ⟨g278, hp279⟩ := ite_some hp273
              obtain ⟨b280, p281, hA282, hc283⟩ := hs47.atF g278.1 g278.2
              refine q_indexAddr (c := (cd46 [1, 1, 1, 0, 0, 0, 1, 0, 1, 0, 0, 1, 1, 1, 0])) (i := 4) (d := (some 39)) (ty := 0) (t := 36) (e := 24) (n := t43.length) (cp := c45) (sz := 49) (kk := .i64) (x := (.tmp 38)) (y := (.const (.int .i64 0))) (b := b280) (o' := p281) (j := (0 : Int)) (by kernel_rfl) (by kernel_rfl) (slv (by kernel_rfl) hA282) (by kernel_rfl) (by kernel_rfl) (by kernel_rfl) g278.1 g278.2 ?_
              refine q_load (c := (cd46 [1, 1, 1, 0, 0, 0, 1, 0, 1, 0, 0, 1, 1, 1, 0])) (i := 5) (d := (some 40)) (ty := 24) (t := 24) (x := (.tmp 39)) (p := ⟨b280, p281 + (0 : Int).toNat * 49, none⟩) (v := .agg (enc_api_Final (gt t43 (0 : Int))).toArray) (by kernel_rfl) (by kernel_rfl) (by kernel_rfl) (fun w hC => (loads_agg (hc283.cells hC) (by kernel_rfl) (lenK (len_api_Final _) (by kernel_rfl)))) ?_
              obtain ⟨t284, hr285, hp286⟩ := bind_some' hp279
              refine q_call1 (c := (cd46 [1, 1, 1, 0, 0, 0, 1, 0, 1, 0, 0, 1, 1, 1, 0])) (i := 6) (d := (some 41)) (v := .int .i64 t284) (g := 21) (args := #[.agg (enc_api_Final (gt t38 (0 : Int))).toArray, .agg (enc_api_Final (gt t43 (0 : Int))).toArray]) (by kernel_rfl) (by kernel_rfl) (by kernel_rfl) (by kernel_rfl) (fun w hC => by
                refine (state_Compare.ok (gt t38 (0 : Int)) (gt t43 (0 : Int)) hC hr285).mono ?_
                rintro e w2 ⟨rfl, h2⟩
                exact ⟨rfl, h2⟩) ?_
              refine q_run 1 (is' := []) (us := [(9, .int .i64 t284)]) (by kernel_rfl) ?_
              refine Qs.nil ?_
              intro w287 hS288
              refine sx_run 1 (todo' := [.code (cd46 [1, 1, 1, 0, 0, 0, 1, 0, 1, 1]), .inBlock 1, .inLoop (cd46 [1, 1, 1, 0, 0, 0]), .inBlock 0, .code (cd46 [1, 1, 1, 1])]) (us := []) (by kernel_rfl) ?_
              refine Runs.fill (m := [some (.slice A39 t38.length c40), some (.slice A44 t43.length c45), some (.func (.func 48) #[] #[]), none, none, none, none, none, some (.slice A49 t48.length c50), some (.int .i64 t284), none, none, none, none, none, none, none, none, none, none, none, none, none, none, none, none, none, none, none, none, none, none, none, none, none, none, none, none, none, none, none, none, none, none, none, none, none, none, none, none, none, none, none, none, none, none, none, none, none, none, none, none, none, none, none, none, none]) (by kernel_rfl) ?_
              exact J76 t284 (Option.some.inj hp286) _ _ hS288
            · skip
              have hp289 := ite_f hp268 h270
              refine sx_run 5 (todo' := [.code (cd46 [1, 1, 1, 0, 0, 0, 1, 0, 1, 1]), .inBlock 1, .inLoop (cd46 [1, 1, 1, 0, 0, 0]), .inBlock 0, .code (cd46 [1, 1, 1, 1])]) (us := [(31, .bool false)]) (by kernel_rfl) ?_
              refine Runs.fill (m := [some (.slice A39 t38.length c40), some (.slice A44 t43.length c45), some (.func (.func 48) #[] #[]), none, none, none, none, none, some (.slice A49 t48.length c50), some (.int .i64 (-1)), none, none, none, none, none, none, none, none, none, none, none, none, none, none, none, none, none, none, none, none, none, none, none, none, none, none, none, none, none, none, none, none, none, none, none, none, none, none, none, none, none, none, none, none, none, none, none, none, none, none, none, none, none, none, none, none, none]) (by kernel_rfl) ?_
              exact J76 (-1) (Option.some.inj hp289) _ _ hS65
        refine sx_split 6 (todo' := [.inRegion (opsOf (cd46 [1, 1, 1, 0, 0, 0, 0, 0])) [3, 4, 5, 6, 7], .code (cd46 [1, 1, 1, 0, 0, 0, 0, 1]), .code (cd46 [1, 1, 1, 0, 0, 0, 1]), .inLoop (cd46 [1, 1, 1, 0, 0, 0]), .inBlock 0, .code (cd46 [1, 1, 1, 1])]) (us := [(19, .slice A39 t38.length c40), (20, .int .i64 (t38.length : Int))]) (d := 21) (t := (decide ((t38.length : Int) > 0))) (by kernel_rfl) (fun h290 => ?_) (fun h291 => ?_)
        · skip
          have hp292 := ite_t hv62 h290
          refine sx_run 8 (todo' := [.code (cd46 [1, 1, 1, 0, 0, 0, 1]), .inLoop (cd46 [1, 1, 1, 0, 0, 0]), .inBlock 0, .code (cd46 [1, 1, 1, 1])]) (us := [(22, .bool true), (23, undef), (24, undef), (25, undef), (26, .bool true)]) (by kernel_rfl) ?_
          refine Runs.fill (m := [some (.slice A39 t38.length c40), some (.slice A44 t43.length c45), some (.func (.func 48) #[] #[]), none, none, none, none, none, some (.slice A49 t48.length c50), none, none, none, none, none, none, none, none, none, none, none, none, none, none, none, none, none, none, none, none, none, none, none, none, none, none, none, none, none, none, none, none, none, none, none, none, none, none, none, none, none, none, none, none, none, none, none, none, none, none, none, none, none, none, none, none, none, none]) (by kernel_rfl) ?_
          exact J67 (Option.some.inj hp292) _ _ hS53
        · skip
          have hp293 := ite_f hv62 h291
          refine sx_split 4 (todo' := [.inRegion (opsOf (cd46 [1, 1, 1, 0, 0, 0, 0, 0])) [7], .code (cd46 [1, 1, 1, 0, 0, 0, 0, 1]), .code (cd46 [1, 1, 1, 0, 0, 0, 1]), .inLoop (cd46 [1, 1, 1, 0, 0, 0]), .inBlock 0, .code (cd46 [1, 1, 1, 1])]) (us := [(22, .bool false), (23, .slice A44 t43.length c45), (24, .int .i64 (t43.length : Int))]) (d := 25) (t := (decide ((t43.length : Int) > 0))) (by kernel_rfl) (fun h294 => ?_) (fun h295 => ?_)
          · skip
            have hp296 := ite_t hp293 h294
            refine sx_run 4 (todo' := [.code (cd46 [1, 1, 1, 0, 0, 0, 1]), .inLoop (cd46 [1, 1, 1, 0, 0, 0]), .inBlock 0, .code (cd46 [1, 1, 1, 1])]) (us := [(26, .bool true)]) (by kernel_rfl) ?_
            refine Runs.fill (m := [some (.slice A39 t38.length c40), some (.slice A44 t43.length c45), some (.func (.func 48) #[] #[]), none, none, none, none, none, some (.slice A49 t48.length c50), none, none, none, none, none, none, none, none, none, none, none, none, none, none, none, none, none, none, none, none, none, none, none, none, none, none, none, none, none, none, none, none, none, none, none, none, none, none, none, none, none, none, none, none, none, none, none, none, none, none, none, none, none, none, none, none, none, none]) (by kernel_rfl) ?_
            exact J67 (Option.some.inj hp296) _ _ hS53
          · skip
            have hp297 := ite_f hp293 h295
            refine sx_run 4 (todo' := [.code (cd46 [1, 1, 1, 1])]) (us := [(26, .bool false)]) (by kernel_rfl) ?_
            refine Runs.fill (m := [none, none, none, none, none, none, none, none, some (.slice A49 t48.length c50), none, none, none, none, none, none, none, none, none, none, none, none, none, none, none, none, none, none, none, none, none, none, none, none, none, none, none, none, none, none, none, none, none, none, none, none, none, none, none, none, none, none, none, none, none, none, none, none, none, none, none, none, none, none, none, none, none, none]) (by kernel_rfl) ?_
            exact J34 t48 ((hq66 _ (Option.some.inj hp297)).trans he56) _ A49 c50 _ hS53
      have hS299 := hS17.nilrow none 24 49
      refine Runs.fill (m := [some (.slice Aa0 a0.length ca0), some (.slice Aa1 a1.length ca1), some (.func (.func 48) #[] #[]), none, none, none, none, none, some (.slice none 0 0), none, none, none, none, none, none, none, none, none, none, none, none, none, none, none, none, none, none, none, none, none, none, none, none, none, none, none, none, none, none, none, none, none, none, none, none, none, none, none, none, none, none, none, none, none, none, none, none, none, none, none, none, none, none, none, none, none, none]) (by kernel_rfl) ?_
      exact L60 a0 a1 [] _ hv26 rfl _ Aa0 ca0 Aa1 ca1 none 0 _ hS299 ha0 ha1

noncomputable def cd37 (p : List Nat) : Code := sub (bodyOf Try.f37) p
def state_Meet.f (a0 : List api_Final) (a1 : List api_Final) : Option ((List api_Final) × Int) :=
  (state_walk_1.f a0 a1 >>= (fun (t1, t2) => some ((t1, t2))))
set_option maxHeartbeats 16000000 in
theorem state_Meet.ok (a0 : List api_Final) (a1 : List api_Final) (Aa0 : Option Addr) (ca0 : Nat) (Aa1 : Option Addr) (ca1 : Nat) {w0 : World} {Z : Zm} {fs : List XObj} {w : World} (hS0 : St w0 Z (fs) w) (ha0 : SlZ (flat enc_api_Final) 49 Z Aa0 ca0 a0) (ha1 : SlZ (flat enc_api_Final) 49 Z Aa1 ca1 a1) {q0 : List api_Final} {q1 : Int} (hp0 : state_Meet.f a0 a1 = some (q0, q1)) :
    Calls Try.prog 37 #[.slice Aa0 a0.length ca0, .slice Aa1 a1.length ca1] w (fun e w' => ∃ (QA0 : Option Addr) (Qc0 : Nat), e = .returned (.tuple #[.slice QA0 q0.length Qc0, .int .i64 q1]) ∧ St w0 Z (xrow QA0 Qc0 24 49 (q0.flatMap enc_api_Final) :: fs) w') := by
  refine calls_abs ?_; intro R hR
  unfold state_Meet.f at hp0
  refine calls_of_runs (fn := Try.f37) (c := cd37 []) Try.func37 (by kernel_rfl) (al := [.slice Aa0 a0.length ca0, .slice Aa1 a1.length ca1]) rfl (n := 9) rfl ?_
  refine sx_run 9 (todo' := [.inRegion (opsOf (cd37 [1, 0])) [2, 3, 4, 5, 6], .code (cd37 [1, 1])]) (us := [(4, .slice none 0 0), (5, .int .i64 0), (6, .slice Aa0 a0.length ca0), (7, .slice Aa1 a1.length ca1)]) (by kernel_rfl) ?_
  obtain ⟨⟨t1, t2⟩, hr5, hp6⟩ := bind_some' hp0
  try dsimp only at hp6
  refine r_call1 (c := (cd37 [1, 0])) (i := 2) (d := (some 8)) (g := 46) (args := #[.slice Aa0 a0.length ca0, .slice Aa1 a1.length ca1, .func (.func 48) #[] #[]]) (by kernel_rfl) (by kernel_rfl) (by kernel_rfl) (by kernel_rfl) (state_walk_1.ok a0 a1 Aa0 ca0 Aa1 ca1 hS0 ha0 ha1 hr5) ?_
  rintro _ w8 ⟨Q3, Q4, rfl, hS9⟩
  refine ⟨.tuple #[.slice Q3 t1.length Q4, .int .i64 t2], rfl, ?_⟩
  refine sx_run 5 (todo' := [.code (cd37 [1, 1])]) (us := [(9, .slice Q3 t1.length Q4), (10, .int .i64 t2), (4, .slice Q3 t1.length Q4), (5, .int .i64 t2)]) (by kernel_rfl) ?_
  refine runs_ret (fn := Try.f37) (v := .tuple #[.slice Q3 t1.length Q4, .int .i64 t2]) Try.func37 (by kernel_rfl) ?_
  have hr10 := (Option.some.inj hp6)
  cases hr10
  exact hR _ _ ⟨Q3, Q4, rfl, hS9⟩

noncomputable def cd49 (p : List Nat) : Code := sub (bodyOf Try.f49) p
def state_Minus_1.f (a0 : Bool) (a1 : Bool) : Option Bool :=
  (if (!a1) = true then some (true) else some (false))
set_option maxHeartbeats 16000000 in
theorem state_Minus_1.ok (a0 : Bool) (a1 : Bool) {w0 : World} {Z : Zm} {fs : List XObj} {w : World} (hS0 : St w0 Z (fs) w) {q0 : Bool} (hp0 : state_Minus_1.f a0 a1 = some q0) :
    Calls Try.prog 49 #[.bool a0, .bool a1] w (fun e w' => e = .returned (.bool q0) ∧ St w0 Z (fs) w') := by
  refine calls_abs ?_; intro R hR
  unfold state_Minus_1.f at hp0
  refine calls_of_runs (fn := Try.f49) (c := cd49 []) Try.func49 (by kernel_rfl) (al := [.bool a0, .bool a1]) rfl (n := 5) rfl ?_
  refine sx_split 8 (todo' := [.inRegion (opsOf (cd49 [1, 0])) [2], .code (cd49 [1, 1])]) (us := [(4, .bool false), (5, .bool a1)]) (d := 6) (t := (!a1)) (by kernel_rfl) (fun h1 => ?_) (fun h2 => ?_)
  · skip
    have hp3 := ite_t hp0 h1
    refine sx_run 2 (todo' := [.code (cd49 [1, 1])]) (us := [(4, .bool true)]) (by kernel_rfl) ?_
    refine runs_ret (fn := Try.f49) (v := .bool true) Try.func49 (by kernel_rfl) ?_
    have hr4 := (Option.some.inj hp3)
    cases hr4
    exact hR _ _ ⟨rfl, hS0⟩
  · skip
    have hp5 := ite_f hp0 h2
    refine sx_run 2 (todo' := [.code (cd49 [1, 1])]) (us := [(4, .bool false)]) (by kernel_rfl) ?_
    refine runs_ret (fn := Try.f49) (v := .bool false) Try.func49 (by kernel_rfl) ?_
    have hr6 := (Option.some.inj hp5)
    cases hr6
    exact hR _ _ ⟨rfl, hS0⟩

end
end Go.Proofs.Yteppciglfdiljaa.K
