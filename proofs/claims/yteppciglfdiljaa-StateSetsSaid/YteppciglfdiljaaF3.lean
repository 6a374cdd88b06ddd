/- The walk, part 3: each Go function as a plain Lean function, and that its call answers as that function says. No condition. -/
import Derived.Test.YteppciglfdiljaaE
import Derived.Test.YteppciglfdiljaaNS
import Derived.Test.YteppciglfdiljaaLS
import Derived.Test.YteppciglfdiljaaF2
set_option linter.unusedVariables false
set_option linter.unusedSimpArgs false
set_option maxRecDepth 100000
namespace Go.Proofs.Yteppciglfdiljaa.K
open Go Go.RowKit
noncomputable section
def state_walk_2.l0 (t38 : List api_Final) (t43 : List api_Final) (t48 : List api_Final) : Option (List api_Final) :=
  (((if (decide ((t38.length : Int) > 0)) = true then some (.inl ()) else (if (decide ((t43.length : Int) > 0)) = true then some (.inl ()) else some (.inr (t48)))) : Option (Sum Unit (List api_Final))) >>= (fun | .inl () => (((if ((t38.length : Int) == 0) = true then some (1) else (if (decide ((t43.length : Int) > 0)) = true then (if 0 ≤ (0 : Int) ∧ (0 : Int) < (t38.length : Int) then (if 0 ≤ (0 : Int) ∧ (0 : Int) < (t43.length : Int) then (state_Compare.f (gt t38 (0 : Int)) (gt t43 (0 : Int)) >>= (fun t284 => some (t284))) else none) else none) else some ((-1)))) : Option Int) >>= (fun t73 => (((if (decide (t73 ≤ 0)) = true then (if 0 ≤ (0 : Int) ∧ (0 : Int) < (t38.length : Int) then (if 0 ≤ (1 : Int) ∧ (1 : Int) ≤ (t38.length : Int) then some ((((t38.take t38.length).drop ((1 : Int).toNat)), (gt t38 (0 : Int)))) else none) else none) else some ((t38, (⟨0, (Vector.replicate 48 0)⟩ : api_Final)))) : Option ((List api_Final) × api_Final)) >>= (fun (t86, t91) => (((if (decide (t73 ≥ 0)) = true then (if 0 ≤ (0 : Int) ∧ (0 : Int) < (t43.length : Int) then (if 0 ≤ (1 : Int) ∧ (1 : Int) ≤ (t43.length : Int) then some ((((t43.take t43.length).drop ((1 : Int).toNat)), (gt t43 (0 : Int)))) else none) else none) else some ((t43, t91))) : Option ((List api_Final) × api_Final)) >>= (fun (t100, t105) => (if (decide (t73 ≤ 0)) = true then (if (decide (t73 ≥ 0)) = true then (state_Minus_1.f true true >>= (fun t117 => (if t117 = true then (if (t48.length + ([t105] : List api_Final).length) * 392 ≤ 140737488355328 then (state_walk_2.l0 t86 t100 (t48 ++ ([t105] : List api_Final))) else none) else (state_walk_2.l0 t86 t100 t48)))) else (state_Minus_1.f true false >>= (fun t143 => (if t143 = true then (if (t48.length + ([t105] : List api_Final).length) * 392 ≤ 140737488355328 then (state_walk_2.l0 t86 t100 (t48 ++ ([t105] : List api_Final))) else none) else (state_walk_2.l0 t86 t100 t48))))) else (if (decide (t73 ≥ 0)) = true then (state_Minus_1.f false true >>= (fun t172 => (if t172 = true then (if (t48.length + ([t105] : List api_Final).length) * 392 ≤ 140737488355328 then (state_walk_2.l0 t86 t100 (t48 ++ ([t105] : List api_Final))) else none) else (state_walk_2.l0 t86 t100 t48)))) else (state_Minus_1.f false false >>= (fun t198 => (if t198 = true then (if (t48.length + ([t105] : List api_Final).length) * 392 ≤ 140737488355328 then (state_walk_2.l0 t86 t100 (t48 ++ ([t105] : List api_Final))) else none) else (state_walk_2.l0 t86 t100 t48)))))))))))) | .inr e => some e))
 partial_fixpoint
def state_walk_2.f (a0 : List api_Final) (a1 : List api_Final) : Option ((List api_Final) × Int) :=
  (state_Rises.f a0 >>= (fun t1 => (if (!t1) = true then some (([], 100)) else (state_Rises.f a1 >>= (fun t13 => (if (!t13) = true then some (([], 100)) else (state_walk_2.l0 a0 a1 [] >>= (fun t28 => some ((t28, 0))))))))))
set_option maxHeartbeats 16000000 in
theorem state_walk_2.ok (a0 : List api_Final) (a1 : List api_Final) (Aa0 : Option Addr) (ca0 : Nat) (Aa1 : Option Addr) (ca1 : Nat) {w0 : World} {Z : Zm} {fs : List XObj} {w : World} (hS0 : St w0 Z (fs) w) (ha0 : SlZ (flat enc_api_Final) 49 Z Aa0 ca0 a0) (ha1 : SlZ (flat enc_api_Final) 49 Z Aa1 ca1 a1) {q0 : List api_Final} {q1 : Int} (hp0 : state_walk_2.f a0 a1 = some (q0, q1)) :
    Calls Try.prog 46 #[.slice Aa0 a0.length ca0, .slice Aa1 a1.length ca1, .func (.func 49) #[] #[]] w (fun e w' => ∃ (QA0 : Option Addr) (Qc0 : Nat), e = .returned (.tuple #[.slice QA0 q0.length Qc0, .int .i64 q1]) ∧ St w0 Z (xrow QA0 Qc0 24 49 (q0.flatMap enc_api_Final) :: fs) w') := by
  refine calls_abs ?_; intro R hR
  unfold state_walk_2.f at hp0
  refine calls_of_runs (fn := Try.f46) (c := cd46 []) Try.func46 (by kernel_rfl) (al := [.slice Aa0 a0.length ca0, .slice Aa1 a1.length ca1, .func (.func 49) #[] #[]]) rfl (n := 64) rfl ?_
  refine sx_run 9 (todo' := [.inRegion (opsOf (cd46 [1, 0, 0])) [1, 2, 3, 4, 5, 6, 7], .code (cd46 [1, 0, 1]), .code (cd46 [1, 1])]) (us := [(6, .slice none 0 0), (7, .int .i64 0), (11, .slice Aa0 a0.length ca0)]) (by kernel_rfl) ?_
  obtain ⟨t1, hr2, hp3⟩ := bind_some' hp0
  refine r_call1 (c := (cd46 [1, 0, 0])) (i := 1) (d := (some 12)) (g := 23) (args := #[.slice Aa0 a0.length ca0]) (by kernel_rfl) (by kernel_rfl) (by kernel_rfl) (by kernel_rfl) (state_Rises.ok a0 Aa0 ca0 hS0 ha0 hr2) ?_
  rintro _ w4 ⟨rfl, hS5⟩
  refine ⟨.bool t1, rfl, ?_⟩
  refine sx_split 1 (todo' := [.inRegion (opsOf (cd46 [1, 0, 0])) [3, 4, 5, 6, 7], .code (cd46 [1, 0, 1]), .code (cd46 [1, 1])]) (us := []) (d := 13) (t := (!t1)) (by kernel_rfl) (fun h6 => ?_) (fun h7 => ?_)
  · skip
    have hp8 := ite_t hp3 h6
    refine sx_run 12 (todo' := [.code (cd46 [1, 0, 1, 0, 1]), .code (cd46 [1, 1])]) (us := [(14, .bool true), (15, undef), (16, undef), (17, undef), (18, .bool true), (6, .slice none 0 0), (7, .int .i64 100)]) (by kernel_rfl) ?_
    have hS10 := hS5.nilrow none 24 49
    refine runs_ret (fn := Try.f46) (v := .tuple #[.slice none 0 0, .int .i64 100]) Try.func46 (by kernel_rfl) ?_
    have hr11 := (Option.some.inj hp8)
    cases hr11
    exact hR _ _ ⟨none, 0, rfl, hS10⟩
  · skip
    have hp12 := ite_f hp3 h7
    refine sx_run 2 (todo' := [.inRegion (opsOf (cd46 [1, 0, 0])) [5, 6, 7], .code (cd46 [1, 0, 1]), .code (cd46 [1, 1])]) (us := [(14, .bool false), (15, .slice Aa1 a1.length ca1)]) (by kernel_rfl) ?_
    obtain ⟨t13, hr14, hp15⟩ := bind_some' hp12
    refine r_call1 (c := (cd46 [1, 0, 0])) (i := 5) (d := (some 16)) (g := 23) (args := #[.slice Aa1 a1.length ca1]) (by kernel_rfl) (by kernel_rfl) (by kernel_rfl) (by kernel_rfl) (state_Rises.ok a1 Aa1 ca1 hS5 ha1 hr14) ?_
    rintro _ w16 ⟨rfl, hS17⟩
    refine ⟨.bool t13, rfl, ?_⟩
    refine sx_split 1 (todo' := [.inRegion (opsOf (cd46 [1, 0, 0])) [7], .code (cd46 [1, 0, 1]), .code (cd46 [1, 1])]) (us := []) (d := 17) (t := (!t13)) (by kernel_rfl) (fun h18 => ?_) (fun h19 => ?_)
    · skip
      have hp20 := ite_t hp15 h18
      refine sx_run 8 (todo' := [.code (cd46 [1, 0, 1, 0, 1]), .code (cd46 [1, 1])]) (us := [(18, .bool true), (6, .slice none 0 0), (7, .int .i64 100)]) (by kernel_rfl) ?_
      have hS22 := hS17.nilrow none 24 49
      refine runs_ret (fn := Try.f46) (v := .tuple #[.slice none 0 0, .int .i64 100]) Try.func46 (by kernel_rfl) ?_
      have hr23 := (Option.some.inj hp20)
      cases hr23
      exact hR _ _ ⟨none, 0, rfl, hS22⟩
    · skip
      have hp24 := ite_f hp15 h19
      refine sx_run 11 (todo' := [.code (cd46 [1, 1, 1, 0, 0, 0]), .inLoop (cd46 [1, 1, 1, 0, 0, 0]), .inBlock 0, .code (cd46 [1, 1, 1, 1])]) (us := [(18, .bool false), (8, .slice none 0 0)]) (by kernel_rfl) ?_
      obtain ⟨v25, hv26, hp27⟩ := bind_some' hp24
      have J34 : ∀ (t28 : List api_Final) (he36 : t28 = v25) (l35 : List Value) (A29 : Option Addr) (c30 : Nat) (w32 : World) (hS33 : St w0 Z (xrow A29 c30 24 49 (t28.flatMap enc_api_Final) :: fs) w32), Runs Try.prog 46 [.code (cd46 [1, 1, 1, 1])] (fill [none, none, none, none, none, none, none, none, some (.slice A29 t28.length c30), none, none, none, none, none, none, none, none, none, none, none, none, none, none, none, none, none, none, none, none, none, none, none, none, none, none, none, none, none, none, none, none, none, none, none, none, none, none, none, none, none, none, none, none, none, none, none, none, none, none, none, none, none, none, none, none, none, none] l35) w32 R := by
        intro t28 he36 l35 A29 c30 w32 hS33
        subst he36
        try dsimp only at hp27
        refine sx_run 6 (todo' := [.code (cd46 [1, 1, 1, 1, 1])]) (us := [(66, .slice A29 t28.length c30), (6, .slice A29 t28.length c30), (7, .int .i64 0)]) (by kernel_rfl) ?_
        refine runs_ret (fn := Try.f46) (v := .tuple #[.slice A29 t28.length c30, .int .i64 0]) Try.func46 (by kernel_rfl) ?_
        have hr37 := (Option.some.inj hp27)
        cases hr37
        exact hR _ _ ⟨A29, c30, rfl, hS33⟩
      have L60 : ∀ (t38 : List api_Final) (t43 : List api_Final) (t48 : List api_Final) (e55 : (List api_Final)), state_walk_2.l0 t38 t43 t48 = some e55 → e55 = v25 → ∀ (l54 : List Value) (A39 : Option Addr) (c40 : Nat) (A44 : Option Addr) (c45 : Nat) (A49 : Option Addr) (c50 : Nat) (w52 : World) (hS53 : St w0 Z (xrow A49 c50 24 49 (t48.flatMap enc_api_Final) :: fs) w52) (hs42 : SlZ (flat enc_api_Final) 49 Z A39 c40 t38) (hs47 : SlZ (flat enc_api_Final) 49 Z A44 c45 t43), Runs Try.prog 46 [.code (cd46 [1, 1, 1, 0, 0, 0]), .inLoop (cd46 [1, 1, 1, 0, 0, 0]), .inBlock 0, .code (cd46 [1, 1, 1, 1])] (fill [some (.slice A39 t38.length c40), some (.slice A44 t43.length c45), some (.func (.func 49) #[] #[]), none, none, none, none, none, some (.slice A49 t48.length c50), none, none, none, none, none, none, none, none, none, none, none, none, none, none, none, none, none, none, none, none, none, none, none, none, none, none, none, none, none, none, none, none, none, none, none, none, none, none, none, none, none, none, none, none, none, none, none, none, none, none, none, none, none, none, none, none, none, none] l54) w52 R := by
        refine state_walk_2.l0.partial_correctness (fun t38 t43 t48 e55 => e55 = v25 → ∀ (l54 : List Value) (A39 : Option Addr) (c40 : Nat) (A44 : Option Addr) (c45 : Nat) (A49 : Option Addr) (c50 : Nat) (w52 : World) (hS53 : St w0 Z (xrow A49 c50 24 49 (t48.flatMap enc_api_Final) :: fs) w52) (hs42 : SlZ (flat enc_api_Final) 49 Z A39 c40 t38) (hs47 : SlZ (flat enc_api_Final) 49 Z A44 c45 t43), Runs Try.prog 46 [.code (cd46 [1, 1, 1, 0, 0, 0]), .inLoop (cd46 [1, 1, 1, 0, 0, 0]), .inBlock 0, .code (cd46 [1, 1, 1, 1])] (fill [some (.slice A39 t38.length c40), some (.slice A44 t43.length c45), some (.func (.func 49) #[] #[]), none, none, none, none, none, some (.slice A49 t48.length c50), none, none, none, none, none, none, none, none, none, none, none, none, none, none, none, none, none, none, none, none, none, none, none, none, none, none, none, none, none, none, none, none, none, none, none, none, none, none, none, none, none, none, none, none, none, none, none, none, none, none, none, none, none, none, none, none, none, none] l54) w52 R) ?_
        intro rec59 ih58 t38 t43 t48 e55 hb57 he56 l54 A39 c40 A44 c45 A49 c50 w52 hS53 hs42 hs47
        obtain ⟨v61, hv62, hp63⟩ := bind_some' hb57
        have hq66 : ∀ x, Sum.inr x = v61 → x = e55 := by intro x hx; subst hx; simpa using hp63
        have J67 : ∀ (he69 : Sum.inl () = v61) (l68 : List Value) (w64 : World) (hS65 : St w0 Z (xrow A49 c50 24 49 (t48.flatMap enc_api_Final) :: fs) w64), Runs Try.prog 46 [.code (cd46 [1, 1, 1, 0, 0, 0, 1]), .inLoop (cd46 [1, 1, 1, 0, 0, 0]), .inBlock 0, .code (cd46 [1, 1, 1, 1])] (fill [some (.slice A39 t38.length c40), some (.slice A44 t43.length c45), some (.func (.func 49) #[] #[]), none, none, none, none, none, some (.slice A49 t48.length c50), none, none, none, none, none, none, none, none, none, none, none, none, none, none, none, none, none, none, none, none, none, none, none, none, none, none, none, none, none, none, none, none, none, none, none, none, none, none, none, none, none, none, none, none, none, none, none, none, none, none, none, none, none, none, none, none, none, none] l68) w64 R := by
          intro he69 l68 w64 hS65
          subst he69
          try dsimp only at hp63
          obtain ⟨v70, hv71, hp72⟩ := bind_some' hp63
          have J76 : ∀ (t73 : Int) (he78 : t73 = v70) (l77 : List Value) (w74 : World) (hS75 : St w0 Z (xrow A49 c50 24 49 (t48.flatMap enc_api_Final) :: fs) w74), Runs Try.prog 46 [.code (cd46 [1, 1, 1, 0, 0, 0, 1, 0, 1, 1]), .inBlock 1, .inLoop (cd46 [1, 1, 1, 0, 0, 0]), .inBlock 0, .code (cd46 [1, 1, 1, 1])] (fill [some (.slice A39 t38.length c40), some (.slice A44 t43.length c45), some (.func (.func 49) #[] #[]), none, none, none, none, none, some (.slice A49 t48.length c50), some (.int .i64 t73), none, none, none, none, none, none, none, none, none, none, none, none, none, none, none, none, none, none, none, none, none, none, none, none, none, none, none, none, none, none, none, none, none, none, none, none, none, none, none, none, none, none, none, none, none, none, none, none, none, none, none, none, none, none, none, none, none] l77) w74 R := by
            intro t73 he78 l77 w74 hS75
            subst he78
            try dsimp only at hp72
            refine sx_run 2 (todo' := [.inRegion (opsOf (cd46 [1, 1, 1, 0, 0, 0, 1, 0, 1, 1, 0])) [0], .code (cd46 [1, 1, 1, 0, 0, 0, 1, 0, 1, 1, 1]), .inBlock 1, .inLoop (cd46 [1, 1, 1, 0, 0, 0]), .inBlock 0, .code (cd46 [1, 1, 1, 1])]) (us := []) (by kernel_rfl) ?_
            refine r_alloc (c := (cd46 [1, 1, 1, 0, 0, 0, 1, 0, 1, 1, 0])) (i := 0) (d := (some 10)) (ty := 0) (z := .agg (enc_api_Final (⟨0, (Vector.replicate 48 0)⟩ : api_Final)).toArray) (t := 24) (cs := enc_api_Final (⟨0, (Vector.replicate 48 0)⟩ : api_Final)) hS75 (by kernel_rfl) (by kernel_rfl) (by kernel_rfl) (by kernel_rfl) ?_
            intro b79 w80 hS81
            obtain ⟨v83, hv84, hp85⟩ := bind_some' hp72
            have J94 : ∀ (t86 : List api_Final) (t91 : api_Final) (he96 : (t86, t91) = v83) (l95 : List Value) (A87 : Option Addr) (c88 : Nat) (w92 : World) (hS93 : St w0 Z (xrow A49 c50 24 49 (t48.flatMap enc_api_Final) :: xblk b79 24 (enc_api_Final t91) :: fs) w92) (hs90 : SlZ (flat enc_api_Final) 49 Z A87 c88 t86), Runs Try.prog 46 [.code (cd46 [1, 1, 1, 0, 0, 0, 1, 0, 1, 1, 1, 1]), .inBlock 1, .inLoop (cd46 [1, 1, 1, 0, 0, 0]), .inBlock 0, .code (cd46 [1, 1, 1, 1])] (fill [some (.slice A87 t86.length c88), some (.slice A44 t43.length c45), some (.func (.func 49) #[] #[]), none, none, none, none, none, some (.slice A49 t48.length c50), some (.int .i64 t73), some (.pointer (some ⟨b79, 0, none⟩)), none, none, none, none, none, none, none, none, none, none, none, none, none, none, none, none, none, none, none, none, none, none, none, none, none, none, none, none, none, none, none, none, none, none, none, none, none, none, none, none, none, none, none, none, none, none, none, none, none, none, none, none, none, none, none, none] l95) w92 R := by
              intro t86 t91 he96 l95 A87 c88 w92 hS93 hs90
              subst he96
              try dsimp only at hp85
              obtain ⟨v97, hv98, hp99⟩ := bind_some' hp85
              have J108 : ∀ (t100 : List api_Final) (t105 : api_Final) (he110 : (t100, t105) = v97) (l109 : List Value) (A101 : Option Addr) (c102 : Nat) (w106 : World) (hS107 : St w0 Z (xrow A49 c50 24 49 (t48.flatMap enc_api_Final) :: xblk b79 24 (enc_api_Final t105) :: fs) w106) (hs104 : SlZ (flat enc_api_Final) 49 Z A101 c102 t100), Runs Try.prog 46 [.code (cd46 [1, 1, 1, 0, 0, 0, 1, 0, 1, 1, 1, 1, 1]), .inBlock 1, .inLoop (cd46 [1, 1, 1, 0, 0, 0]), .inBlock 0, .code (cd46 [1, 1, 1, 1])] (fill [some (.slice A87 t86.length c88), some (.slice A101 t100.length c102), some (.func (.func 49) #[] #[]), none, none, none, none, none, some (.slice A49 t48.length c50), some (.int .i64 t73), some (.pointer (some ⟨b79, 0, none⟩)), none, none, none, none, none, none, none, none, none, none, none, none, none, none, none, none, none, none, none, none, none, none, none, none, none, none, none, none, none, none, none, none, none, none, none, none, none, none, none, none, none, none, none, none, none, none, none, none, none, none, none, none, none, none, none, none] l109) w106 R := by
                intro t100 t105 he110 l109 A101 c102 w106 hS107 hs104
                subst he110
                try dsimp only at hp99
                refine sx_split 5 (todo' := [.inRegion (opsOf (cd46 [1, 1, 1, 0, 0, 0, 1, 0, 1, 1, 1, 1, 1, 0])) [3, 4, 5], .code (cd46 [1, 1, 1, 0, 0, 0, 1, 0, 1, 1, 1, 1, 1, 1]), .inBlock 1, .inLoop (cd46 [1, 1, 1, 0, 0, 0]), .inBlock 0, .code (cd46 [1, 1, 1, 1])]) (us := [(56, .func (.func 49) #[] #[]), (57, .int .i64 t73)]) (d := 58) (t := (decide (t73 ≤ 0))) (by kernel_rfl) (fun h111 => ?_) (fun h112 => ?_)
                · skip
                  have hp113 := ite_t hp99 h111
                  refine sx_split 2 (todo' := [.inRegion (opsOf (cd46 [1, 1, 1, 0, 0, 0, 1, 0, 1, 1, 1, 1, 1, 0])) [5], .code (cd46 [1, 1, 1, 0, 0, 0, 1, 0, 1, 1, 1, 1, 1, 1]), .inBlock 1, .inLoop (cd46 [1, 1, 1, 0, 0, 0]), .inBlock 0, .code (cd46 [1, 1, 1, 1])]) (us := [(59, .int .i64 t73)]) (d := 60) (t := (decide (t73 ≥ 0))) (by kernel_rfl) (fun h114 => ?_) (fun h115 => ?_)
                  · skip
                    have hp116 := ite_t hp113 h114
                    obtain ⟨t117, hr118, hp119⟩ := bind_some' hp116
                    refine r_call1 (c := (cd46 [1, 1, 1, 0, 0, 0, 1, 0, 1, 1, 1, 1, 1, 0])) (i := 5) (d := (some 61)) (g := 49) (args := #[.bool true, .bool true]) (by kernel_rfl) (by kernel_rfl) (by kernel_rfl) (by kernel_rfl) (state_Minus_1.ok true true hS107 hr118) ?_
                    rintro _ w120 ⟨rfl, hS121⟩
                    refine ⟨.bool t117, rfl, ?_⟩
                    refine sx_run 1 (todo' := [.code (cd46 [1, 1, 1, 0, 0, 0, 1, 0, 1, 1, 1, 1, 1, 1]), .inBlock 1, .inLoop (cd46 [1, 1, 1, 0, 0, 0]), .inBlock 0, .code (cd46 [1, 1, 1, 1])]) (us := []) (by kernel_rfl) ?_
                    cases t117
                    · skip
                      have hp122 := ite_f hp119 rfl
                      refine sx_run 3 (todo' := [.inLoop (cd46 [1, 1, 1, 0, 0, 0]), .inBlock 0, .code (cd46 [1, 1, 1, 1])]) (us := []) (by kernel_rfl) ?_
                      have hS123 := hS121.pick1
                      have hS124 := hS123.drop
                      refine sx_run 1 (todo' := [.code (cd46 [1, 1, 1, 0, 0, 0]), .inLoop (cd46 [1, 1, 1, 0, 0, 0]), .inBlock 0, .code (cd46 [1, 1, 1, 1])]) (us := []) (by kernel_rfl) ?_
                      refine Runs.fill (m := [some (.slice A87 t86.length c88), some (.slice A101 t100.length c102), some (.func (.func 49) #[] #[]), none, none, none, none, none, some (.slice A49 t48.length c50), none, none, none, none, none, none, none, none, none, none, none, none, none, none, none, none, none, none, none, none, none, none, none, none, none, none, none, none, none, none, none, none, none, none, none, none, none, none, none, none, none, none, none, none, none, none, none, none, none, none, none, none, none, none, none, none, none, none]) (by kernel_rfl) ?_
                      exact ih58 t86 t100 t48 _ hp122 he56 _ A87 c88 A101 c102 A49 c50 _ hS124 hs90 hs104
                    · skip
                      have hp125 := ite_t hp119 rfl
                      refine sx_run 3 (todo' := [.inRegion (opsOf (cd46 [1, 1, 1, 0, 0, 0, 1, 0, 1, 1, 1, 1, 1, 1, 0])) [1, 2, 3, 4], .inBlock 1, .inLoop (cd46 [1, 1, 1, 0, 0, 0]), .inBlock 0, .code (cd46 [1, 1, 1, 1])]) (us := [(62, .slice A49 t48.length c50)]) (by kernel_rfl) ?_
                      refine r_load (c := (cd46 [1, 1, 1, 0, 0, 0, 1, 0, 1, 1, 1, 1, 1, 1, 0])) (i := 1) (d := (some 63)) (ty := 24) (t := 24) (x := (.tmp 10)) (p := ⟨b79, 0, none⟩) (v := .agg (enc_api_Final t105).toArray) (by kernel_rfl) (by kernel_rfl) (by kernel_rfl) (loads_agg (hS121.blk 1 rfl) (by kernel_rfl) (lenK (len_api_Final _) (by kernel_rfl))) ?_
                      refine r_lit (c := (cd46 [1, 1, 1, 0, 0, 0, 1, 0, 1, 1, 1, 1, 1, 1, 0])) (i := 2) (d := (some 64)) (ty := 36) (t := 36) (e := 24) (sz := 49) (n := 1) (parts := #[(0, (.tmp 63))]) (vs := [(0, .agg (enc_api_Final t105).toArray)]) (z := zeroOf Try.prog 24) (cs' := ([t105] : List api_Final).flatMap enc_api_Final) hS121 (by kernel_rfl) (by kernel_rfl) (by kernel_rfl) (by kernel_rfl) (by kernel_rfl) (by decide) (by decide) (by kernel_rfl) rfl (Parts.cons (c := enc_api_Final t105) (by kernel_rfl) (len_api_Final _) Parts.nil) rfl ?_
                      intro b127 w128 hS129
                      have hS130 := hS129.pick1
                      obtain ⟨g131, hp132⟩ := ite_some hp125
                      refine r_append (c := (cd46 [1, 1, 1, 0, 0, 0, 1, 0, 1, 1, 1, 1, 1, 1, 0])) (i := 3) (d := (some 65)) (ty := 36) (enc := enc_api_Final) (e := 24) (u := 24) (t := 36) (t2 := 36) (sz := 49) (cp := c50) (A := A49) (bytes := 392) (xs := t48) (ys := ([t105] : List api_Final)) (s := (.tmp 62)) (x := (.tmp 64)) (xv := .slice (some ⟨b127, 0, none⟩) ([t105] : List api_Final).length 1) (info := infoOf Try.prog 24) (z := zeroOf Try.prog 24) (ycs := ([t105] : List api_Final).flatMap enc_api_Final) hS130 (by kernel_rfl) (by kernel_rfl) (by kernel_rfl) (by kernel_rfl) (by kernel_rfl) (.inl (by kernel_rfl)) (by kernel_rfl) (by kernel_rfl) (by kernel_rfl) (by kernel_rfl) (by kernel_rfl) (by omega) len_api_Final one_api_Final (src_row (hS130.row 1 rfl) (by omega) len_api_Final) rfl g131 (by omega) ?_
                      intro A133 c134 w135 hS136
                      refine sx_run 3 (todo' := [.inLoop (cd46 [1, 1, 1, 0, 0, 0]), .inBlock 0, .code (cd46 [1, 1, 1, 1])]) (us := [(8, .slice A133 (t48 ++ ([t105] : List api_Final)).length c134)]) (by kernel_rfl) ?_
                      have hS138 := hS136.pick1
                      have hS139 := hS138.drop
                      have hS140 := hS139.pick1
                      have hS141 := hS140.drop
                      refine sx_run 1 (todo' := [.code (cd46 [1, 1, 1, 0, 0, 0]), .inLoop (cd46 [1, 1, 1, 0, 0, 0]), .inBlock 0, .code (cd46 [1, 1, 1, 1])]) (us := []) (by kernel_rfl) ?_
                      refine Runs.fill (m := [some (.slice A87 t86.length c88), some (.slice A101 t100.length c102), some (.func (.func 49) #[] #[]), none, none, none, none, none, some (.slice A133 (t48 ++ ([t105] : List api_Final)).length c134), none, none, none, none, none, none, none, none, none, none, none, none, none, none, none, none, none, none, none, none, none, none, none, none, none, none, none, none, none, none, none, none, none, none, none, none, none, none, none, none, none, none, none, none, none, none, none, none, none, none, none, none, none, none, none, none, none, none]) (by kernel_rfl) ?_
                      exact ih58 t86 t100 (t48 ++ ([t105] : List api_Final)) _ hp132 he56 _ A87 c88 A101 c102 A133 c134 _ hS141 hs90 hs104
                  · skip
                    have hp142 := ite_f hp113 h115
                    obtain ⟨t143, hr144, hp145⟩ := bind_some' hp142
                    refine r_call1 (c := (cd46 [1, 1, 1, 0, 0, 0, 1, 0, 1, 1, 1, 1, 1, 0])) (i := 5) (d := (some 61)) (g := 49) (args := #[.bool true, .bool false]) (by kernel_rfl) (by kernel_rfl) (by kernel_rfl) (by kernel_rfl) (state_Minus_1.ok true false hS107 hr144) ?_
                    rintro _ w146 ⟨rfl, hS147⟩
                    refine ⟨.bool t143, rfl, ?_⟩
                    refine sx_run 1 (todo' := [.code (cd46 [1, 1, 1, 0, 0, 0, 1, 0, 1, 1, 1, 1, 1, 1]), .inBlock 1, .inLoop (cd46 [1, 1, 1, 0, 0, 0]), .inBlock 0, .code (cd46 [1, 1, 1, 1])]) (us := []) (by kernel_rfl) ?_
                    cases t143
                    · skip
                      have hp148 := ite_f hp145 rfl
                      refine sx_run 3 (todo' := [.inLoop (cd46 [1, 1, 1, 0, 0, 0]), .inBlock 0, .code (cd46 [1, 1, 1, 1])]) (us := []) (by kernel_rfl) ?_
                      have hS149 := hS147.pick1
                      have hS150 := hS149.drop
                      refine sx_run 1 (todo' := [.code (cd46 [1, 1, 1, 0, 0, 0]), .inLoop (cd46 [1, 1, 1, 0, 0, 0]), .inBlock 0, .code (cd46 [1, 1, 1, 1])]) (us := []) (by kernel_rfl) ?_
                      refine Runs.fill (m := [some (.slice A87 t86.length c88), some (.slice A101 t100.length c102), some (.func (.func 49) #[] #[]), none, none, none, none, none, some (.slice A49 t48.length c50), none, none, none, none, none, none, none, none, none, none, none, none, none, none, none, none, none, none, none, none, none, none, none, none, none, none, none, none, none, none, none, none, none, none, none, none, none, none, none, none, none, none, none, none, none, none, none, none, none, none, none, none, none, none, none, none, none, none]) (by kernel_rfl) ?_
                      exact ih58 t86 t100 t48 _ hp148 he56 _ A87 c88 A101 c102 A49 c50 _ hS150 hs90 hs104
                    · skip
                      have hp151 := ite_t hp145 rfl
                      refine sx_run 3 (todo' := [.inRegion (opsOf (cd46 [1, 1, 1, 0, 0, 0, 1, 0, 1, 1, 1, 1, 1, 1, 0])) [1, 2, 3, 4], .inBlock 1, .inLoop (cd46 [1, 1, 1, 0, 0, 0]), .inBlock 0, .code (cd46 [1, 1, 1, 1])]) (us := [(62, .slice A49 t48.length c50)]) (by kernel_rfl) ?_
                      refine r_load (c := (cd46 [1, 1, 1, 0, 0, 0, 1, 0, 1, 1, 1, 1, 1, 1, 0])) (i := 1) (d := (some 63)) (ty := 24) (t := 24) (x := (.tmp 10)) (p := ⟨b79, 0, none⟩) (v := .agg (enc_api_Final t105).toArray) (by kernel_rfl) (by kernel_rfl) (by kernel_rfl) (loads_agg (hS147.blk 1 rfl) (by kernel_rfl) (lenK (len_api_Final _) (by kernel_rfl))) ?_
                      refine r_lit (c := (cd46 [1, 1, 1, 0, 0, 0, 1, 0, 1, 1, 1, 1, 1, 1, 0])) (i := 2) (d := (some 64)) (ty := 36) (t := 36) (e := 24) (sz := 49) (n := 1) (parts := #[(0, (.tmp 63))]) (vs := [(0, .agg (enc_api_Final t105).toArray)]) (z := zeroOf Try.prog 24) (cs' := ([t105] : List api_Final).flatMap enc_api_Final) hS147 (by kernel_rfl) (by kernel_rfl) (by kernel_rfl) (by kernel_rfl) (by kernel_rfl) (by decide) (by decide) (by kernel_rfl) rfl (Parts.cons (c := enc_api_Final t105) (by kernel_rfl) (len_api_Final _) Parts.nil) rfl ?_
                      intro b153 w154 hS155
                      have hS156 := hS155.pick1
                      obtain ⟨g157, hp158⟩ := ite_some hp151
                      refine r_append (c := (cd46 [1, 1, 1, 0, 0, 0, 1, 0, 1, 1, 1, 1, 1, 1, 0])) (i := 3) (d := (some 65)) (ty := 36) (enc := enc_api_Final) (e := 24) (u := 24) (t := 36) (t2 := 36) (sz := 49) (cp := c50) (A := A49) (bytes := 392) (xs := t48) (ys := ([t105] : List api_Final)) (s := (.tmp 62)) (x := (.tmp 64)) (xv := .slice (some ⟨b153, 0, none⟩) ([t105] : List api_Final).length 1) (info := infoOf Try.prog 24) (z := zeroOf Try.prog 24) (ycs := ([t105] : List api_Final).flatMap enc_api_Final) hS156 (by kernel_rfl) (by kernel_rfl) (by kernel_rfl) (by kernel_rfl) (by kernel_rfl) (.inl (by kernel_rfl)) (by kernel_rfl) (by kernel_rfl) (by kernel_rfl) (by kernel_rfl) (by kernel_rfl) (by omega) len_api_Final one_api_Final (src_row (hS156.row 1 rfl) (by omega) len_api_Final) rfl g157 (by omega) ?_
                      intro A159 c160 w161 hS162
                      refine sx_run 3 (todo' := [.inLoop (cd46 [1, 1, 1, 0, 0, 0]), .inBlock 0, .code (cd46 [1, 1, 1, 1])]) (us := [(8, .slice A159 (t48 ++ ([t105] : List api_Final)).length c160)]) (by kernel_rfl) ?_
                      have hS164 := hS162.pick1
                      have hS165 := hS164.drop
                      have hS166 := hS165.pick1
                      have hS167 := hS166.drop
                      refine sx_run 1 (todo' := [.code (cd46 [1, 1, 1, 0, 0, 0]), .inLoop (cd46 [1, 1, 1, 0, 0, 0]), .inBlock 0, .code (cd46 [1, 1, 1, 1])]) (us := []) (by kernel_rfl) ?_
                      refine Runs.fill (m := [some (.slice A87 t86.length c88), some (.slice A101 t100.length c102), some (.func (.func 49) #[] #[]), none, none, none, none, none, some (.slice A159 (t48 ++ ([t105] : List api_Final)).length c160), none, none, none, none, none, none, none, none, none, none, none, none, none, none, none, none, none, none, none, none, none, none, none, none, none, none, none, none, none, none, none, none, none, none, none, none, none, none, none, none, none, none, none, none, none, none, none, none, none, none, none, none, none, none, none, none, none, none]) (by kernel_rfl) ?_
                      exact ih58 t86 t100 (t48 ++ ([t105] : List api_Final)) _ hp158 he56 _ A87 c88 A101 c102 A159 c160 _ hS167 hs90 hs104
                · skip
                  have hp168 := ite_f hp99 h112
                  refine sx_split 2 (todo' := [.inRegion (opsOf (cd46 [1, 1, 1, 0, 0, 0, 1, 0, 1, 1, 1, 1, 1, 0])) [5], .code (cd46 [1, 1, 1, 0, 0, 0, 1, 0, 1, 1, 1, 1, 1, 1]), .inBlock 1, .inLoop (cd46 [1, 1, 1, 0, 0, 0]), .inBlock 0, .code (cd46 [1, 1, 1, 1])]) (us := [(59, .int .i64 t73)]) (d := 60) (t := (decide (t73 ≥ 0))) (by kernel_rfl) (fun h169 => ?_) (fun h170 => ?_)
                  · skip
                    have hp171 := ite_t hp168 h169
                    obtain ⟨t172, hr173, hp174⟩ := bind_some' hp171
                    refine r_call1 (c := (cd46 [1, 1, 1, 0, 0, 0, 1, 0, 1, 1, 1, 1, 1, 0])) (i := 5) (d := (some 61)) (g := 49) (args := #[.bool false, .bool true]) (by kernel_rfl) (by kernel_rfl) (by kernel_rfl) (by kernel_rfl) (state_Minus_1.ok false true hS107 hr173) ?_
                    rintro _ w175 ⟨rfl, hS176⟩
                    refine ⟨.bool t172, rfl, ?_⟩
                    refine sx_run 1 (todo' := [.code (cd46 [1, 1, 1, 0, 0, 0, 1, 0, 1, 1, 1, 1, 1, 1]), .inBlock 1, .inLoop (cd46 [1, 1, 1, 0, 0, 0]), .inBlock 0, .code (cd46 [1, 1, 1, 1])]) (us := []) (by kernel_rfl) ?_
                    cases t172
                    · skip
                      have hp177 := ite_f hp174 rfl
                      refine sx_run 3 (todo' := [.inLoop (cd46 [1, 1, 1, 0, 0, 0]), .inBlock 0, .code (cd46 [1, 1, 1, 1])]) (us := []) (by kernel_rfl) ?_
                      have hS178 := hS176.pick1
                      have hS179 := hS178.drop
                      refine sx_run 1 (todo' := [.code (cd46 [1, 1, 1, 0, 0, 0]), .inLoop (cd46 [1, 1, 1, 0, 0, 0]), .inBlock 0, .code (cd46 [1, 1, 1, 1])]) (us := []) (by kernel_rfl) ?_
                      refine Runs.fill (m := [some (.slice A87 t86.length c88), some (.slice A101 t100.length c102), some (.func (.func 49) #[] #[]), none, none, none, none, none, some (.slice A49 t48.length c50), none, none, none, none, none, none, none, none, none, none, none, none, none, none, none, none, none, none, none, none, none, none, none, none, none, none, none, none, none, none, none, none, none, none, none, none, none, none, none, none, none, none, none, none, none, none, none, none, none, none, none, none, none, none, none, none, none, none]) (by kernel_rfl) ?_
                      exact ih58 t86 t100 t48 _ hp177 he56 _ A87 c88 A101 c102 A49 c50 _ hS179 hs90 hs104
                    · skip
                      have hp180 := ite_t hp174 rfl
                      refine sx_run 3 (todo' := [.inRegion (opsOf (cd46 [1, 1, 1, 0, 0, 0, 1, 0, 1, 1, 1, 1, 1, 1, 0])) [1, 2, 3, 4], .inBlock 1, .inLoop (cd46 [1, 1, 1, 0, 0, 0]), .inBlock 0, .code (cd46 [1, 1, 1, 1])]) (us := [(62, .slice A49 t48.length c50)]) (by kernel_rfl) ?_
                      refine r_load (c := (cd46 [1, 1, 1, 0, 0, 0, 1, 0, 1, 1, 1, 1, 1, 1, 0])) (i := 1) (d := (some 63)) (ty := 24) (t := 24) (x := (.tmp 10)) (p := ⟨b79, 0, none⟩) (v := .agg (enc_api_Final t105).toArray) (by kernel_rfl) (by kernel_rfl) (by kernel_rfl) (loads_agg (hS176.blk 1 rfl) (by kernel_rfl) (lenK (len_api_Final _) (by kernel_rfl))) ?_
                      refine r_lit (c := (cd46 [1, 1, 1, 0, 0, 0, 1, 0, 1, 1, 1, 1, 1, 1, 0])) (i := 2) (d := (some 64)) (ty := 36) (t := 36) (e := 24) (sz := 49) (n := 1) (parts := #[(0, (.tmp 63))]) (vs := [(0, .agg (enc_api_Final t105).toArray)]) (z := zeroOf Try.prog 24) (cs' := ([t105] : List api_Final).flatMap enc_api_Final) hS176 (by kernel_rfl) (by kernel_rfl) (by kernel_rfl) (by kernel_rfl) (by kernel_rfl) (by decide) (by decide) (by kernel_rfl) rfl (Parts.cons (c := enc_api_Final t105) (by kernel_rfl) (len_api_Final _) Parts.nil) rfl ?_
                      intro b182 w183 hS184
                      have hS185 := hS184.pick1
                      obtain ⟨g186, hp187⟩ := ite_some hp180
                      refine r_append (c := (cd46 [1, 1, 1, 0, 0, 0, 1, 0, 1, 1, 1, 1, 1, 1, 0])) (i := 3) (d := (some 65)) (ty := 36) (enc := enc_api_Final) (e := 24) (u := 24) (t := 36) (t2 := 36) (sz := 49) (cp := c50) (A := A49) (bytes := 392) (xs := t48) (ys := ([t105] : List api_Final)) (s := (.tmp 62)) (x := (.tmp 64)) (xv := .slice (some ⟨b182, 0, none⟩) ([t105] : List api_Final).length 1) (info := infoOf Try.prog 24) (z := zeroOf Try.prog 24) (ycs := ([t105] : List api_Final).flatMap enc_api_Final) hS185 (by kernel_rfl) (by kernel_rfl) (by kernel_rfl) (by kernel_rfl) (by kernel_rfl) (.inl (by kernel_rfl)) (by kernel_rfl) (by kernel_rfl) (by kernel_rfl) (by kernel_rfl) (by kernel_rfl) (by omega) len_api_Final one_api_Final (src_row (hS185.row 1 rfl) (by omega) len_api_Final) rfl g186 (by omega) ?_
                      intro A188 c189 w190 hS191
                      refine sx_run 3 (todo' := [.inLoop (cd46 [1, 1, 1, 0, 0, 0]), .inBlock 0, .code (cd46 [1, 1, 1, 1])]) (us := [(8, .slice A188 (t48 ++ ([t105] : List api_Final)).length c189)]) (by kernel_rfl) ?_
                      have hS193 := hS191.pick1
                      have hS194 := hS193.drop
                      have hS195 := hS194.pick1
                      have hS196 := hS195.drop
                      refine sx_run 1 (todo' := [.code (cd46 [1, 1, 1, 0, 0, 0]), .inLoop (cd46 [1, 1, 1, 0, 0, 0]), .inBlock 0, .code (cd46 [1, 1, 1, 1])]) (us := []) (by kernel_rfl) ?_
                      refine Runs.fill (m := [some (.slice A87 t86.length c88), some (.slice A101 t100.length c102), some (.func (.func 49) #[] #[]), none, none, none, none, none, some (.slice A188 (t48 ++ ([t105] : List api_Final)).length c189), none, none, none, none, none, none, none, none, none, none, none, none, none, none, none, none, none, none, none, none, none, none, none, none, none, none, none, none, none, none, none, none, none, none, none, none, none, none, none, none, none, none, none, none, none, none, none, none, none, none, none, none, none, none, none, none, none, none]) (by kernel_rfl) ?_
                      exact ih58 t86 t100 (t48 ++ ([t105] : List api_Final)) _ hp187 he56 _ A87 c88 A101 c102 A188 c189 _ hS196 hs90 hs104
                  · skip
                    have hp197 := ite_f hp168 h170
                    obtain ⟨t198, hr199, hp200⟩ := bind_some' hp197
                    refine r_call1 (c := (cd46 [1, 1, 1, 0, 0, 0, 1, 0, 1, 1, 1, 1, 1, 0])) (i := 5) (d := (some 61)) (g := 49) (args := #[.bool false, .bool false]) (by kernel_rfl) (by kernel_rfl) (by kernel_rfl) (by kernel_rfl) (state_Minus_1.ok false false hS107 hr199) ?_
                    rintro _ w201 ⟨rfl, hS202⟩
                    refine ⟨.bool t198, rfl, ?_⟩
                    refine sx_run 1 (todo' := [.code (cd46 [1, 1, 1, 0, 0, 0, 1, 0, 1, 1, 1, 1, 1, 1]), .inBlock 1, .inLoop (cd46 [1, 1, 1, 0, 0, 0]), .inBlock 0, .code (cd46 [1, 1, 1, 1])]) (us := []) (by kernel_rfl) ?_
                    cases t198
                    · skip
                      have hp203 := ite_f hp200 rfl
                      refine sx_run 3 (todo' := [.inLoop (cd46 [1, 1, 1, 0, 0, 0]), .inBlock 0, .code (cd46 [1, 1, 1, 1])]) (us := []) (by kernel_rfl) ?_
                      have hS204 := hS202.pick1
                      have hS205 := hS204.drop
                      refine sx_run 1 (todo' := [.code (cd46 [1, 1, 1, 0, 0, 0]), .inLoop (cd46 [1, 1, 1, 0, 0, 0]), .inBlock 0, .code (cd46 [1, 1, 1, 1])]) (us := []) (by kernel_rfl) ?_
                      refine Runs.fill (m := [some (.slice A87 t86.length c88), some (.slice A101 t100.length c102), some (.func (.func 49) #[] #[]), none, none, none, none, none, some (.slice A49 t48.length c50), none, none, none, none, none, none, none, none, none, none, none, none, none, none, none, none, none, none, none, none, none, none, none, none, none, none, none, none, none, none, none, none, none, none, none, none, none, none, none, none, none, none, none, none, none, none, none, none, none, none, none, none, none, none, none, none, none, none]) (by kernel_rfl) ?_
                      exact ih58 t86 t100 t48 _ hp203 he56 _ A87 c88 A101 c102 A49 c50 _ hS205 hs90 hs104
                    · skip
                      have hp206 := ite_t hp200 rfl
                      refine sx_run 3 (todo' := [.inRegion (opsOf (cd46 [1, 1, 1, 0, 0, 0, 1, 0, 1, 1, 1, 1, 1, 1, 0])) [1, 2, 3, 4], .inBlock 1, .inLoop (cd46 [1, 1, 1, 0, 0, 0]), .inBlock 0, .code (cd46 [1, 1, 1, 1])]) (us := [(62, .slice A49 t48.length c50)]) (by kernel_rfl) ?_
                      refine r_load (c := (cd46 [1, 1, 1, 0, 0, 0, 1, 0, 1, 1, 1, 1, 1, 1, 0])) (i := 1) (d := (some 63)) (ty := 24) (t := 24) (x := (.tmp 10)) (p := ⟨b79, 0, none⟩) (v := .agg (enc_api_Final t105).toArray) (by kernel_rfl) (by kernel_rfl) (by kernel_rfl) (loads_agg (hS202.blk 1 rfl) (by kernel_rfl) (lenK (len_api_Final _) (by kernel_rfl))) ?_
                      refine r_lit (c := (cd46 [1, 1, 1, 0, 0, 0, 1, 0, 1, 1, 1, 1, 1, 1, 0])) (i := 2) (d := (some 64)) (ty := 36) (t := 36) (e := 24) (sz := 49) (n := 1) (parts := #[(0, (.tmp 63))]) (vs := [(0, .agg (enc_api_Final t105).toArray)]) (z := zeroOf Try.prog 24) (cs' := ([t105] : List api_Final).flatMap enc_api_Final) hS202 (by kernel_rfl) (by kernel_rfl) (by kernel_rfl) (by kernel_rfl) (by kernel_rfl) (by decide) (by decide) (by kernel_rfl) rfl (Parts.cons (c := enc_api_Final t105) (by kernel_rfl) (len_api_Final _) Parts.nil) rfl ?_
                      intro b208 w209 hS210
                      have hS211 := hS210.pick1
                      obtain ⟨g212, hp213⟩ := ite_some hp206
                      refine r_append (c := (cd46 [1, 1, 1, 0, 0, 0, 1, 0, 1, 1, 1, 1, 1, 1, 0])) (i := 3) (d := (some 65)) (ty := 36) (enc := enc_api_Final) (e := 24) (u := 24) (t := 36) (t2 := 36) (sz := 49) (cp := c50) (A := A49) (bytes := 392) (xs := t48) (ys := ([t105] : List api_Final)) (s := (.tmp 62)) (x := (.tmp 64)) (xv := .slice (some ⟨b208, 0, none⟩) ([t105] : List api_Final).length 1) (info := infoOf Try.prog 24) (z := zeroOf Try.prog 24) (ycs := ([t105] : List api_Final).flatMap enc_api_Final) hS211 (by kernel_rfl) (by kernel_rfl) (by kernel_rfl) (by kernel_rfl) (by kernel_rfl) (.inl (by kernel_rfl)) (by kernel_rfl) (by kernel_rfl) (by kernel_rfl) (by kernel_rfl) (by kernel_rfl) (by omega) len_api_Final one_api_Final (src_row (hS211.row 1 rfl) (by omega) len_api_Final) rfl g212 (by omega) ?_
                      intro A214 c215 w216 hS217
                      refine sx_run 3 (todo' := [.inLoop (cd46 [1, 1, 1, 0, 0, 0]), .inBlock 0, .code (cd46 [1, 1, 1, 1])]) (us := [(8, .slice A214 (t48 ++ ([t105] : List api_Final)).length c215)]) (by kernel_rfl) ?_
                      have hS219 := hS217.pick1
                      have hS220 := hS219.drop
                      have hS221 := hS220.pick1
                      have hS222 := hS221.drop
                      refine sx_run 1 (todo' := [.code (cd46 [1, 1, 1, 0, 0, 0]), .inLoop (cd46 [1, 1, 1, 0, 0, 0]), .inBlock 0, .code (cd46 [1, 1, 1, 1])]) (us := []) (by kernel_rfl) ?_
                      refine Runs.fill (m := [some (.slice A87 t86.length c88), some (.slice A101 t100.length c102), some (.func (.func 49) #[] #[]), none, none, none, none, none, some (.slice A214 (t48 ++ ([t105] : List api_Final)).length c215), none, none, none, none, none, none, none, none, none, none, none, none, none, none, none, none, none, none, none, none, none, none, none, none, none, none, none, none, none, none, none, none, none, none, none, none, none, none, none, none, none, none, none, none, none, none, none, none, none, none, none, none, none, none, none, none, none, none]) (by kernel_rfl) ?_
                      exact ih58 t86 t100 (t48 ++ ([t105] : List api_Final)) _ hp213 he56 _ A87 c88 A101 c102 A214 c215 _ hS222 hs90 hs104
              refine sx_split 5 (todo' := [.inRegion (opsOf (cd46 [1, 1, 1, 0, 0, 0, 1, 0, 1, 1, 1, 1, 0, 0])) [], .code (cd46 [1, 1, 1, 0, 0, 0, 1, 0, 1, 1, 1, 1, 0, 1]), .code (cd46 [1, 1, 1, 0, 0, 0, 1, 0, 1, 1, 1, 1, 1]), .inBlock 1, .inLoop (cd46 [1, 1, 1, 0, 0, 0]), .inBlock 0, .code (cd46 [1, 1, 1, 1])]) (us := [(49, .int .i64 t73)]) (d := 50) (t := (decide (t73 ≥ 0))) (by kernel_rfl) (fun h223 => ?_) (fun h224 => ?_)
              · skip
                have hp225 := ite_t hv98 h223
                refine sx_run 2 (todo' := [.code (cd46 [1, 1, 1, 0, 0, 0, 1, 0, 1, 1, 1, 1, 0, 1, 0]), .code (cd46 [1, 1, 1, 0, 0, 0, 1, 0, 1, 1, 1, 1, 1]), .inBlock 1, .inLoop (cd46 [1, 1, 1, 0, 0, 0]), .inBlock 0, .code (cd46 [1, 1, 1, 1])]) (us := []) (by kernel_rfl) ?_
                obtain ⟨g226, hp227⟩ := ite_some hp225
                obtain ⟨b228, p229, hA230, hc231⟩ := hs47.atF g226.1 g226.2
                obtain ⟨g232, hp233⟩ := ite_some hp227
                obtain ⟨A236, c237, hr234, hs235⟩ := cutSlZ hs47 ((1 : Int).toNat) (t43.length) (by omega) (by omega)
                have hS239 := hS93.pick1
                refine r_drawnF (X := Unit) (c := (cd46 [1, 1, 1, 0, 0, 0, 1, 0, 1, 1, 1, 1, 0, 1, 0])) (id := 14) (C0 := fun w' => St w0 Z (xblk b79 24 (enc_api_Final t91) :: xrow A49 c50 24 49 (t48.flatMap enc_api_Final) :: fs) w') (C1 := fun _ w' => St w0 Z (xblk b79 24 (enc_api_Final (gt t43 (0 : Int))) :: xrow A49 c50 24 49 (t48.flatMap enc_api_Final) :: fs) w') (vs := [.slice A44 t43.length c45, .pointer (some ⟨b228, p229 + (0 : Int).toNat * 49, none⟩), .agg (enc_api_Final (gt t43 (0 : Int))).toArray, .slice A44 t43.length c45, .slice A236 ((t43.take t43.length).drop ((1 : Int).toNat)).length c237, undef, undef]) (vx := fun _ => [.slice A44 t43.length c45, .pointer (some ⟨b228, p229 + (0 : Int).toNat * 49, none⟩), .agg (enc_api_Final (gt t43 (0 : Int))).toArray, .slice A44 t43.length c45, .slice A236 ((t43.take t43.length).drop ((1 : Int).toNat)).length c237, undef, .slice A236 ((t43.take t43.length).drop ((1 : Int).toNat)).length c237]) 5 7 [5, 6] [6] (by kernel_rfl) (by kernel_rfl) (by kernel_rfl) (by decide) (by kernel_rfl) (by kernel_rfl) (by kernel_rfl) rfl ?_ (fun _ => ⟨rfl, rfl⟩) hS239.drew ?_ ?_ ?_ ?_ ?_
                · intro _u i hi hd
                  match i, hi, hd with
                  | 0, _, _ => exact rfl
                  | 1, _, _ => exact rfl
                  | 2, _, _ => exact rfl
                  | 3, _, _ => exact rfl
                  | 4, _, _ => exact rfl
                  | 5, _, hd => exact absurd hd (by decide)
                  | 6, _, hd => exact absurd hd (by decide)
                  | i + 7, hi, _ => exact absurd hi (by omega)
                · intro i hi hd w hC
                  match i, hi, hd with
                  | 0, _, _ => exact does_pure (v := .slice A44 t43.length c45) (by kernel_rfl) rfl hC
                  | 1, _, _ => exact does_run (x_indexAddr (t := 36) (e := 24) (x := (.tmp 51)) (y := (.const (.int .i64 0))) (b := b228) (o' := p229) (n := t43.length) (cp := c45) (sz := 49) (kk := .i64) (j := (0 : Int)) (slv (by kernel_rfl) hA230) (by kernel_rfl) (by kernel_rfl) (by kernel_rfl) g226.1 g226.2 (by kernel_rfl)) rfl hC
                  | 2, _, _ => exact does_run (x_load (t := 24) (x := (.tmp 52)) (p := ⟨b228, p229 + (0 : Int).toNat * 49, none⟩) (v := .agg (enc_api_Final (gt t43 (0 : Int))).toArray) (by kernel_rfl) (loads_agg (hc231.cells hC) (by kernel_rfl) (lenK (len_api_Final _) (by kernel_rfl))) (by kernel_rfl)) rfl hC
                  | 3, _, _ => exact does_pure (v := .slice A44 t43.length c45) (by kernel_rfl) rfl hC
                  | 4, _, _ => exact does_run (x_cutSl_sn (t := 36) (x := (.tmp 54)) (lo := (.const (.int .i64 1))) (e := 24) (sz := 49) (A := A44) (n := t43.length) (c := c45) (k := .i64) (by kernel_rfl) (by kernel_rfl) (by kernel_rfl) (by kernel_rfl) g232 hr234 (by kernel_rfl)) rfl hC
                  | 5, _, hd => exact absurd hd (by decide)
                  | 6, _, hd => exact absurd hd (by decide)
                  | i + 7, hi, _ => exact absurd hi (by omega)
                · intro i hi hd _u w hC
                  match i, hi, hd with
                  | 0, _, _ => exact does_pure (v := .slice A44 t43.length c45) (by kernel_rfl) rfl hC
                  | 1, _, _ => exact does_run (x_indexAddr (t := 36) (e := 24) (x := (.tmp 51)) (y := (.const (.int .i64 0))) (b := b228) (o' := p229) (n := t43.length) (cp := c45) (sz := 49) (kk := .i64) (j := (0 : Int)) (slv (by kernel_rfl) hA230) (by kernel_rfl) (by kernel_rfl) (by kernel_rfl) g226.1 g226.2 (by kernel_rfl)) rfl hC
                  | 2, _, _ => exact does_run (x_load (t := 24) (x := (.tmp 52)) (p := ⟨b228, p229 + (0 : Int).toNat * 49, none⟩) (v := .agg (enc_api_Final (gt t43 (0 : Int))).toArray) (by kernel_rfl) (loads_agg (hc231.cells hC) (by kernel_rfl) (lenK (len_api_Final _) (by kernel_rfl))) (by kernel_rfl)) rfl hC
                  | 3, _, _ => exact does_pure (v := .slice A44 t43.length c45) (by kernel_rfl) rfl hC
                  | 4, _, _ => exact does_run (x_cutSl_sn (t := 36) (x := (.tmp 54)) (lo := (.const (.int .i64 1))) (e := 24) (sz := 49) (A := A44) (n := t43.length) (c := c45) (k := .i64) (by kernel_rfl) (by kernel_rfl) (by kernel_rfl) (by kernel_rfl) g232 hr234 (by kernel_rfl)) rfl hC
                  | 5, _, hd => exact absurd hd (by decide)
                  | 6, _, hd => exact absurd hd (by decide)
                  | i + 7, hi, _ => exact absurd hi (by omega)
                · intro w hC
                  exact does_store (ux := ()) (t := 24) (x := (.tmp 10)) (y := (.tmp 53)) (b := b79) (o := 0) (e := 24) (cs := enc_api_Final t91) (v := .agg (enc_api_Final (gt t43 (0 : Int))).toArray) (vs := enc_api_Final (gt t43 (0 : Int))) (cs' := enc_api_Final (gt t43 (0 : Int))) hC (by kernel_rfl) (by kernel_rfl) (by kernel_rfl) (by kernel_rfl) (by kernel_rfl) (lenK (len_api_Final _) (by kernel_rfl)) (one_api_Final _) (by simp only [len_api_Final, List.length_cons, List.length_nil, List.length_append]; omega) (over_all ((len_api_Final _).trans (len_api_Final _).symm)) (fun _ h => h)
                · intro i hi hd hne _u w hC
                  match i, hi, hd, hne with
                  | 0, _, hd, _ => exact absurd hd (by decide)
                  | 1, _, hd, _ => exact absurd hd (by decide)
                  | 2, _, hd, _ => exact absurd hd (by decide)
                  | 3, _, hd, _ => exact absurd hd (by decide)
                  | 4, _, hd, _ => exact absurd hd (by decide)
                  | 5, _, _, hne => exact absurd rfl hne
                  | 6, _, _, _ => exact does_pure (v := .slice A236 ((t43.take t43.length).drop ((1 : Int).toNat)).length c237) (by kernel_rfl) rfl hC
                  | i + 7, hi, _, _ => exact absurd hi (by omega)
                intro _u w240 hS241
                have hS242 := hS241.pick1
                refine Runs.fill (m := [some (.slice A87 t86.length c88), some (.slice A236 ((t43.take t43.length).drop ((1 : Int).toNat)).length c237), some (.func (.func 49) #[] #[]), none, none, none, none, none, some (.slice A49 t48.length c50), some (.int .i64 t73), some (.pointer (some ⟨b79, 0, none⟩)), none, none, none, none, none, none, none, none, none, none, none, none, none, none, none, none, none, none, none, none, none, none, none, none, none, none, none, none, none, none, none, none, none, none, none, none, none, none, none, none, none, none, none, none, none, none, none, none, none, none, none, none, none, none, none, none]) (by kernel_rfl) ?_
                exact J108 ((t43.take t43.length).drop ((1 : Int).toNat)) (gt t43 (0 : Int)) (Option.some.inj hp233) _ A236 c237 _ hS242 hs235
              · skip
                have hp243 := ite_f hv98 h224
                refine sx_run 3 (todo' := [.code (cd46 [1, 1, 1, 0, 0, 0, 1, 0, 1, 1, 1, 1, 1]), .inBlock 1, .inLoop (cd46 [1, 1, 1, 0, 0, 0]), .inBlock 0, .code (cd46 [1, 1, 1, 1])]) (us := []) (by kernel_rfl) ?_
                refine Runs.fill (m := [some (.slice A87 t86.length c88), some (.slice A44 t43.length c45), some (.func (.func 49) #[] #[]), none, none, none, none, none, some (.slice A49 t48.length c50), some (.int .i64 t73), some (.pointer (some ⟨b79, 0, none⟩)), none, none, none, none, none, none, none, none, none, none, none, none, none, none, none, none, none, none, none, none, none, none, none, none, none, none, none, none, none, none, none, none, none, none, none, none, none, none, none, none, none, none, none, none, none, none, none, none, none, none, none, none, none, none, none, none]) (by kernel_rfl) ?_
                exact J108 t43 t91 (Option.some.inj hp243) _ A44 c45 _ hS93 hs47
            refine sx_split 6 (todo' := [.inRegion (opsOf (cd46 [1, 1, 1, 0, 0, 0, 1, 0, 1, 1, 1, 0, 0])) [], .code (cd46 [1, 1, 1, 0, 0, 0, 1, 0, 1, 1, 1, 0, 1]), .code (cd46 [1, 1, 1, 0, 0, 0, 1, 0, 1, 1, 1, 1]), .inBlock 1, .inLoop (cd46 [1, 1, 1, 0, 0, 0]), .inBlock 0, .code (cd46 [1, 1, 1, 1])]) (us := [(42, .int .i64 t73)]) (d := 43) (t := (decide (t73 ≤ 0))) (by kernel_rfl) (fun h244 => ?_) (fun h245 => ?_)
            · skip
              have hp246 := ite_t hv84 h244
              refine sx_run 2 (todo' := [.code (cd46 [1, 1, 1, 0, 0, 0, 1, 0, 1, 1, 1, 0, 1, 0]), .code (cd46 [1, 1, 1, 0, 0, 0, 1, 0, 1, 1, 1, 1]), .inBlock 1, .inLoop (cd46 [1, 1, 1, 0, 0, 0]), .inBlock 0, .code (cd46 [1, 1, 1, 1])]) (us := []) (by kernel_rfl) ?_
              obtain ⟨g247, hp248⟩ := ite_some hp246
              obtain ⟨b249, p250, hA251, hc252⟩ := hs42.atF g247.1 g247.2
              obtain ⟨g253, hp254⟩ := ite_some hp248
              obtain ⟨A257, c258, hr255, hs256⟩ := cutSlZ hs42 ((1 : Int).toNat) (t38.length) (by omega) (by omega)
              refine r_drawnF (X := Unit) (c := (cd46 [1, 1, 1, 0, 0, 0, 1, 0, 1, 1, 1, 0, 1, 0])) (id := 12) (C0 := fun w' => St w0 Z (xblk b79 24 (enc_api_Final (⟨0, (Vector.replicate 48 0)⟩ : api_Final)) :: xrow A49 c50 24 49 (t48.flatMap enc_api_Final) :: fs) w') (C1 := fun _ w' => St w0 Z (xblk b79 24 (enc_api_Final (gt t38 (0 : Int))) :: xrow A49 c50 24 49 (t48.flatMap enc_api_Final) :: fs) w') (vs := [.slice A39 t38.length c40, .pointer (some ⟨b249, p250 + (0 : Int).toNat * 49, none⟩), .agg (enc_api_Final (gt t38 (0 : Int))).toArray, .slice A39 t38.length c40, .slice A257 ((t38.take t38.length).drop ((1 : Int).toNat)).length c258, undef, undef]) (vx := fun _ => [.slice A39 t38.length c40, .pointer (some ⟨b249, p250 + (0 : Int).toNat * 49, none⟩), .agg (enc_api_Final (gt t38 (0 : Int))).toArray, .slice A39 t38.length c40, .slice A257 ((t38.take t38.length).drop ((1 : Int).toNat)).length c258, undef, .slice A257 ((t38.take t38.length).drop ((1 : Int).toNat)).length c258]) 5 7 [5, 6] [6] (by kernel_rfl) (by kernel_rfl) (by kernel_rfl) (by decide) (by kernel_rfl) (by kernel_rfl) (by kernel_rfl) rfl ?_ (fun _ => ⟨rfl, rfl⟩) hS81.drew ?_ ?_ ?_ ?_ ?_
              · intro _u i hi hd
                match i, hi, hd with
                | 0, _, _ => exact rfl
                | 1, _, _ => exact rfl
                | 2, _, _ => exact rfl
                | 3, _, _ => exact rfl
                | 4, _, _ => exact rfl
                | 5, _, hd => exact absurd hd (by decide)
                | 6, _, hd => exact absurd hd (by decide)
                | i + 7, hi, _ => exact absurd hi (by omega)
              · intro i hi hd w hC
                match i, hi, hd with
                | 0, _, _ => exact does_pure (v := .slice A39 t38.length c40) (by kernel_rfl) rfl hC
                | 1, _, _ => exact does_run (x_indexAddr (t := 36) (e := 24) (x := (.tmp 44)) (y := (.const (.int .i64 0))) (b := b249) (o' := p250) (n := t38.length) (cp := c40) (sz := 49) (kk := .i64) (j := (0 : Int)) (slv (by kernel_rfl) hA251) (by kernel_rfl) (by kernel_rfl) (by kernel_rfl) g247.1 g247.2 (by kernel_rfl)) rfl hC
                | 2, _, _ => exact does_run (x_load (t := 24) (x := (.tmp 45)) (p := ⟨b249, p250 + (0 : Int).toNat * 49, none⟩) (v := .agg (enc_api_Final (gt t38 (0 : Int))).toArray) (by kernel_rfl) (loads_agg (hc252.cells hC) (by kernel_rfl) (lenK (len_api_Final _) (by kernel_rfl))) (by kernel_rfl)) rfl hC
                | 3, _, _ => exact does_pure (v := .slice A39 t38.length c40) (by kernel_rfl) rfl hC
                | 4, _, _ => exact does_run (x_cutSl_sn (t := 36) (x := (.tmp 47)) (lo := (.const (.int .i64 1))) (e := 24) (sz := 49) (A := A39) (n := t38.length) (c := c40) (k := .i64) (by kernel_rfl) (by kernel_rfl) (by kernel_rfl) (by kernel_rfl) g253 hr255 (by kernel_rfl)) rfl hC
                | 5, _, hd => exact absurd hd (by decide)
                | 6, _, hd => exact absurd hd (by decide)
                | i + 7, hi, _ => exact absurd hi (by omega)
              · intro i hi hd _u w hC
                match i, hi, hd with
                | 0, _, _ => exact does_pure (v := .slice A39 t38.length c40) (by kernel_rfl) rfl hC
                | 1, _, _ => exact does_run (x_indexAddr (t := 36) (e := 24) (x := (.tmp 44)) (y := (.const (.int .i64 0))) (b := b249) (o' := p250) (n := t38.length) (cp := c40) (sz := 49) (kk := .i64) (j := (0 : Int)) (slv (by kernel_rfl) hA251) (by kernel_rfl) (by kernel_rfl) (by kernel_rfl) g247.1 g247.2 (by kernel_rfl)) rfl hC
                | 2, _, _ => exact does_run (x_load (t := 24) (x := (.tmp 45)) (p := ⟨b249, p250 + (0 : Int).toNat * 49, none⟩) (v := .agg (enc_api_Final (gt t38 (0 : Int))).toArray) (by kernel_rfl) (loads_agg (hc252.cells hC) (by kernel_rfl) (lenK (len_api_Final _) (by kernel_rfl))) (by kernel_rfl)) rfl hC
                | 3, _, _ => exact does_pure (v := .slice A39 t38.length c40) (by kernel_rfl) rfl hC
                | 4, _, _ => exact does_run (x_cutSl_sn (t := 36) (x := (.tmp 47)) (lo := (.const (.int .i64 1))) (e := 24) (sz := 49) (A := A39) (n := t38.length) (c := c40) (k := .i64) (by kernel_rfl) (by kernel_rfl) (by kernel_rfl) (by kernel_rfl) g253 hr255 (by kernel_rfl)) rfl hC
                | 5, _, hd => exact absurd hd (by decide)
                | 6, _, hd => exact absurd hd (by decide)
                | i + 7, hi, _ => exact absurd hi (by omega)
              · intro w hC
                exact does_store (ux := ()) (t := 24) (x := (.tmp 10)) (y := (.tmp 46)) (b := b79) (o := 0) (e := 24) (cs := enc_api_Final (⟨0, (Vector.replicate 48 0)⟩ : api_Final)) (v := .agg (enc_api_Final (gt t38 (0 : Int))).toArray) (vs := enc_api_Final (gt t38 (0 : Int))) (cs' := enc_api_Final (gt t38 (0 : Int))) hC (by kernel_rfl) (by kernel_rfl) (by kernel_rfl) (by kernel_rfl) (by kernel_rfl) (lenK (len_api_Final _) (by kernel_rfl)) (one_api_Final _) (by simp only [len_api_Final, List.length_cons, List.length_nil, List.length_append]; omega) (over_all ((len_api_Final _).trans (len_api_Final _).symm)) (fun _ h => h)
              · intro i hi hd hne _u w hC
                match i, hi, hd, hne with
                | 0, _, hd, _ => exact absurd hd (by decide)
                | 1, _, hd, _ => exact absurd hd (by decide)
                | 2, _, hd, _ => exact absurd hd (by decide)
                | 3, _, hd, _ => exact absurd hd (by decide)
                | 4, _, hd, _ => exact absurd hd (by decide)
                | 5, _, _, hne => exact absurd rfl hne
                | 6, _, _, _ => exact does_pure (v := .slice A257 ((t38.take t38.length).drop ((1 : Int).toNat)).length c258) (by kernel_rfl) rfl hC
                | i + 7, hi, _, _ => exact absurd hi (by omega)
              intro _u w260 hS261
              have hS262 := hS261.pick1
              refine Runs.fill (m := [some (.slice A257 ((t38.take t38.length).drop ((1 : Int).toNat)).length c258), some (.slice A44 t43.length c45), some (.func (.func 49) #[] #[]), none, none, none, none, none, some (.slice A49 t48.length c50), some (.int .i64 t73), some (.pointer (some ⟨b79, 0, none⟩)), none, none, none, none, none, none, none, none, none, none, none, none, none, none, none, none, none, none, none, none, none, none, none, none, none, none, none, none, none, none, none, none, none, none, none, none, none, none, none, none, none, none, none, none, none, none, none, none, none, none, none, none, none, none, none, none]) (by kernel_rfl) ?_
              exact J94 ((t38.take t38.length).drop ((1 : Int).toNat)) (gt t38 (0 : Int)) (Option.some.inj hp254) _ A257 c258 _ hS262 hs256
            · skip
              have hp263 := ite_f hv84 h245
              refine sx_run 3 (todo' := [.code (cd46 [1, 1, 1, 0, 0, 0, 1, 0, 1, 1, 1, 1]), .inBlock 1, .inLoop (cd46 [1, 1, 1, 0, 0, 0]), .inBlock 0, .code (cd46 [1, 1, 1, 1])]) (us := []) (by kernel_rfl) ?_
              have hS264 := hS81.pick1
              refine Runs.fill (m := [some (.slice A39 t38.length c40), some (.slice A44 t43.length c45), some (.func (.func 49) #[] #[]), none, none, none, none, none, some (.slice A49 t48.length c50), some (.int .i64 t73), some (.pointer (some ⟨b79, 0, none⟩)), none, none, none, none, none, none, none, none, none, none, none, none, none, none, none, none, none, none, none, none, none, none, none, none, none, none, none, none, none, none, none, none, none, none, none, none, none, none, none, none, none, none, none, none, none, none, none, none, none, none, none, none, none, none, none, none]) (by kernel_rfl) ?_
              exact J94 t38 (⟨0, (Vector.replicate 48 0)⟩ : api_Final) (Option.some.inj hp263) _ A39 c40 _ hS264 hs42
          refine sx_split 12 (todo' := [.inRegion (opsOf (cd46 [1, 1, 1, 0, 0, 0, 1, 0, 1, 0, 0, 0])) [3], .code (cd46 [1, 1, 1, 0, 0, 0, 1, 0, 1, 0, 0, 1]), .inBlock 2, .code (cd46 [1, 1, 1, 0, 0, 0, 1, 0, 1, 1]), .inBlock 1, .inLoop (cd46 [1, 1, 1, 0, 0, 0]), .inBlock 0, .code (cd46 [1, 1, 1, 1])]) (us := [(9, .int .i64 (-1)), (28, .slice A39 t38.length c40), (29, .int .i64 (t38.length : Int))]) (d := 30) (t := ((t38.length : Int) == 0)) (by kernel_rfl) (fun h265 => ?_) (fun h266 => ?_)
          · skip
            have hp267 := ite_t hv71 h265
            refine sx_run 7 (todo' := [.code (cd46 [1, 1, 1, 0, 0, 0, 1, 0, 1, 1]), .inBlock 1, .inLoop (cd46 [1, 1, 1, 0, 0, 0]), .inBlock 0, .code (cd46 [1, 1, 1, 1])]) (us := [(27, .bool true), (9, .int .i64 1)]) (by kernel_rfl) ?_
            refine Runs.fill (m := [some (.slice A39 t38.length c40), some (.slice A44 t43.length c45), some (.func (.func 49) #[] #[]), none, none, none, none, none, some (.slice A49 t48.length c50), some (.int .i64 1), none, none, none, none, none, none, none, none, none, none, none, none, none, none, none, none, none, none, none, none, none, none, none, none, none, none, none, none, none, none, none, none, none, none, none, none, none, none, none, none, none, none, none, none, none, none, none, none, none, none, none, none, none, none, none, none, none]) (by kernel_rfl) ?_
            exact J76 1 (Option.some.inj hp267) _ _ hS65
          · skip
            have hp268 := ite_f hv71 h266
            refine sx_split 8 (todo' := [.inRegion (opsOf (cd46 [1, 1, 1, 0, 0, 0, 1, 0, 1, 0, 0, 1, 1, 0])) [3], .code (cd46 [1, 1, 1, 0, 0, 0, 1, 0, 1, 0, 0, 1, 1, 1]), .inBlock 2, .code (cd46 [1, 1, 1, 0, 0, 0, 1, 0, 1, 1]), .inBlock 1, .inLoop (cd46 [1, 1, 1, 0, 0, 0]), .inBlock 0, .code (cd46 [1, 1, 1, 1])]) (us := [(27, .bool false), (32, .slice A44 t43.length c45), (33, .int .i64 (t43.length : Int))]) (d := 34) (t := (decide ((t43.length : Int) > 0))) (by kernel_rfl) (fun h269 => ?_) (fun h270 => ?_)
            · skip
              have hp271 := ite_t hp268 h269
              refine sx_run 3 (todo' := [.code (cd46 [1, 1, 1, 0, 0, 0, 1, 0, 1, 0, 0, 1, 1, 1, 0]), .inBlock 2, .code (cd46 [1, 1, 1, 0, 0, 0, 1, 0, 1, 1]), .inBlock 1, .inLoop (cd46 [1, 1, 1, 0, 0, 0]), .inBlock 0, .code (cd46 [1, 1, 1, 1])]) (us := [(31, .bool true)]) (by kernel_rfl) ?_
              refine r_quiet hS65 (c := (cd46 [1, 1, 1, 0, 0, 0, 1, 0, 1, 0, 0, 1, 1, 1, 0])) (id := 9) (by kernel_rfl) (by kernel_rfl) (by kernel_rfl) (is := [0, 1, 2, 3, 4, 5, 6, 7]) (by kernel_rfl) ?_
              refine q_run 1 (is' := [1, 2, 3, 4, 5, 6, 7]) (us := [(35, .slice A39 t38.length c40)]) (by kernel_rfl) ?_
              obtain ⟨g272, hp273⟩ := ite_some hp271
              obtain ⟨b274, p275, hA276, hc277⟩ := hs42.atF g272.1 g272.2
              refine q_indexAddr (c := (cd46 [1, 1, 1, 0, 0, 0, 1, 0, 1, 0, 0, 1, 1, 1, 0])) (i := 1) (d := (some 36)) (ty := 0) (t := 36) (e := 24) (n := t38.length) (cp := c40) (sz := 49) (kk := .i64) (x := (.tmp 35)) (y := (.const (.int .i64 0))) (b := b274) (o' := p275) (j := (0 : Int)) (by kernel_rfl) (by kernel_rfl) (slv (by kernel_rfl) hA276) (by kernel_rfl) (by kernel_rfl) (by kernel_rfl) g272.1 g272.2 ?_
              refine q_load (c := (cd46 [1, 1, 1, 0, 0, 0, 1, 0, 1, 0, 0, 1, 1, 1, 0])) (i := 2) (d := (some 37)) (ty := 24) (t := 24) (x := (.tmp 36)) (p := ⟨b274, p275 + (0 : Int).toNat * 49, none⟩) (v := .agg (enc_api_Final (gt t38 (0 : Int))).toArray) (by kernel_rfl) (by kernel_rfl) (by kernel_rfl) (fun w hC => (loads_agg (hc277.cells hC) (by kernel_rfl) (lenK (len_api_Final _) (by kernel_rfl)))) ?_
              refine q_run 1 (is' := [4, 5, 6, 7]) (us := [(38, .slice A44 t43.length c45)]) (by kernel_rfl) ?_
              obtain ⟨g278, hp279⟩ := ite_some hp273
              obtain ⟨b280, p281, hA282, hc283⟩ := hs47.atF g278.1 g278.2
              refine q_indexAddr (c := (cd46 [1, 1, 1, 0, 0, 0, 1, 0, 1, 0, 0, 1, 1, 1, 0])) (i := 4) (d := (some 39)) (ty := 0) (t := 36) (e := 24) (n := t43.length) (cp := c45) (sz := 49) (kk := .i64) (x := (.tmp 38)) (y := (.const (.int .i64 0))) (b := b280) (o' := p281) (j := (0 : Int)) (by kernel_rfl) (by kernel_rfl) (slv (by kernel_rfl) hA282) (by kernel_rfl) (by kernel_rfl) (by kernel_rfl) g278.1 g278.2 ?_
              refine q_load (c := (cd46 [1, 1, 1, 0, 0, 0, 1, 0, 1, 0, 0, 1, 1, 1, 0])) (i := 5) (d := (some 40)) (ty := 24) (t := 24) (x := (.tmp 39)) (p := ⟨b280, p281 + (0 : Int).toNat * 49, none⟩) (v := .agg (enc_api_Final (gt t43 (0 : Int))).toArray) (by kernel_rfl) (by kernel_rfl) (by kernel_rfl) (fun w hC => (loads_agg (hc283.cells hC) (by kernel_rfl) (lenK (len_api_Final _) (by kernel_rfl)))) ?_
              obtain ⟨t284, hr285, hp286⟩ := bind_some' hp279
              refine q_call1 (c := (cd46 [1, 1, 1, 0, 0, 0, 1, 0, 1, 0, 0, 1, 1, 1, 0])) (i := 6) (d := (some 41)) (v := .int .i64 t284) (g := 21) (args := #[.agg (enc_api_Final (gt t38 (0 : Int))).toArray, .agg (enc_api_Final (gt t43 (0 : Int))).toArray]) (by kernel_rfl) (by kernel_rfl) (by kernel_rfl) (by kernel_rfl) (fun w hC => by
                refine (state_Compare.ok (gt t38 (0 : Int)) (gt t43 (0 : Int)) hC hr285).mono ?_
                rintro e w2 ⟨rfl, h2⟩
                exact ⟨rfl, h2⟩) ?_
              refine q_run 1 (is' := []) (us := [(9, .int .i64 t284)]) (by kernel_rfl) ?_
              refine Qs.nil ?_
              intro w287 hS288
              refine sx_run 1 (todo' := [.code (cd46 [1, 1, 1, 0, 0, 0, 1, 0, 1, 1]), .inBlock 1, .inLoop (cd46 [1, 1, 1, 0, 0, 0]), .inBlock 0, .code (cd46 [1, 1, 1, 1])]) (us := []) (by kernel_rfl) ?_
              refine Runs.fill (m := [some (.slice A39 t38.length c40), some (.slice A44 t43.length c45), some (.func (.func 49) #[] #[]), none, none, none, none, none, some (.slice A49 t48.length c50), some (.int .i64 t284), none, none, none, none, none, none, none, none, none, none, none, none, none, none, none, none, none, none, none, none, none, none, none, none, none, none, none, none, none, none, none, none, none, none, none, none, none, none, none, none, none, none, none, none, none, none, none, none, none, none, none, none, none, none, none, none, none]) (by kernel_rfl) ?_
              exact J76 t284 (Option.some.inj hp286) _ _ hS288
            · skip
              have hp289 := ite_f hp268 h270
              refine sx_run 5 (todo' := [.code (cd46 [1, 1, 1, 0, 0, 0, 1, 0, 1, 1]), .inBlock 1, .inLoop (cd46 [1, 1, 1, 0, 0, 0]), .inBlock 0, .code (cd46 [1, 1, 1, 1])]) (us := [(31, .bool false)]) (by kernel_rfl) ?_
              refine Runs.fill (m := [some (.slice A39 t38.length c40), some (.slice A44 t43.length c45), some (.func (.func 49) #[] #[]), none, none, none, none, none, some (.slice A49 t48.length c50), some (.int .i64 (-1)), none, none, none, none, none, none, none, none, none, none, none, none, none, none, none, none, none, none, none, none, none, none, none, none, none, none, none, none, none, none, none, none, none, none, none, none, none, none, none, none, none, none, none, none, none, none, none, none, none, none, none, none, none, none, none, none, none]) (by kernel_rfl) ?_
              exact J76 (-1) (Option.some.inj hp289) _ _ hS65
        refine sx_split 6 (todo' := [.inRegion (opsOf (cd46 [1, 1, 1, 0, 0, 0, 0, 0])) [3, 4, 5, 6, 7], .code (cd46 [1, 1, 1, 0, 0, 0, 0, 1]), .code (cd46 [1, 1, 1, 0, 0, 0, 1]), .inLoop (cd46 [1, 1, 1, 0, 0, 0]), .inBlock 0, .code (cd46 [1, 1, 1, 1])]) (us := [(19, .slice A39 t38.length c40), (20, .int .i64 (t38.length : Int))]) (d := 21) (t := (decide ((t38.length : Int) > 0))) (by kernel_rfl) (fun h290 => ?_) (fun h291 => ?_)
        · skip
          have hp292 := ite_t hv62 h290
          refine sx_run 8 (todo' := [.code (cd46 [1, 1, 1, 0, 0, 0, 1]), .inLoop (cd46 [1, 1, 1, 0, 0, 0]), .inBlock 0, .code (cd46 [1, 1, 1, 1])]) (us := [(22, .bool true), (23, undef), (24, undef), (25, undef), (26, .bool true)]) (by kernel_rfl) ?_
          refine Runs.fill (m := [some (.slice A39 t38.length c40), some (.slice A44 t43.length c45), some (.func (.func 49) #[] #[]), none, none, none, none, none, some (.slice A49 t48.length c50), none, none, none, none, none, none, none, none, none, none, none, none, none, none, none, none, none, none, none, none, none, none, none, none, none, none, none, none, none, none, none, none, none, none, none, none, none, none, none, none, none, none, none, none, none, none, none, none, none, none, none, none, none, none, none, none, none, none]) (by kernel_rfl) ?_
          exact J67 (Option.some.inj hp292) _ _ hS53
        · skip
          have hp293 := ite_f hv62 h291
          refine sx_split 4 (todo' := [.inRegion (opsOf (cd46 [1, 1, 1, 0, 0, 0, 0, 0])) [7], .code (cd46 [1, 1, 1, 0, 0, 0, 0, 1]), .code (cd46 [1, 1, 1, 0, 0, 0, 1]), .inLoop (cd46 [1, 1, 1, 0, 0, 0]), .inBlock 0, .code (cd46 [1, 1, 1, 1])]) (us := [(22, .bool false), (23, .slice A44 t43.length c45), (24, .int .i64 (t43.length : Int))]) (d := 25) (t := (decide ((t43.length : Int) > 0))) (by kernel_rfl) (fun h294 => ?_) (fun h295 => ?_)
          · skip
            have hp296 := ite_t hp293 h294
            refine sx_run 4 (todo' := [.code (cd46 [1, 1, 1, 0, 0, 0, 1]), .inLoop (cd46 [1, 1, 1, 0, 0, 0]), .inBlock 0, .code (cd46 [1, 1, 1, 1])]) (us := [(26, .bool true)]) (by kernel_rfl) ?_
            refine Runs.fill (m := [some (.slice A39 t38.length c40), some (.slice A44 t43.length c45), some (.func (.func 49) #[] #[]), none, none, none, none, none, some (.slice A49 t48.length c50), none, none, none, none, none, none, none, none, none, none, none, none, none, none, none, none, none, none, none, none, none, none, none, none, none, none, none, none, none, none, none, none, none, none, none, none, none, none, none, none, none, none, none, none, none, none, none, none, none, none, none, none, none, none, none, none, none, none]) (by kernel_rfl) ?_
            exact J67 (Option.some.inj hp296) _ _ hS53
          · skip
            have hp297 := ite_f hp293 h295
            refine sx_run 4 (todo' := [.code (cd46 [1, 1, 1, 1])]) (us := [(26, .bool false)]) (by kernel_rfl) ?_
            refine Runs.fill (m := [none, none, none, none, none, none, none, none, some (.slice A49 t48.length c50), none, none, none, none, none, none, none, none, none, none, none, none, none, none, none, none, none, none, none, none, none, none, none, none, none, none, none, none, none, none, none, none, none, none, none, none, none, none, none, none, none, none, none, none, none, none, none, none, none, none, none, none, none, none, none, none, none, none]) (by kernel_rfl) ?_
            exact J34 t48 ((hq66 _ (Option.some.inj hp297)).trans he56) _ A49 c50 _ hS53
      have hS299 := hS17.nilrow none 24 49
      refine Runs.fill (m := [some (.slice Aa0 a0.length ca0), some (.slice Aa1 a1.length ca1), some (.func (.func 49) #[] #[]), none, none, none, none, none, some (.slice none 0 0), none, none, none, none, none, none, none, none, none, none, none, none, none, none, none, none, none, none, none, none, none, none, none, none, none, none, none, none, none, none, none, none, none, none, none, none, none, none, none, none, none, none, none, none, none, none, none, none, none, none, none, none, none, none, none, none, none, none]) (by kernel_rfl) ?_
      exact L60 a0 a1 [] _ hv26 rfl _ Aa0 ca0 Aa1 ca1 none 0 _ hS299 ha0 ha1

noncomputable def cd38 (p : List Nat) : Code := sub (bodyOf Try.f38) p
def state_Minus.f (a0 : List api_Final) (a1 : List api_Final) : Option ((List api_Final) × Int) :=
  (state_walk_2.f a0 a1 >>= (fun (t1, t2) => some ((t1, t2))))
set_option maxHeartbeats 16000000 in
theorem state_Minus.ok (a0 : List api_Final) (a1 : List api_Final) (Aa0 : Option Addr) (ca0 : Nat) (Aa1 : Option Addr) (ca1 : Nat) {w0 : World} {Z : Zm} {fs : List XObj} {w : World} (hS0 : St w0 Z (fs) w) (ha0 : SlZ (flat enc_api_Final) 49 Z Aa0 ca0 a0) (ha1 : SlZ (flat enc_api_Final) 49 Z Aa1 ca1 a1) {q0 : List api_Final} {q1 : Int} (hp0 : state_Minus.f a0 a1 = some (q0, q1)) :
    Calls Try.prog 38 #[.slice Aa0 a0.length ca0, .slice Aa1 a1.length ca1] w (fun e w' => ∃ (QA0 : Option Addr) (Qc0 : Nat), e = .returned (.tuple #[.slice QA0 q0.length Qc0, .int .i64 q1]) ∧ St w0 Z (xrow QA0 Qc0 24 49 (q0.flatMap enc_api_Final) :: fs) w') := by
  refine calls_abs ?_; intro R hR
  unfold state_Minus.f at hp0
  refine calls_of_runs (fn := Try.f38) (c := cd38 []) Try.func38 (by kernel_rfl) (al := [.slice Aa0 a0.length ca0, .slice Aa1 a1.length ca1]) rfl (n := 9) rfl ?_
  refine sx_run 9 (todo' := [.inRegion (opsOf (cd38 [1, 0])) [2, 3, 4, 5, 6], .code (cd38 [1, 1])]) (us := [(4, .slice none 0 0), (5, .int .i64 0), (6, .slice Aa0 a0.length ca0), (7, .slice Aa1 a1.length ca1)]) (by kernel_rfl) ?_
  obtain ⟨⟨t1, t2⟩, hr5, hp6⟩ := bind_some' hp0
  try dsimp only at hp6
  refine r_call1 (c := (cd38 [1, 0])) (i := 2) (d := (some 8)) (g := 46) (args := #[.slice Aa0 a0.length ca0, .slice Aa1 a1.length ca1, .func (.func 49) #[] #[]]) (by kernel_rfl) (by kernel_rfl) (by kernel_rfl) (by kernel_rfl) (state_walk_2.ok a0 a1 Aa0 ca0 Aa1 ca1 hS0 ha0 ha1 hr5) ?_
  rintro _ w8 ⟨Q3, Q4, rfl, hS9⟩
  refine ⟨.tuple #[.slice Q3 t1.length Q4, .int .i64 t2], rfl, ?_⟩
  refine sx_run 5 (todo' := [.code (cd38 [1, 1])]) (us := [(9, .slice Q3 t1.length Q4), (10, .int .i64 t2), (4, .slice Q3 t1.length Q4), (5, .int .i64 t2)]) (by kernel_rfl) ?_
  refine runs_ret (fn := Try.f38) (v := .tuple #[.slice Q3 t1.length Q4, .int .i64 t2]) Try.func38 (by kernel_rfl) ?_
  have hr10 := (Option.some.inj hp6)
  cases hr10
  exact hR _ _ ⟨Q3, Q4, rfl, hS9⟩

noncomputable def cd17 (p : List Nat) : Code := sub (bodyOf Try.f17) p
def weirref10_Find.l0 (a0 : List api_Final) (a1 : api_Final) (t40 : Int) : Option Int :=
  (if (decide (t40 < (a0.length : Int))) = true then (if 0 ≤ t40 ∧ t40 < (a0.length : Int) then (weirref10_Compare.f (gt a0 t40) a1 >>= (fun t59 => (if (decide (t59 < 0)) = true then (weirref10_Find.l0 a0 a1 (IntKind.i64.wrap (t40 + 1))) else some (t40)))) else none) else some (t40))
 partial_fixpoint
def weirref10_Find.f (a0 : List api_Final) (a1 : api_Final) : Option (Int × Bool) :=
  (weirref10_Find.l0 a0 a1 0 >>= (fun t8 => (if (decide (t8 < (a0.length : Int))) = true then (if 0 ≤ t8 ∧ t8 < (a0.length : Int) then (if (decide ((gt a0 t8) = a1)) = true then some ((t8, true)) else some ((t8, false))) else none) else some ((t8, false)))))
set_option maxHeartbeats 16000000 in
theorem weirref10_Find.ok (a0 : List api_Final) (a1 : api_Final) (Aa0 : Option Addr) (ca0 : Nat) {w0 : World} {Z : Zm} {fs : List XObj} {w : World} (hS0 : St w0 Z (fs) w) (ha0 : SlZ (flat enc_api_Final) 49 Z Aa0 ca0 a0) {q0 : Int} {q1 : Bool} (hp0 : weirref10_Find.f a0 a1 = some (q0, q1)) :
    Calls Try.prog 17 #[.slice Aa0 a0.length ca0, .agg (enc_api_Final a1).toArray] w (fun e w' => e = .returned (.tuple #[.int .i64 q0, .bool q1]) ∧ St w0 Z (fs) w') := by
  refine calls_abs ?_; intro R hR
  unfold weirref10_Find.f at hp0
  refine calls_of_runs (fn := Try.f17) (c := cd17 []) Try.func17 (by kernel_rfl) (al := [.slice Aa0 a0.length ca0, .agg (enc_api_Final a1).toArray]) rfl (n := 33) rfl ?_
  refine sx_run 2 (todo' := [.inRegion (opsOf (cd17 [0])) [0, 1, 2], .code (cd17 [1])]) (us := []) (by kernel_rfl) ?_
  refine r_box (c := (cd17 [0])) (i := 0) (d := (some 3)) (ty := 0) (x := (.tmp 1)) (v := .agg (enc_api_Final a1).toArray) (t := 24) (cs := enc_api_Final a1) hS0 (by kernel_rfl) (by kernel_rfl) (by kernel_rfl) (by kernel_rfl) ?_
  intro b1 w2 hS3
  refine sx_run 10 (todo' := [.code (cd17 [1, 1, 0, 0, 0]), .inLoop (cd17 [1, 1, 0, 0, 0]), .inBlock 0, .code (cd17 [1, 1, 1])]) (us := [(4, .int .i64 0), (5, .bool false), (6, .int .i64 0)]) (by kernel_rfl) ?_
  obtain ⟨v5, hv6, hp7⟩ := bind_some' hp0
  have J11 : ∀ (t8 : Int) (he13 : t8 = v5) (l12 : List Value) (w9 : World) (hS10 : St w0 Z (xblk b1 24 (enc_api_Final a1) :: fs) w9), Runs Try.prog 17 [.code (cd17 [1, 1, 1])] (fill [some (.slice Aa0 a0.length ca0), none, none, some (.pointer (some ⟨b1, 0, none⟩)), none, none, some (.int .i64 t8), none, none, none, none, none, none, none, none, none, none, none, none, none, none, none, none, none, none, none, none, none, none, none, none, none, none, none, none] l12) w9 R := by
    intro t8 he13 l12 w9 hS10
    subst he13
    try dsimp only at hp7
    refine sx_run 1 (todo' := [.code (cd17 [1, 1, 1, 0]), .code (cd17 [1, 1, 1, 1])]) (us := []) (by kernel_rfl) ?_
    refine r_quiet hS10 (c := (cd17 [1, 1, 1, 0])) (id := 4) (by kernel_rfl) (by kernel_rfl) (by kernel_rfl) (is := [0, 1, 2, 3, 4, 5, 6, 7, 8, 9, 10, 11, 12, 13, 14]) (by kernel_rfl) ?_
    refine q_splitr 5 (is' := [5, 6, 7, 8, 9, 10, 11, 12, 13, 14]) (us := [(22, .int .i64 t8), (23, .int .i64 t8), (24, .slice Aa0 a0.length ca0), (25, .int .i64 (a0.length : Int))]) (d := 26) (t := (decide (t8 < (a0.length : Int)))) (by kernel_rfl) (fun h14 => ?_) (fun h15 => ?_)
    · skip
      have hp16 := ite_t hp7 h14
      refine q_run 3 (is' := [8, 9, 10, 11, 12, 13, 14]) (us := [(27, .bool true), (28, .slice Aa0 a0.length ca0), (29, .int .i64 t8)]) (by kernel_rfl) ?_
      obtain ⟨g17, hp18⟩ := ite_some hp16
      obtain ⟨b19, p20, hA21, hc22⟩ := ha0.atF g17.1 g17.2
      refine q_indexAddr (c := (cd17 [1, 1, 1, 0])) (i := 8) (d := (some 30)) (ty := 0) (t := 36) (e := 24) (n := a0.length) (cp := ca0) (sz := 49) (kk := .i64) (x := (.tmp 28)) (y := (.tmp 29)) (b := b19) (o' := p20) (j := t8) (by kernel_rfl) (by kernel_rfl) (slv (by kernel_rfl) hA21) (by kernel_rfl) (by kernel_rfl) (by kernel_rfl) g17.1 g17.2 ?_
      refine q_load (c := (cd17 [1, 1, 1, 0])) (i := 9) (d := (some 31)) (ty := 24) (t := 24) (x := (.tmp 30)) (p := ⟨b19, p20 + t8.toNat * 49, none⟩) (v := .agg (enc_api_Final (gt a0 t8)).toArray) (by kernel_rfl) (by kernel_rfl) (by kernel_rfl) (fun w hC => (loads_agg (hc22.cells hC) (by kernel_rfl) (lenK (len_api_Final _) (by kernel_rfl)))) ?_
      refine q_load (c := (cd17 [1, 1, 1, 0])) (i := 10) (d := (some 32)) (ty := 24) (t := 24) (x := (.tmp 3)) (p := ⟨b1, 0, none⟩) (v := .agg (enc_api_Final a1).toArray) (by kernel_rfl) (by kernel_rfl) (by kernel_rfl) (fun w hC => (loads_agg (hC.blk 0 rfl) (by kernel_rfl) (lenK (len_api_Final _) (by kernel_rfl)))) ?_
      refine q_val (c := (cd17 [1, 1, 1, 0])) (i := 11) (d := (some 33)) (ty := 4) (op := .binOp .eql 24 (.tmp 31) (.tmp 32) 24) (v := .bool (decide ((gt a0 t8) = a1))) (by kernel_rfl) (by kernel_rfl) (fun w hC o ho _ => x_eql_api_Final (by kernel_rfl) (by kernel_rfl) ho) ?_
      refine q_split (decide ((gt a0 t8) = a1)) (fun h23 => ?_) (fun h24 => ?_)
      · skip
        have hp25 := ite_t hp18 h23
        refine q_run 3 (is' := []) (us := [(34, .bool true), (4, .int .i64 t8), (5, .bool true)]) (by kernel_rfl) ?_
        refine Qs.nil ?_
        intro w26 hS27
        have hS28 := hS27.drop
        refine runs_ret (fn := Try.f17) (v := .tuple #[.int .i64 t8, .bool true]) Try.func17 (by kernel_rfl) ?_
        have hr29 := (Option.some.inj hp25)
        cases hr29
        exact hR _ _ ⟨rfl, hS28⟩
      · skip
        have hp30 := ite_f hp18 h24
        refine q_run 3 (is' := []) (us := [(34, .bool false), (4, .int .i64 t8), (5, .bool false)]) (by kernel_rfl) ?_
        refine Qs.nil ?_
        intro w31 hS32
        have hS33 := hS32.drop
        refine runs_ret (fn := Try.f17) (v := .tuple #[.int .i64 t8, .bool false]) Try.func17 (by kernel_rfl) ?_
        have hr34 := (Option.some.inj hp30)
        cases hr34
        exact hR _ _ ⟨rfl, hS33⟩
    · skip
      have hp35 := ite_f hp7 h15
      refine q_run 10 (is' := []) (us := [(27, .bool false), (28, undef), (29, undef), (30, undef), (31, undef), (32, undef), (33, undef), (34, .bool false), (4, .int .i64 t8), (5, .bool false)]) (by kernel_rfl) ?_
      refine Qs.nil ?_
      intro w36 hS37
      have hS38 := hS37.drop
      refine runs_ret (fn := Try.f17) (v := .tuple #[.int .i64 t8, .bool false]) Try.func17 (by kernel_rfl) ?_
      have hr39 := (Option.some.inj hp35)
      cases hr39
      exact hR _ _ ⟨rfl, hS38⟩
  have L49 : ∀ (t40 : Int) (e44 : Int), weirref10_Find.l0 a0 a1 t40 = some e44 → e44 = v5 → ∀ (l43 : List Value) (w41 : World) (hS42 : St w0 Z (xblk b1 24 (enc_api_Final a1) :: fs) w41), Runs Try.prog 17 [.code (cd17 [1, 1, 0, 0, 0]), .inLoop (cd17 [1, 1, 0, 0, 0]), .inBlock 0, .code (cd17 [1, 1, 1])] (fill [some (.slice Aa0 a0.length ca0), none, none, some (.pointer (some ⟨b1, 0, none⟩)), none, none, some (.int .i64 t40), none, none, none, none, none, none, none, none, none, none, none, none, none, none, none, none, none, none, none, none, none, none, none, none, none, none, none, none] l43) w41 R := by
    refine weirref10_Find.l0.partial_correctness a0 a1 (fun t40 e44 => e44 = v5 → ∀ (l43 : List Value) (w41 : World) (hS42 : St w0 Z (xblk b1 24 (enc_api_Final a1) :: fs) w41), Runs Try.prog 17 [.code (cd17 [1, 1, 0, 0, 0]), .inLoop (cd17 [1, 1, 0, 0, 0]), .inBlock 0, .code (cd17 [1, 1, 1])] (fill [some (.slice Aa0 a0.length ca0), none, none, some (.pointer (some ⟨b1, 0, none⟩)), none, none, some (.int .i64 t40), none, none, none, none, none, none, none, none, none, none, none, none, none, none, none, none, none, none, none, none, none, none, none, none, none, none, none, none] l43) w41 R) ?_
    intro rec48 ih47 t40 e44 hb46 he45 l43 w41 hS42
    refine sx_run 2 (todo' := [.code (cd17 [1, 1, 0, 0, 0, 0, 0]), .code (cd17 [1, 1, 0, 0, 0, 0, 1]), .code (cd17 [1, 1, 0, 0, 0, 1]), .inLoop (cd17 [1, 1, 0, 0, 0]), .inBlock 0, .code (cd17 [1, 1, 1])]) (us := []) (by kernel_rfl) ?_
    refine r_quiet hS42 (c := (cd17 [1, 1, 0, 0, 0, 0, 0])) (id := 2) (by kernel_rfl) (by kernel_rfl) (by kernel_rfl) (is := [0, 1, 2, 3, 4, 5, 6, 7, 8, 9, 10, 11, 12]) (by kernel_rfl) ?_
    refine q_splitr 4 (is' := [4, 5, 6, 7, 8, 9, 10, 11, 12]) (us := [(7, .int .i64 t40), (8, .slice Aa0 a0.length ca0), (9, .int .i64 (a0.length : Int))]) (d := 10) (t := (decide (t40 < (a0.length : Int)))) (by kernel_rfl) (fun h50 => ?_) (fun h51 => ?_)
    · skip
      have hp52 := ite_t hb46 h50
      refine q_run 3 (is' := [7, 8, 9, 10, 11, 12]) (us := [(11, .bool true), (12, .slice Aa0 a0.length ca0), (13, .int .i64 t40)]) (by kernel_rfl) ?_
      obtain ⟨g53, hp54⟩ := ite_some hp52
      obtain ⟨b55, p56, hA57, hc58⟩ := ha0.atF g53.1 g53.2
      refine q_indexAddr (c := (cd17 [1, 1, 0, 0, 0, 0, 0])) (i := 7) (d := (some 14)) (ty := 0) (t := 36) (e := 24) (n := a0.length) (cp := ca0) (sz := 49) (kk := .i64) (x := (.tmp 12)) (y := (.tmp 13)) (b := b55) (o' := p56) (j := t40) (by kernel_rfl) (by kernel_rfl) (slv (by kernel_rfl) hA57) (by kernel_rfl) (by kernel_rfl) (by kernel_rfl) g53.1 g53.2 ?_
      refine q_load (c := (cd17 [1, 1, 0, 0, 0, 0, 0])) (i := 8) (d := (some 15)) (ty := 24) (t := 24) (x := (.tmp 14)) (p := ⟨b55, p56 + t40.toNat * 49, none⟩) (v := .agg (enc_api_Final (gt a0 t40)).toArray) (by kernel_rfl) (by kernel_rfl) (by kernel_rfl) (fun w hC => (loads_agg (hc58.cells hC) (by kernel_rfl) (lenK (len_api_Final _) (by kernel_rfl)))) ?_
      refine q_load (c := (cd17 [1, 1, 0, 0, 0, 0, 0])) (i := 9) (d := (some 16)) (ty := 24) (t := 24) (x := (.tmp 3)) (p := ⟨b1, 0, none⟩) (v := .agg (enc_api_Final a1).toArray) (by kernel_rfl) (by kernel_rfl) (by kernel_rfl) (fun w hC => (loads_agg (hC.blk 0 rfl) (by kernel_rfl) (lenK (len_api_Final _) (by kernel_rfl)))) ?_
      obtain ⟨t59, hr60, hp61⟩ := bind_some' hp54
      refine q_call1 (c := (cd17 [1, 1, 0, 0, 0, 0, 0])) (i := 10) (d := (some 17)) (v := .int .i64 t59) (g := 22) (args := #[.agg (enc_api_Final (gt a0 t40)).toArray, .agg (enc_api_Final a1).toArray]) (by kernel_rfl) (by kernel_rfl) (by kernel_rfl) (by kernel_rfl) (fun w hC => by
        refine (weirref10_Compare.ok (gt a0 t40) a1 hC hr60).mono ?_
        rintro e w2 ⟨rfl, h2⟩
        exact ⟨rfl, h2⟩) ?_
      refine q_splitr 1 (is' := [12]) (us := []) (d := 18) (t := (decide (t59 < 0))) (by kernel_rfl) (fun h62 => ?_) (fun h63 => ?_)
      · skip
        have hp64 := ite_t hp61 h62
        refine q_run 1 (is' := []) (us := [(19, .bool true)]) (by kernel_rfl) ?_
        refine Qs.nil ?_
        intro w65 hS66
        refine sx_run 9 (todo' := [.inLoop (cd17 [1, 1, 0, 0, 0]), .inBlock 0, .code (cd17 [1, 1, 1])]) (us := [(20, .int .i64 t40), (21, .int .i64 (IntKind.i64.wrap (t40 + 1))), (6, .int .i64 (IntKind.i64.wrap (t40 + 1)))]) (by kernel_rfl) ?_
        refine sx_run 1 (todo' := [.code (cd17 [1, 1, 0, 0, 0]), .inLoop (cd17 [1, 1, 0, 0, 0]), .inBlock 0, .code (cd17 [1, 1, 1])]) (us := []) (by kernel_rfl) ?_
        refine Runs.fill (m := [some (.slice Aa0 a0.length ca0), none, none, some (.pointer (some ⟨b1, 0, none⟩)), none, none, some (.int .i64 (IntKind.i64.wrap (t40 + 1))), none, none, none, none, none, none, none, none, none, none, none, none, none, none, none, none, none, none, none, none, none, none, none, none, none, none, none, none]) (by kernel_rfl) ?_
        exact ih47 (IntKind.i64.wrap (t40 + 1)) _ hp64 he45 _ _ hS66
      · skip
        have hp67 := ite_f hp61 h63
        refine q_run 1 (is' := []) (us := [(19, .bool false)]) (by kernel_rfl) ?_
        refine Qs.nil ?_
        intro w68 hS69
        refine sx_run 2 (todo' := [.code (cd17 [1, 1, 1])]) (us := []) (by kernel_rfl) ?_
        refine Runs.fill (m := [some (.slice Aa0 a0.length ca0), none, none, some (.pointer (some ⟨b1, 0, none⟩)), none, none, some (.int .i64 t40), none, none, none, none, none, none, none, none, none, none, none, none, none, none, none, none, none, none, none, none, none, none, none, none, none, none, none, none]) (by kernel_rfl) ?_
        exact J11 t40 ((Option.some.inj hp67).trans he45) _ _ hS69
    · skip
      have hp70 := ite_f hb46 h51
      refine q_run 9 (is' := []) (us := [(11, .bool false), (12, undef), (13, undef), (14, undef), (15, undef), (16, undef), (17, undef), (18, undef), (19, .bool false)]) (by kernel_rfl) ?_
      refine Qs.nil ?_
      intro w71 hS72
      refine sx_run 2 (todo' := [.code (cd17 [1, 1, 1])]) (us := []) (by kernel_rfl) ?_
      refine Runs.fill (m := [some (.slice Aa0 a0.length ca0), none, none, some (.pointer (some ⟨b1, 0, none⟩)), none, none, some (.int .i64 t40), none, none, none, none, none, none, none, none, none, none, none, none, none, none, none, none, none, none, none, none, none, none, none, none, none, none, none, none]) (by kernel_rfl) ?_
      exact J11 t40 ((Option.some.inj hp70).trans he45) _ _ hS72
  refine Runs.fill (m := [some (.slice Aa0 a0.length ca0), none, none, some (.pointer (some ⟨b1, 0, none⟩)), none, none, some (.int .i64 0), none, none, none, none, none, none, none, none, none, none, none, none, none, none, none, none, none, none, none, none, none, none, none, none, none, none, none, none]) (by kernel_rfl) ?_
  exact L49 0 _ hv6 rfl _ _ hS3

noncomputable def cd39 (p : List Nat) : Code := sub (bodyOf Try.f39) p
def weirref10_Two.l0 (a0 : Int) (a1 : List api_Final) (a2 : List api_Final) (t76 : List api_Final) (t80 : Int) : Option (List api_Final) :=
  (if (decide (t80 < (a1.length : Int))) = true then (if 0 ≤ t80 ∧ t80 < (a1.length : Int) then (weirref10_Find.f a2 (gt a1 t80) >>= (fun (t99, t100) => (if (a0 == 1) = true then (if (t100 == true) = true then (if 0 ≤ t80 ∧ t80 < (a1.length : Int) then (if (t76.length + ([(gt a1 t80)] : List api_Final).length) * 392 ≤ 140737488355328 then (weirref10_Two.l0 a0 a1 a2 (t76 ++ ([(gt a1 t80)] : List api_Final)) (IntKind.i64.wrap (t80 + 1))) else none) else none) else (weirref10_Two.l0 a0 a1 a2 t76 (IntKind.i64.wrap (t80 + 1)))) else (if (t100 == false) = true then (if 0 ≤ t80 ∧ t80 < (a1.length : Int) then (if (t76.length + ([(gt a1 t80)] : List api_Final).length) * 392 ≤ 140737488355328 then (weirref10_Two.l0 a0 a1 a2 (t76 ++ ([(gt a1 t80)] : List api_Final)) (IntKind.i64.wrap (t80 + 1))) else none) else none) else (weirref10_Two.l0 a0 a1 a2 t76 (IntKind.i64.wrap (t80 + 1))))))) else none) else some (t76))
 partial_fixpoint
def weirref10_Two.f (a0 : Int) (a1 : List api_Final) (a2 : List api_Final) : Option ((List api_Final) × Int) :=
  (weirref10_Rises.f a1 >>= (fun t1 => (if (!t1) = true then some (([], 100)) else (weirref10_Rises.f a2 >>= (fun t13 => (if (!t13) = true then some (([], 100)) else (if (a0 == 0) = true then (if (([] : List api_Final).length + a1.length) * 392 ≤ 140737488355328 then (if ((([] : List api_Final) ++ a1).length + a2.length) * 392 ≤ 140737488355328 then (weirref10_Sort.f ((([] : List api_Final) ++ a1) ++ a2) >>= (fun t46 => some ((t46, 0)))) else none) else none) else (weirref10_Two.l0 a0 a1 a2 [] 0 >>= (fun t66 => some ((t66, 0)))))))))))
set_option maxHeartbeats 16000000 in
theorem weirref10_Two.ok (a0 : Int) (a1 : List api_Final) (a2 : List api_Final) (Aa1 : Option Addr) (ca1 : Nat) (Aa2 : Option Addr) (ca2 : Nat) {w0 : World} {Z : Zm} {fs : List XObj} {w : World} (hS0 : St w0 Z (fs) w) (ha1 : SlZ (flat enc_api_Final) 49 Z Aa1 ca1 a1) (ha2 : SlZ (flat enc_api_Final) 49 Z Aa2 ca2 a2) {q0 : List api_Final} {q1 : Int} (hp0 : weirref10_Two.f a0 a1 a2 = some (q0, q1)) :
    Calls Try.prog 39 #[.int .i64 a0, .slice Aa1 a1.length ca1, .slice Aa2 a2.length ca2] w (fun e w' => ∃ (QA0 : Option Addr) (Qc0 : Nat), e = .returned (.tuple #[.slice QA0 q0.length Qc0, .int .i64 q1]) ∧ St w0 Z (xrow QA0 Qc0 24 49 (q0.flatMap enc_api_Final) :: fs) w') := by
  refine calls_abs ?_; intro R hR
  unfold weirref10_Two.f at hp0
  refine calls_of_runs (fn := Try.f39) (c := cd39 []) Try.func39 (by kernel_rfl) (al := [.int .i64 a0, .slice Aa1 a1.length ca1, .slice Aa2 a2.length ca2]) rfl (n := 52) rfl ?_
  refine sx_run 9 (todo' := [.inRegion (opsOf (cd39 [1, 0, 0])) [1, 2, 3, 4, 5, 6, 7], .code (cd39 [1, 0, 1]), .code (cd39 [1, 1])]) (us := [(6, .slice none 0 0), (7, .int .i64 0), (12, .slice Aa1 a1.length ca1)]) (by kernel_rfl) ?_
  obtain ⟨t1, hr2, hp3⟩ := bind_some' hp0
  refine r_call1 (c := (cd39 [1, 0, 0])) (i := 1) (d := (some 13)) (g := 24) (args := #[.slice Aa1 a1.length ca1]) (by kernel_rfl) (by kernel_rfl) (by kernel_rfl) (by kernel_rfl) (weirref10_Rises.ok a1 Aa1 ca1 hS0 ha1 hr2) ?_
  rintro _ w4 ⟨rfl, hS5⟩
  refine ⟨.bool t1, rfl, ?_⟩
  refine sx_split 1 (todo' := [.inRegion (opsOf (cd39 [1, 0, 0])) [3, 4, 5, 6, 7], .code (cd39 [1, 0, 1]), .code (cd39 [1, 1])]) (us := []) (d := 14) (t := (!t1)) (by kernel_rfl) (fun h6 => ?_) (fun h7 => ?_)
  · skip
    have hp8 := ite_t hp3 h6
    refine sx_run 12 (todo' := [.code (cd39 [1, 0, 1, 0, 1]), .code (cd39 [1, 1])]) (us := [(15, .bool true), (16, undef), (17, undef), (18, undef), (19, .bool true), (6, .slice none 0 0), (7, .int .i64 100)]) (by kernel_rfl) ?_
    have hS10 := hS5.nilrow none 24 49
    refine runs_ret (fn := Try.f39) (v := .tuple #[.slice none 0 0, .int .i64 100]) Try.func39 (by kernel_rfl) ?_
    have hr11 := (Option.some.inj hp8)
    cases hr11
    exact hR _ _ ⟨none, 0, rfl, hS10⟩
  · skip
    have hp12 := ite_f hp3 h7
    refine sx_run 2 (todo' := [.inRegion (opsOf (cd39 [1, 0, 0])) [5, 6, 7], .code (cd39 [1, 0, 1]), .code (cd39 [1, 1])]) (us := [(15, .bool false), (16, .slice Aa2 a2.length ca2)]) (by kernel_rfl) ?_
    obtain ⟨t13, hr14, hp15⟩ := bind_some' hp12
    refine r_call1 (c := (cd39 [1, 0, 0])) (i := 5) (d := (some 17)) (g := 24) (args := #[.slice Aa2 a2.length ca2]) (by kernel_rfl) (by kernel_rfl) (by kernel_rfl) (by kernel_rfl) (weirref10_Rises.ok a2 Aa2 ca2 hS5 ha2 hr14) ?_
    rintro _ w16 ⟨rfl, hS17⟩
    refine ⟨.bool t13, rfl, ?_⟩
    refine sx_split 1 (todo' := [.inRegion (opsOf (cd39 [1, 0, 0])) [7], .code (cd39 [1, 0, 1]), .code (cd39 [1, 1])]) (us := []) (d := 18) (t := (!t13)) (by kernel_rfl) (fun h18 => ?_) (fun h19 => ?_)
    · skip
      have hp20 := ite_t hp15 h18
      refine sx_run 8 (todo' := [.code (cd39 [1, 0, 1, 0, 1]), .code (cd39 [1, 1])]) (us := [(19, .bool true), (6, .slice none 0 0), (7, .int .i64 100)]) (by kernel_rfl) ?_
      have hS22 := hS17.nilrow none 24 49
      refine runs_ret (fn := Try.f39) (v := .tuple #[.slice none 0 0, .int .i64 100]) Try.func39 (by kernel_rfl) ?_
      have hr23 := (Option.some.inj hp20)
      cases hr23
      exact hR _ _ ⟨none, 0, rfl, hS22⟩
    · skip
      have hp24 := ite_f hp15 h19
      refine sx_split 9 (todo' := [.inRegion (opsOf (cd39 [1, 1, 0, 0])) [], .code (cd39 [1, 1, 0, 1]), .code (cd39 [1, 1, 1])]) (us := [(19, .bool false), (20, .int .i64 a0)]) (d := 21) (t := (a0 == 0)) (by kernel_rfl) (fun h25 => ?_) (fun h26 => ?_)
      · skip
        have hp27 := ite_t hp24 h25
        refine sx_run 4 (todo' := [.inRegion (opsOf (cd39 [1, 1, 0, 1, 0, 0])) [0, 1, 2, 3, 4, 5, 6, 7], .code (cd39 [1, 1, 0, 1, 0, 1]), .code (cd39 [1, 1, 1])]) (us := []) (by kernel_rfl) ?_
        refine r_lit0 (c := (cd39 [1, 1, 0, 1, 0, 0])) (i := 0) (d := (some 22)) (ty := 36) (t := 36) (e := 24) (sz := 49) hS17 (by kernel_rfl) (by kernel_rfl) (by kernel_rfl) (by kernel_rfl) ?_
        intro b29 w30 hS31
        refine sx_run 1 (todo' := [.inRegion (opsOf (cd39 [1, 1, 0, 1, 0, 0])) [2, 3, 4, 5, 6, 7], .code (cd39 [1, 1, 0, 1, 0, 1]), .code (cd39 [1, 1, 1])]) (us := [(23, .slice Aa1 a1.length ca1)]) (by kernel_rfl) ?_
        obtain ⟨g32, hp33⟩ := ite_some hp27
        refine r_append (c := (cd39 [1, 1, 0, 1, 0, 0])) (i := 2) (d := (some 24)) (ty := 36) (enc := enc_api_Final) (e := 24) (u := 24) (t := 36) (t2 := 36) (sz := 49) (cp := 0) (A := (some ⟨b29, 0, none⟩)) (bytes := 392) (xs := ([] : List api_Final)) (ys := a1) (s := (.tmp 22)) (x := (.tmp 23)) (xv := .slice Aa1 a1.length ca1) (info := infoOf Try.prog 24) (z := zeroOf Try.prog 24) (ycs := a1.flatMap enc_api_Final) hS31 (by kernel_rfl) (by kernel_rfl) (by kernel_rfl) (by kernel_rfl) (by kernel_rfl) (.inl (by kernel_rfl)) (by kernel_rfl) (by kernel_rfl) (by kernel_rfl) (by kernel_rfl) (by kernel_rfl) (by omega) len_api_Final one_api_Final (src_slz hS31 ha1 (by omega) len_api_Final) rfl g32 (by omega) ?_
        intro A34 c35 w36 hS37
        refine sx_run 1 (todo' := [.inRegion (opsOf (cd39 [1, 1, 0, 1, 0, 0])) [4, 5, 6, 7], .code (cd39 [1, 1, 0, 1, 0, 1]), .code (cd39 [1, 1, 1])]) (us := [(25, .slice Aa2 a2.length ca2)]) (by kernel_rfl) ?_
        obtain ⟨g39, hp40⟩ := ite_some hp33
        refine r_append (c := (cd39 [1, 1, 0, 1, 0, 0])) (i := 4) (d := (some 26)) (ty := 36) (enc := enc_api_Final) (e := 24) (u := 24) (t := 36) (t2 := 36) (sz := 49) (cp := c35) (A := A34) (bytes := 392) (xs := (([] : List api_Final) ++ a1)) (ys := a2) (s := (.tmp 24)) (x := (.tmp 25)) (xv := .slice Aa2 a2.length ca2) (info := infoOf Try.prog 24) (z := zeroOf Try.prog 24) (ycs := a2.flatMap enc_api_Final) hS37 (by kernel_rfl) (by kernel_rfl) (by kernel_rfl) (by kernel_rfl) (by kernel_rfl) (.inl (by kernel_rfl)) (by kernel_rfl) (by kernel_rfl) (by kernel_rfl) (by kernel_rfl) (by kernel_rfl) (by omega) len_api_Final one_api_Final (src_slz hS37 ha2 (by omega) len_api_Final) rfl g39 (by omega) ?_
        intro A41 c42 w43 hS44
        obtain ⟨t46, hr49, hp50⟩ := bind_some' hp40
        obtain ⟨Z52, hz53, hS54, hs55, hb56⟩ := hS44.lendrow len_api_Final (by omega)
        refine r_call1 (c := (cd39 [1, 1, 0, 1, 0, 0])) (i := 5) (d := (some 27)) (g := 14) (args := #[.slice A41 ((([] : List api_Final) ++ a1) ++ a2).length c42]) (by kernel_rfl) (by kernel_rfl) (by kernel_rfl) (by kernel_rfl) (weirref10_Sort.ok ((([] : List api_Final) ++ a1) ++ a2) A41 c42 hS54 hs55 hr49) ?_
        rintro _ w57 ⟨Q47, Q48, rfl, hS58⟩
        refine ⟨.slice Q47 t46.length Q48, rfl, ?_⟩
        have hS59 := hb56 _ _ hS58
        refine sx_run 3 (todo' := [.code (cd39 [1, 1, 0, 1, 0, 1]), .code (cd39 [1, 1, 1])]) (us := [(6, .slice Q47 t46.length Q48), (7, .int .i64 0)]) (by kernel_rfl) ?_
        have hS60 := hS59.drop
        refine runs_ret (fn := Try.f39) (v := .tuple #[.slice Q47 t46.length Q48, .int .i64 0]) Try.func39 (by kernel_rfl) ?_
        have hr61 := (Option.some.inj hp50)
        cases hr61
        exact hR _ _ ⟨Q47, Q48, rfl, hS60⟩
      · skip
        have hp62 := ite_f hp24 h26
        refine sx_run 14 (todo' := [.code (cd39 [1, 1, 1, 1, 0, 1, 0, 0]), .inLoop (cd39 [1, 1, 1, 1, 0, 1, 0, 0]), .inBlock 0, .code (cd39 [1, 1, 1, 1, 1])]) (us := [(8, .slice none 0 0), (9, .int .i64 0)]) (by kernel_rfl) ?_
        obtain ⟨v63, hv64, hp65⟩ := bind_some' hp62
        have J72 : ∀ (t66 : List api_Final) (he74 : t66 = v63) (l73 : List Value) (A67 : Option Addr) (c68 : Nat) (w70 : World) (hS71 : St w0 Z (xrow A67 c68 24 49 (t66.flatMap enc_api_Final) :: fs) w70), Runs Try.prog 39 [.code (cd39 [1, 1, 1, 1, 1])] (fill [none, none, none, none, none, none, none, none, some (.slice A67 t66.length c68), none, none, none, none, none, none, none, none, none, none, none, none, none, none, none, none, none, none, none, none, none, none, none, none, none, none, none, none, none, none, none, none, none, none, none, none, none, none, none, none, none, none, none, none, none, none] l73) w70 R := by
          intro t66 he74 l73 A67 c68 w70 hS71
          subst he74
          try dsimp only at hp65
          refine sx_run 6 (todo' := [.code (cd39 [1, 1, 1, 1, 1, 1])]) (us := [(54, .slice A67 t66.length c68), (6, .slice A67 t66.length c68), (7, .int .i64 0)]) (by kernel_rfl) ?_
          refine runs_ret (fn := Try.f39) (v := .tuple #[.slice A67 t66.length c68, .int .i64 0]) Try.func39 (by kernel_rfl) ?_
          have hr75 := (Option.some.inj hp65)
          cases hr75
          exact hR _ _ ⟨A67, c68, rfl, hS71⟩
        have L89 : ∀ (t76 : List api_Final) (t80 : Int) (e84 : (List api_Final)), weirref10_Two.l0 a0 a1 a2 t76 t80 = some e84 → e84 = v63 → ∀ (l83 : List Value) (A77 : Option Addr) (c78 : Nat) (w81 : World) (hS82 : St w0 Z (xrow A77 c78 24 49 (t76.flatMap enc_api_Final) :: fs) w81), Runs Try.prog 39 [.code (cd39 [1, 1, 1, 1, 0, 1, 0, 0]), .inLoop (cd39 [1, 1, 1, 1, 0, 1, 0, 0]), .inBlock 0, .code (cd39 [1, 1, 1, 1, 1])] (fill [some (.int .i64 a0), some (.slice Aa1 a1.length ca1), some (.slice Aa2 a2.length ca2), none, none, none, none, none, some (.slice A77 t76.length c78), some (.int .i64 t80), none, none, none, none, none, none, none, none, none, none, none, none, none, none, none, none, none, none, none, none, none, none, none, none, none, none, none, none, none, none, none, none, none, none, none, none, none, none, none, none, none, none, none, none, none] l83) w81 R := by
          refine weirref10_Two.l0.partial_correctness a0 a1 a2 (fun t76 t80 e84 => e84 = v63 → ∀ (l83 : List Value) (A77 : Option Addr) (c78 : Nat) (w81 : World) (hS82 : St w0 Z (xrow A77 c78 24 49 (t76.flatMap enc_api_Final) :: fs) w81), Runs Try.prog 39 [.code (cd39 [1, 1, 1, 1, 0, 1, 0, 0]), .inLoop (cd39 [1, 1, 1, 1, 0, 1, 0, 0]), .inBlock 0, .code (cd39 [1, 1, 1, 1, 1])] (fill [some (.int .i64 a0), some (.slice Aa1 a1.length ca1), some (.slice Aa2 a2.length ca2), none, none, none, none, none, some (.slice A77 t76.length c78), some (.int .i64 t80), none, none, none, none, none, none, none, none, none, none, none, none, none, none, none, none, none, none, none, none, none, none, none, none, none, none, none, none, none, none, none, none, none, none, none, none, none, none, none, none, none, none, none, none, none] l83) w81 R) ?_
          intro rec88 ih87 t76 t80 e84 hb86 he85 l83 A77 c78 w81 hS82
          refine sx_split 7 (todo' := [.inRegion (opsOf (cd39 [1, 1, 1, 1, 0, 1, 0, 0, 0, 0])) [], .code (cd39 [1, 1, 1, 1, 0, 1, 0, 0, 0, 1]), .code (cd39 [1, 1, 1, 1, 0, 1, 0, 0, 1]), .inLoop (cd39 [1, 1, 1, 1, 0, 1, 0, 0]), .inBlock 0, .code (cd39 [1, 1, 1, 1, 1])]) (us := [(28, .int .i64 t80), (29, .slice Aa1 a1.length ca1), (30, .int .i64 (a1.length : Int))]) (d := 31) (t := (decide (t80 < (a1.length : Int)))) (by kernel_rfl) (fun h90 => ?_) (fun h91 => ?_)
          · skip
            have hp92 := ite_t hb86 h90
            refine sx_run 10 (todo' := [.inRegion (opsOf (cd39 [1, 1, 1, 1, 0, 1, 0, 0, 1, 0, 0, 0])) [3, 4, 5, 6, 7, 8, 9, 10], .code (cd39 [1, 1, 1, 1, 0, 1, 0, 0, 1, 0, 0, 1]), .inBlock 1, .code (cd39 [1, 1, 1, 1, 0, 1, 0, 0, 1, 1]), .inLoop (cd39 [1, 1, 1, 1, 0, 1, 0, 0]), .inBlock 0, .code (cd39 [1, 1, 1, 1, 1])]) (us := [(35, .slice Aa2 a2.length ca2), (36, .slice Aa1 a1.length ca1), (37, .int .i64 t80)]) (by kernel_rfl) ?_
            obtain ⟨g93, hp94⟩ := ite_some hp92
            obtain ⟨b95, p96, hA97, hc98⟩ := ha1.atF g93.1 g93.2
            refine r_indexAddr (c := (cd39 [1, 1, 1, 1, 0, 1, 0, 0, 1, 0, 0, 0])) (i := 3) (d := (some 38)) (ty := 0) (t := 36) (e := 24) (n := a1.length) (cp := ca1) (sz := 49) (kk := .i64) (x := (.tmp 36)) (y := (.tmp 37)) (b := b95) (o' := p96) (j := t80) (by kernel_rfl) (by kernel_rfl) (slv (by kernel_rfl) hA97) (by kernel_rfl) (by kernel_rfl) (by kernel_rfl) g93.1 g93.2 ?_
            refine r_load (c := (cd39 [1, 1, 1, 1, 0, 1, 0, 0, 1, 0, 0, 0])) (i := 4) (d := (some 39)) (ty := 24) (t := 24) (x := (.tmp 38)) (p := ⟨b95, p96 + t80.toNat * 49, none⟩) (v := .agg (enc_api_Final (gt a1 t80)).toArray) (by kernel_rfl) (by kernel_rfl) (by kernel_rfl) (loads_agg (hc98.cells hS82) (by kernel_rfl) (lenK (len_api_Final _) (by kernel_rfl))) ?_
            obtain ⟨⟨t99, t100⟩, hr101, hp102⟩ := bind_some' hp94
            try dsimp only at hp102
            refine r_call1 (c := (cd39 [1, 1, 1, 1, 0, 1, 0, 0, 1, 0, 0, 0])) (i := 5) (d := (some 40)) (g := 17) (args := #[.slice Aa2 a2.length ca2, .agg (enc_api_Final (gt a1 t80)).toArray]) (by kernel_rfl) (by kernel_rfl) (by kernel_rfl) (by kernel_rfl) (weirref10_Find.ok a2 (gt a1 t80) Aa2 ca2 hS82 ha2 hr101) ?_
            rintro _ w103 ⟨rfl, hS104⟩
            refine ⟨.tuple #[.int .i64 t99, .bool t100], rfl, ?_⟩
            refine sx_split 11 (todo' := [.inRegion (opsOf (cd39 [1, 1, 1, 1, 0, 1, 0, 0, 1, 0, 0, 1, 0])) [3], .code (cd39 [1, 1, 1, 1, 0, 1, 0, 0, 1, 0, 0, 1, 1]), .inBlock 1, .code (cd39 [1, 1, 1, 1, 0, 1, 0, 0, 1, 1]), .inLoop (cd39 [1, 1, 1, 1, 0, 1, 0, 0]), .inBlock 0, .code (cd39 [1, 1, 1, 1, 1])]) (us := [(34, .tuple #[.int .i64 t99, .bool t100]), (41, .int .i64 t99), (42, .bool t100), (10, .int .i64 t99), (11, .bool t100), (43, .bool t100), (44, .int .i64 a0)]) (d := 45) (t := (a0 == 1)) (by kernel_rfl) (fun h105 => ?_) (fun h106 => ?_)
            · skip
              have hp107 := ite_t hp102 h105
              refine sx_split 1 (todo' := [.inRegion (opsOf (cd39 [1, 1, 1, 1, 0, 1, 0, 0, 1, 0, 0, 1, 0])) [], .code (cd39 [1, 1, 1, 1, 0, 1, 0, 0, 1, 0, 0, 1, 1]), .inBlock 1, .code (cd39 [1, 1, 1, 1, 0, 1, 0, 0, 1, 1]), .inLoop (cd39 [1, 1, 1, 1, 0, 1, 0, 0]), .inBlock 0, .code (cd39 [1, 1, 1, 1, 1])]) (us := []) (d := 46) (t := (t100 == true)) (by kernel_rfl) (fun h108 => ?_) (fun h109 => ?_)
              · skip
                have hp110 := ite_t hp107 h108
                refine sx_run 6 (todo' := [.inRegion (opsOf (cd39 [1, 1, 1, 1, 0, 1, 0, 0, 1, 0, 0, 1, 1, 0])) [3, 4, 5, 6, 7], .inBlock 1, .code (cd39 [1, 1, 1, 1, 0, 1, 0, 0, 1, 1]), .inLoop (cd39 [1, 1, 1, 1, 0, 1, 0, 0]), .inBlock 0, .code (cd39 [1, 1, 1, 1, 1])]) (us := [(47, .slice A77 t76.length c78), (48, .slice Aa1 a1.length ca1), (49, .int .i64 t80)]) (by kernel_rfl) ?_
                obtain ⟨g111, hp112⟩ := ite_some hp110
                obtain ⟨b113, p114, hA115, hc116⟩ := ha1.atF g111.1 g111.2
                refine r_indexAddr (c := (cd39 [1, 1, 1, 1, 0, 1, 0, 0, 1, 0, 0, 1, 1, 0])) (i := 3) (d := (some 50)) (ty := 0) (t := 36) (e := 24) (n := a1.length) (cp := ca1) (sz := 49) (kk := .i64) (x := (.tmp 48)) (y := (.tmp 49)) (b := b113) (o' := p114) (j := t80) (by kernel_rfl) (by kernel_rfl) (slv (by kernel_rfl) hA115) (by kernel_rfl) (by kernel_rfl) (by kernel_rfl) g111.1 g111.2 ?_
                refine r_load (c := (cd39 [1, 1, 1, 1, 0, 1, 0, 0, 1, 0, 0, 1, 1, 0])) (i := 4) (d := (some 51)) (ty := 24) (t := 24) (x := (.tmp 50)) (p := ⟨b113, p114 + t80.toNat * 49, none⟩) (v := .agg (enc_api_Final (gt a1 t80)).toArray) (by kernel_rfl) (by kernel_rfl) (by kernel_rfl) (loads_agg (hc116.cells hS104) (by kernel_rfl) (lenK (len_api_Final _) (by kernel_rfl))) ?_
                refine r_lit (c := (cd39 [1, 1, 1, 1, 0, 1, 0, 0, 1, 0, 0, 1, 1, 0])) (i := 5) (d := (some 52)) (ty := 36) (t := 36) (e := 24) (sz := 49) (n := 1) (parts := #[(0, (.tmp 51))]) (vs := [(0, .agg (enc_api_Final (gt a1 t80)).toArray)]) (z := zeroOf Try.prog 24) (cs' := ([(gt a1 t80)] : List api_Final).flatMap enc_api_Final) hS104 (by kernel_rfl) (by kernel_rfl) (by kernel_rfl) (by kernel_rfl) (by kernel_rfl) (by decide) (by decide) (by kernel_rfl) rfl (Parts.cons (c := enc_api_Final (gt a1 t80)) (by kernel_rfl) (len_api_Final _) Parts.nil) rfl ?_
                intro b118 w119 hS120
                have hS121 := hS120.pick1
                obtain ⟨g122, hp123⟩ := ite_some hp112
                refine r_append (c := (cd39 [1, 1, 1, 1, 0, 1, 0, 0, 1, 0, 0, 1, 1, 0])) (i := 6) (d := (some 53)) (ty := 36) (enc := enc_api_Final) (e := 24) (u := 24) (t := 36) (t2 := 36) (sz := 49) (cp := c78) (A := A77) (bytes := 392) (xs := t76) (ys := ([(gt a1 t80)] : List api_Final)) (s := (.tmp 47)) (x := (.tmp 52)) (xv := .slice (some ⟨b118, 0, none⟩) ([(gt a1 t80)] : List api_Final).length 1) (info := infoOf Try.prog 24) (z := zeroOf Try.prog 24) (ycs := ([(gt a1 t80)] : List api_Final).flatMap enc_api_Final) hS121 (by kernel_rfl) (by kernel_rfl) (by kernel_rfl) (by kernel_rfl) (by kernel_rfl) (.inl (by kernel_rfl)) (by kernel_rfl) (by kernel_rfl) (by kernel_rfl) (by kernel_rfl) (by kernel_rfl) (by omega) len_api_Final one_api_Final (src_row (hS121.row 1 rfl) (by omega) len_api_Final) rfl g122 (by omega) ?_
                intro A124 c125 w126 hS127
                refine sx_run 8 (todo' := [.inLoop (cd39 [1, 1, 1, 1, 0, 1, 0, 0]), .inBlock 0, .code (cd39 [1, 1, 1, 1, 1])]) (us := [(8, .slice A124 (t76 ++ ([(gt a1 t80)] : List api_Final)).length c125), (32, .int .i64 t80), (33, .int .i64 (IntKind.i64.wrap (t80 + 1))), (9, .int .i64 (IntKind.i64.wrap (t80 + 1)))]) (by kernel_rfl) ?_
                have hS129 := hS127.pick1
                have hS130 := hS129.drop
                refine sx_run 1 (todo' := [.code (cd39 [1, 1, 1, 1, 0, 1, 0, 0]), .inLoop (cd39 [1, 1, 1, 1, 0, 1, 0, 0]), .inBlock 0, .code (cd39 [1, 1, 1, 1, 1])]) (us := []) (by kernel_rfl) ?_
                refine Runs.fill (m := [some (.int .i64 a0), some (.slice Aa1 a1.length ca1), some (.slice Aa2 a2.length ca2), none, none, none, none, none, some (.slice A124 (t76 ++ ([(gt a1 t80)] : List api_Final)).length c125), some (.int .i64 (IntKind.i64.wrap (t80 + 1))), none, none, none, none, none, none, none, none, none, none, none, none, none, none, none, none, none, none, none, none, none, none, none, none, none, none, none, none, none, none, none, none, none, none, none, none, none, none, none, none, none, none, none, none, none]) (by kernel_rfl) ?_
                exact ih87 (t76 ++ ([(gt a1 t80)] : List api_Final)) (IntKind.i64.wrap (t80 + 1)) _ hp123 he85 _ A124 c125 _ hS130
              · skip
                have hp131 := ite_f hp107 h109
                refine sx_run 9 (todo' := [.inLoop (cd39 [1, 1, 1, 1, 0, 1, 0, 0]), .inBlock 0, .code (cd39 [1, 1, 1, 1, 1])]) (us := [(32, .int .i64 t80), (33, .int .i64 (IntKind.i64.wrap (t80 + 1))), (9, .int .i64 (IntKind.i64.wrap (t80 + 1)))]) (by kernel_rfl) ?_
                refine sx_run 1 (todo' := [.code (cd39 [1, 1, 1, 1, 0, 1, 0, 0]), .inLoop (cd39 [1, 1, 1, 1, 0, 1, 0, 0]), .inBlock 0, .code (cd39 [1, 1, 1, 1, 1])]) (us := []) (by kernel_rfl) ?_
                refine Runs.fill (m := [some (.int .i64 a0), some (.slice Aa1 a1.length ca1), some (.slice Aa2 a2.length ca2), none, none, none, none, none, some (.slice A77 t76.length c78), some (.int .i64 (IntKind.i64.wrap (t80 + 1))), none, none, none, none, none, none, none, none, none, none, none, none, none, none, none, none, none, none, none, none, none, none, none, none, none, none, none, none, none, none, none, none, none, none, none, none, none, none, none, none, none, none, none, none, none]) (by kernel_rfl) ?_
                exact ih87 t76 (IntKind.i64.wrap (t80 + 1)) _ hp131 he85 _ A77 c78 _ hS104
            · skip
              have hp132 := ite_f hp102 h106
              refine sx_split 1 (todo' := [.inRegion (opsOf (cd39 [1, 1, 1, 1, 0, 1, 0, 0, 1, 0, 0, 1, 0])) [], .code (cd39 [1, 1, 1, 1, 0, 1, 0, 0, 1, 0, 0, 1, 1]), .inBlock 1, .code (cd39 [1, 1, 1, 1, 0, 1, 0, 0, 1, 1]), .inLoop (cd39 [1, 1, 1, 1, 0, 1, 0, 0]), .inBlock 0, .code (cd39 [1, 1, 1, 1, 1])]) (us := []) (d := 46) (t := (t100 == false)) (by kernel_rfl) (fun h133 => ?_) (fun h134 => ?_)
              · skip
                have hp135 := ite_t hp132 h133
                refine sx_run 6 (todo' := [.inRegion (opsOf (cd39 [1, 1, 1, 1, 0, 1, 0, 0, 1, 0, 0, 1, 1, 0])) [3, 4, 5, 6, 7], .inBlock 1, .code (cd39 [1, 1, 1, 1, 0, 1, 0, 0, 1, 1]), .inLoop (cd39 [1, 1, 1, 1, 0, 1, 0, 0]), .inBlock 0, .code (cd39 [1, 1, 1, 1, 1])]) (us := [(47, .slice A77 t76.length c78), (48, .slice Aa1 a1.length ca1), (49, .int .i64 t80)]) (by kernel_rfl) ?_
                obtain ⟨g136, hp137⟩ := ite_some hp135
                obtain ⟨b138, p139, hA140, hc141⟩ := ha1.atF g136.1 g136.2
                refine r_indexAddr (c := (cd39 [1, 1, 1, 1, 0, 1, 0, 0, 1, 0, 0, 1, 1, 0])) (i := 3) (d := (some 50)) (ty := 0) (t := 36) (e := 24) (n := a1.length) (cp := ca1) (sz := 49) (kk := .i64) (x := (.tmp 48)) (y := (.tmp 49)) (b := b138) (o' := p139) (j := t80) (by kernel_rfl) (by kernel_rfl) (slv (by kernel_rfl) hA140) (by kernel_rfl) (by kernel_rfl) (by kernel_rfl) g136.1 g136.2 ?_
                refine r_load (c := (cd39 [1, 1, 1, 1, 0, 1, 0, 0, 1, 0, 0, 1, 1, 0])) (i := 4) (d := (some 51)) (ty := 24) (t := 24) (x := (.tmp 50)) (p := ⟨b138, p139 + t80.toNat * 49, none⟩) (v := .agg (enc_api_Final (gt a1 t80)).toArray) (by kernel_rfl) (by kernel_rfl) (by kernel_rfl) (loads_agg (hc141.cells hS104) (by kernel_rfl) (lenK (len_api_Final _) (by kernel_rfl))) ?_
                refine r_lit (c := (cd39 [1, 1, 1, 1, 0, 1, 0, 0, 1, 0, 0, 1, 1, 0])) (i := 5) (d := (some 52)) (ty := 36) (t := 36) (e := 24) (sz := 49) (n := 1) (parts := #[(0, (.tmp 51))]) (vs := [(0, .agg (enc_api_Final (gt a1 t80)).toArray)]) (z := zeroOf Try.prog 24) (cs' := ([(gt a1 t80)] : List api_Final).flatMap enc_api_Final) hS104 (by kernel_rfl) (by kernel_rfl) (by kernel_rfl) (by kernel_rfl) (by kernel_rfl) (by decide) (by decide) (by kernel_rfl) rfl (Parts.cons (c := enc_api_Final (gt a1 t80)) (by kernel_rfl) (len_api_Final _) Parts.nil) rfl ?_
                intro b143 w144 hS145
                have hS146 := hS145.pick1
                obtain ⟨g147, hp148⟩ := ite_some hp137
                refine r_append (c := (cd39 [1, 1, 1, 1, 0, 1, 0, 0, 1, 0, 0, 1, 1, 0])) (i := 6) (d := (some 53)) (ty := 36) (enc := enc_api_Final) (e := 24) (u := 24) (t := 36) (t2 := 36) (sz := 49) (cp := c78) (A := A77) (bytes := 392) (xs := t76) (ys := ([(gt a1 t80)] : List api_Final)) (s := (.tmp 47)) (x := (.tmp 52)) (xv := .slice (some ⟨b143, 0, none⟩) ([(gt a1 t80)] : List api_Final).length 1) (info := infoOf Try.prog 24) (z := zeroOf Try.prog 24) (ycs := ([(gt a1 t80)] : List api_Final).flatMap enc_api_Final) hS146 (by kernel_rfl) (by kernel_rfl) (by kernel_rfl) (by kernel_rfl) (by kernel_rfl) (.inl (by kernel_rfl)) (by kernel_rfl) (by kernel_rfl) (by kernel_rfl) (by kernel_rfl) (by kernel_rfl) (by omega) len_api_Final one_api_Final (src_row (hS146.row 1 rfl) (by omega) len_api_Final) rfl g147 (by omega) ?_
                intro A149 c150 w151 hS152
                refine sx_run 8 (todo' := [.inLoop (cd39 [1, 1, 1, 1, 0, 1, 0, 0]), .inBlock 0, .code (cd39 [1, 1, 1, 1, 1])]) (us := [(8, .slice A149 (t76 ++ ([(gt a1 t80)] : List api_Final)).length c150), (32, .int .i64 t80), (33, .int .i64 (IntKind.i64.wrap (t80 + 1))), (9, .int .i64 (IntKind.i64.wrap (t80 + 1)))]) (by kernel_rfl) ?_
                have hS154 := hS152.pick1
                have hS155 := hS154.drop
                refine sx_run 1 (todo' := [.code (cd39 [1, 1, 1, 1, 0, 1, 0, 0]), .inLoop (cd39 [1, 1, 1, 1, 0, 1, 0, 0]), .inBlock 0, .code (cd39 [1, 1, 1, 1, 1])]) (us := []) (by kernel_rfl) ?_
                refine Runs.fill (m := [some (.int .i64 a0), some (.slice Aa1 a1.length ca1), some (.slice Aa2 a2.length ca2), none, none, none, none, none, some (.slice A149 (t76 ++ ([(gt a1 t80)] : List api_Final)).length c150), some (.int .i64 (IntKind.i64.wrap (t80 + 1))), none, none, none, none, none, none, none, none, none, none, none, none, none, none, none, none, none, none, none, none, none, none, none, none, none, none, none, none, none, none, none, none, none, none, none, none, none, none, none, none, none, none, none, none, none]) (by kernel_rfl) ?_
                exact ih87 (t76 ++ ([(gt a1 t80)] : List api_Final)) (IntKind.i64.wrap (t80 + 1)) _ hp148 he85 _ A149 c150 _ hS155
              · skip
                have hp156 := ite_f hp132 h134
                refine sx_run 9 (todo' := [.inLoop (cd39 [1, 1, 1, 1, 0, 1, 0, 0]), .inBlock 0, .code (cd39 [1, 1, 1, 1, 1])]) (us := [(32, .int .i64 t80), (33, .int .i64 (IntKind.i64.wrap (t80 + 1))), (9, .int .i64 (IntKind.i64.wrap (t80 + 1)))]) (by kernel_rfl) ?_
                refine sx_run 1 (todo' := [.code (cd39 [1, 1, 1, 1, 0, 1, 0, 0]), .inLoop (cd39 [1, 1, 1, 1, 0, 1, 0, 0]), .inBlock 0, .code (cd39 [1, 1, 1, 1, 1])]) (us := []) (by kernel_rfl) ?_
                refine Runs.fill (m := [some (.int .i64 a0), some (.slice Aa1 a1.length ca1), some (.slice Aa2 a2.length ca2), none, none, none, none, none, some (.slice A77 t76.length c78), some (.int .i64 (IntKind.i64.wrap (t80 + 1))), none, none, none, none, none, none, none, none, none, none, none, none, none, none, none, none, none, none, none, none, none, none, none, none, none, none, none, none, none, none, none, none, none, none, none, none, none, none, none, none, none, none, none, none, none]) (by kernel_rfl) ?_
                exact ih87 t76 (IntKind.i64.wrap (t80 + 1)) _ hp156 he85 _ A77 c78 _ hS104
          · skip
            have hp157 := ite_f hb86 h91
            refine sx_run 3 (todo' := [.code (cd39 [1, 1, 1, 1, 1])]) (us := []) (by kernel_rfl) ?_
            refine Runs.fill (m := [none, none, none, none, none, none, none, none, some (.slice A77 t76.length c78), none, none, none, none, none, none, none, none, none, none, none, none, none, none, none, none, none, none, none, none, none, none, none, none, none, none, none, none, none, none, none, none, none, none, none, none, none, none, none, none, none, none, none, none, none, none]) (by kernel_rfl) ?_
            exact J72 t76 ((Option.some.inj hp157).trans he85) _ A77 c78 _ hS82
        have hS159 := hS17.nilrow none 24 49
        refine Runs.fill (m := [some (.int .i64 a0), some (.slice Aa1 a1.length ca1), some (.slice Aa2 a2.length ca2), none, none, none, none, none, some (.slice none 0 0), some (.int .i64 0), none, none, none, none, none, none, none, none, none, none, none, none, none, none, none, none, none, none, none, none, none, none, none, none, none, none, none, none, none, none, none, none, none, none, none, none, none, none, none, none, none, none, none, none, none]) (by kernel_rfl) ?_
        exact L89 [] 0 _ hv64 rfl _ none 0 _ hS159

noncomputable def cd13 (p : List Nat) : Code := sub (bodyOf Try.f13) p
def weirlaw10_three.f (a0 : List api_Final) (a1 : List api_Final) : Option Bool :=
  (weirlaw10_Lent.f a0 >>= (fun (t1, t2) => (weirlaw10_Lent.f a1 >>= (fun (t10, t11) => (if t2 ≤ t1.length then (if t11 ≤ t10.length then (state_Union.f (t1.take t2) (t10.take t11) >>= (fun (t23, t24) => (if t2 ≤ t1.length then (if t11 ≤ t10.length then (state_Meet.f (t1.take t2) (t10.take t11) >>= (fun (t49, t50) => (if t2 ≤ t1.length then (if t11 ≤ t10.length then (state_Minus.f (t1.take t2) (t10.take t11) >>= (fun (t74, t75) => (weirref10_Two.f 0 a0 a1 >>= (fun (t95, t96) => (weirref10_Two.f 1 a0 a1 >>= (fun (t104, t105) => (weirref10_Two.f 2 a0 a1 >>= (fun (t113, t114) => (weirlaw10_num.f t24 >>= (fun t122 => (if (t122 != t96) = true then some (false) else (weirlaw10_num.f t50 >>= (fun t140 => (if (t140 != t105) = true then some (false) else (weirlaw10_num.f t75 >>= (fun t158 => (if (t158 != t114) = true then some (false) else (weirlaw10_Same.f t23 t95 >>= (fun t176 => (if (!t176) = true then some (false) else (weirlaw10_Same.f t49 t104 >>= (fun t208 => (if (!t208) = true then some (false) else (weirlaw10_Same.f t74 t113 >>= (fun t240 => (if (!t240) = true then some (false) else (weirlaw10_Spoil.f t23 >>= (fun _ => (weirlaw10_Same.f t49 t104 >>= (fun t277 => (if (!t277) = true then some (false) else (weirlaw10_Same.f t74 t113 >>= (fun t308 => (if (!t308) = true then some (false) else (weirlaw10_Back.f t1 t2 a0 >>= (fun t339 => (if (!t339) = true then some (false) else (weirlaw10_Back.f t10 t11 a1 >>= (fun t357 => (if (!t357) = true then some (false) else (weirlaw10_Spoil.f t49 >>= (fun _ => (weirlaw10_Same.f t74 t113 >>= (fun t380 => (if (!t380) = true then some (false) else (weirlaw10_Back.f t1 t2 a0 >>= (fun t410 => (if (!t410) = true then some (false) else (weirlaw10_Back.f t10 t11 a1 >>= (fun t427 => (if (!t427) = true then some (false) else (weirlaw10_Spoil.f t74 >>= (fun _ => (weirlaw10_Back.f t1 t2 a0 >>= (fun t449 => (if t449 = true then (weirlaw10_Back.f t10 t11 a1 >>= (fun t463 => some (t463))) else some (false))))))))))))))))))))))))))))))))))))))))))))))))))))))))) else none) else none))) else none) else none))) else none) else none)))))
set_option maxHeartbeats 16000000 in
theorem weirlaw10_three.ok (a0 : List api_Final) (a1 : List api_Final) (Aa0 : Option Addr) (ca0 : Nat) (Aa1 : Option Addr) (ca1 : Nat) {w0 : World} {Z : Zm} {fs : List XObj} {w : World} (hS0 : St w0 Z (fs) w) (ha0 : SlZ (flat enc_api_Final) 49 Z Aa0 ca0 a0) (ha1 : SlZ (flat enc_api_Final) 49 Z Aa1 ca1 a1) {q0 : Bool} (hp0 : weirlaw10_three.f a0 a1 = some q0) :
    Calls Try.prog 13 #[.slice Aa0 a0.length ca0, .slice Aa1 a1.length ca1] w (fun e w' => e = .returned (.bool q0) ∧ St w0 Z (fs) w') := by
  refine calls_abs ?_; intro R hR
  unfold weirlaw10_three.f at hp0
  refine calls_of_runs (fn := Try.f13) (c := cd13 []) Try.func13 (by kernel_rfl) (al := [.slice Aa0 a0.length ca0, .slice Aa1 a1.length ca1]) rfl (n := 143) rfl ?_
  refine sx_run 7 (todo' := [.inRegion (opsOf (cd13 [1, 0])) [1, 2], .code (cd13 [1, 1])]) (us := [(4, .bool false), (19, .slice Aa0 a0.length ca0)]) (by kernel_rfl) ?_
  obtain ⟨⟨t1, t2⟩, hr5, hp6⟩ := bind_some' hp0
  try dsimp only at hp6
  refine r_call1 (c := (cd13 [1, 0])) (i := 1) (d := (some 20)) (g := 16) (args := #[.slice Aa0 a0.length ca0]) (by kernel_rfl) (by kernel_rfl) (by kernel_rfl) (by kernel_rfl) (weirlaw10_Lent.ok a0 Aa0 ca0 hS0 ha0 hr5) ?_
  rintro _ w8 ⟨Q3, Q4, rfl, hS9⟩
  refine ⟨.slice Q3 t2 Q4, rfl, ?_⟩
  refine sx_run 5 (todo' := [.inRegion (opsOf (cd13 [1, 1, 0])) [1, 2], .code (cd13 [1, 1, 1])]) (us := [(5, .slice Q3 t2 Q4), (21, .slice Aa1 a1.length ca1)]) (by kernel_rfl) ?_
  obtain ⟨⟨t10, t11⟩, hr14, hp15⟩ := bind_some' hp6
  try dsimp only at hp15
  refine r_call1 (c := (cd13 [1, 1, 0])) (i := 1) (d := (some 22)) (g := 16) (args := #[.slice Aa1 a1.length ca1]) (by kernel_rfl) (by kernel_rfl) (by kernel_rfl) (by kernel_rfl) (weirlaw10_Lent.ok a1 Aa1 ca1 hS9 ha1 hr14) ?_
  rintro _ w17 ⟨Q12, Q13, rfl, hS18⟩
  refine ⟨.slice Q12 t11 Q13, rfl, ?_⟩
  refine sx_run 6 (todo' := [.inRegion (opsOf (cd13 [1, 1, 1, 0])) [2, 3, 4, 5, 6, 7], .code (cd13 [1, 1, 1, 1])]) (us := [(6, .slice Q12 t11 Q13), (24, .slice Q3 t2 Q4), (25, .slice Q12 t11 Q13)]) (by kernel_rfl) ?_
  obtain ⟨g19, hp20⟩ := ite_some hp15
  obtain ⟨g21, hp22⟩ := ite_some hp20
  obtain ⟨⟨t23, t24⟩, hr27, hp28⟩ := bind_some' hp22
  try dsimp only at hp28
  have hS30 := hS18.pick1
  obtain ⟨Z31, hz32, hS33, hs34, hb35⟩ := hS30.lendrow len_api_Final (by omega)
  obtain ⟨Z36, hz37, hS38, hs39, hb40⟩ := hS33.lendrow len_api_Final (by omega)
  refine r_call1 (c := (cd13 [1, 1, 1, 0])) (i := 2) (d := (some 26)) (g := 36) (args := #[.slice Q3 t2 Q4, .slice Q12 t11 Q13]) (by kernel_rfl) (by kernel_rfl) (by kernel_rfl) (by kernel_rfl) (args_eq (by rw [lenTake g19, lenTake g21]) (state_Union.ok (t1.take t2) (t10.take t11) Q3 Q4 Q12 Q13 hS38 ((hs34.up hz37).take0 t2) (hs39.take0 t11) hr27)) ?_
  rintro _ w41 ⟨Q25, Q26, rfl, hS42⟩
  refine ⟨.tuple #[.slice Q25 t23.length Q26, .int .i64 t24], rfl, ?_⟩
  have hS43 := hb40 _ _ hS42
  have hS44 := hb35 _ _ hS43
  refine sx_run 10 (todo' := [.inRegion (opsOf (cd13 [1, 1, 1, 1, 0])) [2, 3, 4, 5, 6, 7], .code (cd13 [1, 1, 1, 1, 1])]) (us := [(23, .tuple #[.slice Q25 t23.length Q26, .int .i64 t24]), (27, .slice Q25 t23.length Q26), (28, .int .i64 t24), (7, .slice Q25 t23.length Q26), (8, .int .i64 t24), (30, .slice Q3 t2 Q4), (31, .slice Q12 t11 Q13)]) (by kernel_rfl) ?_
  obtain ⟨g45, hp46⟩ := ite_some hp28
  obtain ⟨g47, hp48⟩ := ite_some hp46
  obtain ⟨⟨t49, t50⟩, hr53, hp54⟩ := bind_some' hp48
  try dsimp only at hp54
  obtain ⟨Z56, hz57, hS58, hs59, hb60⟩ := hS44.lendrow len_api_Final (by omega)
  obtain ⟨Z61, hz62, hS63, hs64, hb65⟩ := hS58.lendrow len_api_Final (by omega)
  refine r_call1 (c := (cd13 [1, 1, 1, 1, 0])) (i := 2) (d := (some 32)) (g := 37) (args := #[.slice Q3 t2 Q4, .slice Q12 t11 Q13]) (by kernel_rfl) (by kernel_rfl) (by kernel_rfl) (by kernel_rfl) (args_eq (by rw [lenTake g45, lenTake g47]) (state_Meet.ok (t1.take t2) (t10.take t11) Q3 Q4 Q12 Q13 hS63 ((hs59.up hz62).take0 t2) (hs64.take0 t11) hr53)) ?_
  rintro _ w66 ⟨Q51, Q52, rfl, hS67⟩
  refine ⟨.tuple #[.slice Q51 t49.length Q52, .int .i64 t50], rfl, ?_⟩
  have hS68 := hb65 _ _ hS67
  have hS69 := hb60 _ _ hS68
  refine sx_run 10 (todo' := [.inRegion (opsOf (cd13 [1, 1, 1, 1, 1, 0])) [2, 3, 4, 5, 6, 7], .code (cd13 [1, 1, 1, 1, 1, 1])]) (us := [(29, .tuple #[.slice Q51 t49.length Q52, .int .i64 t50]), (33, .slice Q51 t49.length Q52), (34, .int .i64 t50), (9, .slice Q51 t49.length Q52), (10, .int .i64 t50), (36, .slice Q3 t2 Q4), (37, .slice Q12 t11 Q13)]) (by kernel_rfl) ?_
  obtain ⟨g70, hp71⟩ := ite_some hp54
  obtain ⟨g72, hp73⟩ := ite_some hp71
  obtain ⟨⟨t74, t75⟩, hr78, hp79⟩ := bind_some' hp73
  try dsimp only at hp79
  obtain ⟨Z81, hz82, hS83, hs84, hb85⟩ := hS69.lendrow len_api_Final (by omega)
  obtain ⟨Z86, hz87, hS88, hs89, hb90⟩ := hS83.lendrow len_api_Final (by omega)
  refine r_call1 (c := (cd13 [1, 1, 1, 1, 1, 0])) (i := 2) (d := (some 38)) (g := 38) (args := #[.slice Q3 t2 Q4, .slice Q12 t11 Q13]) (by kernel_rfl) (by kernel_rfl) (by kernel_rfl) (by kernel_rfl) (args_eq (by rw [lenTake g70, lenTake g72]) (state_Minus.ok (t1.take t2) (t10.take t11) Q3 Q4 Q12 Q13 hS88 ((hs84.up hz87).take0 t2) (hs89.take0 t11) hr78)) ?_
  rintro _ w91 ⟨Q76, Q77, rfl, hS92⟩
  refine ⟨.tuple #[.slice Q76 t74.length Q77, .int .i64 t75], rfl, ?_⟩
  have hS93 := hb90 _ _ hS92
  have hS94 := hb85 _ _ hS93
  refine sx_run 10 (todo' := [.inRegion (opsOf (cd13 [1, 1, 1, 1, 1, 1, 0])) [2, 3, 4, 5, 6, 7], .code (cd13 [1, 1, 1, 1, 1, 1, 1])]) (us := [(35, .tuple #[.slice Q76 t74.length Q77, .int .i64 t75]), (39, .slice Q76 t74.length Q77), (40, .int .i64 t75), (11, .slice Q76 t74.length Q77), (12, .int .i64 t75), (42, .slice Aa0 a0.length ca0), (43, .slice Aa1 a1.length ca1)]) (by kernel_rfl) ?_
  obtain ⟨⟨t95, t96⟩, hr99, hp100⟩ := bind_some' hp79
  try dsimp only at hp100
  refine r_call1 (c := (cd13 [1, 1, 1, 1, 1, 1, 0])) (i := 2) (d := (some 44)) (g := 39) (args := #[.int .i64 0, .slice Aa0 a0.length ca0, .slice Aa1 a1.length ca1]) (by kernel_rfl) (by kernel_rfl) (by kernel_rfl) (by kernel_rfl) (weirref10_Two.ok 0 a0 a1 Aa0 ca0 Aa1 ca1 hS94 ha0 ha1 hr99) ?_
  rintro _ w102 ⟨Q97, Q98, rfl, hS103⟩
  refine ⟨.tuple #[.slice Q97 t95.length Q98, .int .i64 t96], rfl, ?_⟩
  refine sx_run 10 (todo' := [.inRegion (opsOf (cd13 [1, 1, 1, 1, 1, 1, 1, 0])) [2, 3, 4, 5, 6, 7], .code (cd13 [1, 1, 1, 1, 1, 1, 1, 1])]) (us := [(41, .tuple #[.slice Q97 t95.length Q98, .int .i64 t96]), (45, .slice Q97 t95.length Q98), (46, .int .i64 t96), (13, .slice Q97 t95.length Q98), (14, .int .i64 t96), (48, .slice Aa0 a0.length ca0), (49, .slice Aa1 a1.length ca1)]) (by kernel_rfl) ?_
  obtain ⟨⟨t104, t105⟩, hr108, hp109⟩ := bind_some' hp100
  try dsimp only at hp109
  refine r_call1 (c := (cd13 [1, 1, 1, 1, 1, 1, 1, 0])) (i := 2) (d := (some 50)) (g := 39) (args := #[.int .i64 1, .slice Aa0 a0.length ca0, .slice Aa1 a1.length ca1]) (by kernel_rfl) (by kernel_rfl) (by kernel_rfl) (by kernel_rfl) (weirref10_Two.ok 1 a0 a1 Aa0 ca0 Aa1 ca1 hS103 ha0 ha1 hr108) ?_
  rintro _ w111 ⟨Q106, Q107, rfl, hS112⟩
  refine ⟨.tuple #[.slice Q106 t104.length Q107, .int .i64 t105], rfl, ?_⟩
  refine sx_run 10 (todo' := [.inRegion (opsOf (cd13 [1, 1, 1, 1, 1, 1, 1, 1, 0])) [2, 3, 4, 5, 6, 7], .code (cd13 [1, 1, 1, 1, 1, 1, 1, 1, 1])]) (us := [(47, .tuple #[.slice Q106 t104.length Q107, .int .i64 t105]), (51, .slice Q106 t104.length Q107), (52, .int .i64 t105), (15, .slice Q106 t104.length Q107), (16, .int .i64 t105), (54, .slice Aa0 a0.length ca0), (55, .slice Aa1 a1.length ca1)]) (by kernel_rfl) ?_
  obtain ⟨⟨t113, t114⟩, hr117, hp118⟩ := bind_some' hp109
  try dsimp only at hp118
  refine r_call1 (c := (cd13 [1, 1, 1, 1, 1, 1, 1, 1, 0])) (i := 2) (d := (some 56)) (g := 39) (args := #[.int .i64 2, .slice Aa0 a0.length ca0, .slice Aa1 a1.length ca1]) (by kernel_rfl) (by kernel_rfl) (by kernel_rfl) (by kernel_rfl) (weirref10_Two.ok 2 a0 a1 Aa0 ca0 Aa1 ca1 hS112 ha0 ha1 hr117) ?_
  rintro _ w120 ⟨Q115, Q116, rfl, hS121⟩
  refine ⟨.tuple #[.slice Q115 t113.length Q116, .int .i64 t114], rfl, ?_⟩
  refine sx_run 10 (todo' := [.inRegion (opsOf (cd13 [1, 1, 1, 1, 1, 1, 1, 1, 1, 0, 0])) [1, 2, 3, 4, 5, 6, 7, 8, 9, 10, 11, 12, 13, 14, 15, 16, 17, 18, 19, 20, 21, 22, 23, 24, 25, 26, 27, 28, 29, 30, 31, 32, 33], .code (cd13 [1, 1, 1, 1, 1, 1, 1, 1, 1, 0, 1]), .code (cd13 [1, 1, 1, 1, 1, 1, 1, 1, 1, 1])]) (us := [(53, .tuple #[.slice Q115 t113.length Q116, .int .i64 t114]), (57, .slice Q115 t113.length Q116), (58, .int .i64 t114), (17, .slice Q115 t113.length Q116), (18, .int .i64 t114), (59, .int .i64 t24)]) (by kernel_rfl) ?_
  obtain ⟨t122, hr123, hp124⟩ := bind_some' hp118
  refine r_call1 (c := (cd13 [1, 1, 1, 1, 1, 1, 1, 1, 1, 0, 0])) (i := 1) (d := (some 60)) (g := 11) (args := #[.int .i64 t24]) (by kernel_rfl) (by kernel_rfl) (by kernel_rfl) (by kernel_rfl) (weirlaw10_num.ok t24 hS121 hr123) ?_
  rintro _ w125 ⟨rfl, hS126⟩
  refine ⟨.int .i64 t122, rfl, ?_⟩
  refine sx_split 2 (todo' := [.inRegion (opsOf (cd13 [1, 1, 1, 1, 1, 1, 1, 1, 1, 0, 0])) [4, 5, 6, 7, 8, 9, 10, 11, 12, 13, 14, 15, 16, 17, 18, 19, 20, 21, 22, 23, 24, 25, 26, 27, 28, 29, 30, 31, 32, 33], .code (cd13 [1, 1, 1, 1, 1, 1, 1, 1, 1, 0, 1]), .code (cd13 [1, 1, 1, 1, 1, 1, 1, 1, 1, 1])]) (us := [(61, .int .i64 t96)]) (d := 62) (t := (t122 != t96)) (by kernel_rfl) (fun h127 => ?_) (fun h128 => ?_)
  · skip
    have hp129 := ite_t hp124 h127
    refine sx_run 36 (todo' := [.code (cd13 [1, 1, 1, 1, 1, 1, 1, 1, 1, 0, 1, 0, 1]), .code (cd13 [1, 1, 1, 1, 1, 1, 1, 1, 1, 1])]) (us := [(63, .bool true), (64, undef), (65, undef), (66, undef), (67, undef), (68, .bool true), (69, .bool true), (70, undef), (71, undef), (72, undef), (73, undef), (74, .bool true), (75, .bool true), (76, undef), (77, undef), (78, undef), (79, undef), (80, .bool true), (81, .bool true), (82, undef), (83, undef), (84, undef), (85, undef), (86, .bool true), (87, .bool true), (88, undef), (89, undef), (90, undef), (91, undef), (92, .bool true), (4, .bool false)]) (by kernel_rfl) ?_
    have hS130 := hS126.drop
    have hS131 := hS130.drop
    have hS132 := hS131.drop
    have hS133 := hS132.drop
    have hS134 := hS133.drop
    have hS135 := hS134.drop
    have hS136 := hS135.drop
    have hS137 := hS136.drop
    refine runs_ret (fn := Try.f13) (v := .bool false) Try.func13 (by kernel_rfl) ?_
    have hr138 := (Option.some.inj hp129)
    cases hr138
    exact hR _ _ ⟨rfl, hS137⟩
  · skip
    have hp139 := ite_f hp124 h128
    refine sx_run 2 (todo' := [.inRegion (opsOf (cd13 [1, 1, 1, 1, 1, 1, 1, 1, 1, 0, 0])) [6, 7, 8, 9, 10, 11, 12, 13, 14, 15, 16, 17, 18, 19, 20, 21, 22, 23, 24, 25, 26, 27, 28, 29, 30, 31, 32, 33], .code (cd13 [1, 1, 1, 1, 1, 1, 1, 1, 1, 0, 1]), .code (cd13 [1, 1, 1, 1, 1, 1, 1, 1, 1, 1])]) (us := [(63, .bool false), (64, .int .i64 t50)]) (by kernel_rfl) ?_
    obtain ⟨t140, hr141, hp142⟩ := bind_some' hp139
    refine r_call1 (c := (cd13 [1, 1, 1, 1, 1, 1, 1, 1, 1, 0, 0])) (i := 6) (d := (some 65)) (g := 11) (args := #[.int .i64 t50]) (by kernel_rfl) (by kernel_rfl) (by kernel_rfl) (by kernel_rfl) (weirlaw10_num.ok t50 hS126 hr141) ?_
    rintro _ w143 ⟨rfl, hS144⟩
    refine ⟨.int .i64 t140, rfl, ?_⟩
    refine sx_split 2 (todo' := [.inRegion (opsOf (cd13 [1, 1, 1, 1, 1, 1, 1, 1, 1, 0, 0])) [9, 10, 11, 12, 13, 14, 15, 16, 17, 18, 19, 20, 21, 22, 23, 24, 25, 26, 27, 28, 29, 30, 31, 32, 33], .code (cd13 [1, 1, 1, 1, 1, 1, 1, 1, 1, 0, 1]), .code (cd13 [1, 1, 1, 1, 1, 1, 1, 1, 1, 1])]) (us := [(66, .int .i64 t105)]) (d := 67) (t := (t140 != t105)) (by kernel_rfl) (fun h145 => ?_) (fun h146 => ?_)
    · skip
      have hp147 := ite_t hp142 h145
      refine sx_run 31 (todo' := [.code (cd13 [1, 1, 1, 1, 1, 1, 1, 1, 1, 0, 1, 0, 1]), .code (cd13 [1, 1, 1, 1, 1, 1, 1, 1, 1, 1])]) (us := [(68, .bool true), (69, .bool true), (70, undef), (71, undef), (72, undef), (73, undef), (74, .bool true), (75, .bool true), (76, undef), (77, undef), (78, undef), (79, undef), (80, .bool true), (81, .bool true), (82, undef), (83, undef), (84, undef), (85, undef), (86, .bool true), (87, .bool true), (88, undef), (89, undef), (90, undef), (91, undef), (92, .bool true), (4, .bool false)]) (by kernel_rfl) ?_
      have hS148 := hS144.drop
      have hS149 := hS148.drop
      have hS150 := hS149.drop
      have hS151 := hS150.drop
      have hS152 := hS151.drop
      have hS153 := hS152.drop
      have hS154 := hS153.drop
      have hS155 := hS154.drop
      refine runs_ret (fn := Try.f13) (v := .bool false) Try.func13 (by kernel_rfl) ?_
      have hr156 := (Option.some.inj hp147)
      cases hr156
      exact hR _ _ ⟨rfl, hS155⟩
    · skip
      have hp157 := ite_f hp142 h146
      refine sx_run 3 (todo' := [.inRegion (opsOf (cd13 [1, 1, 1, 1, 1, 1, 1, 1, 1, 0, 0])) [12, 13, 14, 15, 16, 17, 18, 19, 20, 21, 22, 23, 24, 25, 26, 27, 28, 29, 30, 31, 32, 33], .code (cd13 [1, 1, 1, 1, 1, 1, 1, 1, 1, 0, 1]), .code (cd13 [1, 1, 1, 1, 1, 1, 1, 1, 1, 1])]) (us := [(68, .bool false), (69, .bool false), (70, .int .i64 t75)]) (by kernel_rfl) ?_
      obtain ⟨t158, hr159, hp160⟩ := bind_some' hp157
      refine r_call1 (c := (cd13 [1, 1, 1, 1, 1, 1, 1, 1, 1, 0, 0])) (i := 12) (d := (some 71)) (g := 11) (args := #[.int .i64 t75]) (by kernel_rfl) (by kernel_rfl) (by kernel_rfl) (by kernel_rfl) (weirlaw10_num.ok t75 hS144 hr159) ?_
      rintro _ w161 ⟨rfl, hS162⟩
      refine ⟨.int .i64 t158, rfl, ?_⟩
      refine sx_split 2 (todo' := [.inRegion (opsOf (cd13 [1, 1, 1, 1, 1, 1, 1, 1, 1, 0, 0])) [15, 16, 17, 18, 19, 20, 21, 22, 23, 24, 25, 26, 27, 28, 29, 30, 31, 32, 33], .code (cd13 [1, 1, 1, 1, 1, 1, 1, 1, 1, 0, 1]), .code (cd13 [1, 1, 1, 1, 1, 1, 1, 1, 1, 1])]) (us := [(72, .int .i64 t114)]) (d := 73) (t := (t158 != t114)) (by kernel_rfl) (fun h163 => ?_) (fun h164 => ?_)
      · skip
        have hp165 := ite_t hp160 h163
        refine sx_run 25 (todo' := [.code (cd13 [1, 1, 1, 1, 1, 1, 1, 1, 1, 0, 1, 0, 1]), .code (cd13 [1, 1, 1, 1, 1, 1, 1, 1, 1, 1])]) (us := [(74, .bool true), (75, .bool true), (76, undef), (77, undef), (78, undef), (79, undef), (80, .bool true), (81, .bool true), (82, undef), (83, undef), (84, undef), (85, undef), (86, .bool true), (87, .bool true), (88, undef), (89, undef), (90, undef), (91, undef), (92, .bool true), (4, .bool false)]) (by kernel_rfl) ?_
        have hS166 := hS162.drop
        have hS167 := hS166.drop
        have hS168 := hS167.drop
        have hS169 := hS168.drop
        have hS170 := hS169.drop
        have hS171 := hS170.drop
        have hS172 := hS171.drop
        have hS173 := hS172.drop
        refine runs_ret (fn := Try.f13) (v := .bool false) Try.func13 (by kernel_rfl) ?_
        have hr174 := (Option.some.inj hp165)
        cases hr174
        exact hR _ _ ⟨rfl, hS173⟩
      · skip
        have hp175 := ite_f hp160 h164
        refine sx_run 4 (todo' := [.inRegion (opsOf (cd13 [1, 1, 1, 1, 1, 1, 1, 1, 1, 0, 0])) [19, 20, 21, 22, 23, 24, 25, 26, 27, 28, 29, 30, 31, 32, 33], .code (cd13 [1, 1, 1, 1, 1, 1, 1, 1, 1, 0, 1]), .code (cd13 [1, 1, 1, 1, 1, 1, 1, 1, 1, 1])]) (us := [(74, .bool false), (75, .bool false), (76, .slice Q25 t23.length Q26), (77, .slice Q97 t95.length Q98)]) (by kernel_rfl) ?_
        obtain ⟨t176, hr177, hp178⟩ := bind_some' hp175
        have hS179 := hS162.pick7
        obtain ⟨Z180, hz181, hS182, hs183, hb184⟩ := hS179.lendrow len_api_Final (by omega)
        have hS185 := hS182.pick2
        obtain ⟨Z186, hz187, hS188, hs189, hb190⟩ := hS185.lendrow len_api_Final (by omega)
        refine r_call1 (c := (cd13 [1, 1, 1, 1, 1, 1, 1, 1, 1, 0, 0])) (i := 19) (d := (some 78)) (g := 25) (args := #[.slice Q25 t23.length Q26, .slice Q97 t95.length Q98]) (by kernel_rfl) (by kernel_rfl) (by kernel_rfl) (by kernel_rfl) (weirlaw10_Same.ok t23 t95 Q25 Q26 Q97 Q98 hS188 (hs183.up hz187) hs189 hr177) ?_
        rintro _ w191 ⟨rfl, hS192⟩
        refine ⟨.bool t176, rfl, ?_⟩
        have hS193 := hb190 _ _ hS192
        have hS194 := hb184 _ _ hS193
        refine sx_split 1 (todo' := [.inRegion (opsOf (cd13 [1, 1, 1, 1, 1, 1, 1, 1, 1, 0, 0])) [21, 22, 23, 24, 25, 26, 27, 28, 29, 30, 31, 32, 33], .code (cd13 [1, 1, 1, 1, 1, 1, 1, 1, 1, 0, 1]), .code (cd13 [1, 1, 1, 1, 1, 1, 1, 1, 1, 1])]) (us := []) (d := 79) (t := (!t176)) (by kernel_rfl) (fun h195 => ?_) (fun h196 => ?_)
        · skip
          have hp197 := ite_t hp178 h195
          refine sx_run 19 (todo' := [.code (cd13 [1, 1, 1, 1, 1, 1, 1, 1, 1, 0, 1, 0, 1]), .code (cd13 [1, 1, 1, 1, 1, 1, 1, 1, 1, 1])]) (us := [(80, .bool true), (81, .bool true), (82, undef), (83, undef), (84, undef), (85, undef), (86, .bool true), (87, .bool true), (88, undef), (89, undef), (90, undef), (91, undef), (92, .bool true), (4, .bool false)]) (by kernel_rfl) ?_
          have hS198 := hS194.drop
          have hS199 := hS198.drop
          have hS200 := hS199.drop
          have hS201 := hS200.drop
          have hS202 := hS201.drop
          have hS203 := hS202.drop
          have hS204 := hS203.drop
          have hS205 := hS204.drop
          refine runs_ret (fn := Try.f13) (v := .bool false) Try.func13 (by kernel_rfl) ?_
          have hr206 := (Option.some.inj hp197)
          cases hr206
          exact hR _ _ ⟨rfl, hS205⟩
        · skip
          have hp207 := ite_f hp178 h196
          refine sx_run 4 (todo' := [.inRegion (opsOf (cd13 [1, 1, 1, 1, 1, 1, 1, 1, 1, 0, 0])) [25, 26, 27, 28, 29, 30, 31, 32, 33], .code (cd13 [1, 1, 1, 1, 1, 1, 1, 1, 1, 0, 1]), .code (cd13 [1, 1, 1, 1, 1, 1, 1, 1, 1, 1])]) (us := [(80, .bool false), (81, .bool false), (82, .slice Q51 t49.length Q52), (83, .slice Q106 t104.length Q107)]) (by kernel_rfl) ?_
          obtain ⟨t208, hr209, hp210⟩ := bind_some' hp207
          have hS211 := hS194.pick7
          obtain ⟨Z212, hz213, hS214, hs215, hb216⟩ := hS211.lendrow len_api_Final (by omega)
          have hS217 := hS214.pick3
          obtain ⟨Z218, hz219, hS220, hs221, hb222⟩ := hS217.lendrow len_api_Final (by omega)
          refine r_call1 (c := (cd13 [1, 1, 1, 1, 1, 1, 1, 1, 1, 0, 0])) (i := 25) (d := (some 84)) (g := 25) (args := #[.slice Q51 t49.length Q52, .slice Q106 t104.length Q107]) (by kernel_rfl) (by kernel_rfl) (by kernel_rfl) (by kernel_rfl) (weirlaw10_Same.ok t49 t104 Q51 Q52 Q106 Q107 hS220 (hs215.up hz219) hs221 hr209) ?_
          rintro _ w223 ⟨rfl, hS224⟩
          refine ⟨.bool t208, rfl, ?_⟩
          have hS225 := hb222 _ _ hS224
          have hS226 := hb216 _ _ hS225
          refine sx_split 1 (todo' := [.inRegion (opsOf (cd13 [1, 1, 1, 1, 1, 1, 1, 1, 1, 0, 0])) [27, 28, 29, 30, 31, 32, 33], .code (cd13 [1, 1, 1, 1, 1, 1, 1, 1, 1, 0, 1]), .code (cd13 [1, 1, 1, 1, 1, 1, 1, 1, 1, 1])]) (us := []) (d := 85) (t := (!t208)) (by kernel_rfl) (fun h227 => ?_) (fun h228 => ?_)
          · skip
            have hp229 := ite_t hp210 h227
            refine sx_run 13 (todo' := [.code (cd13 [1, 1, 1, 1, 1, 1, 1, 1, 1, 0, 1, 0, 1]), .code (cd13 [1, 1, 1, 1, 1, 1, 1, 1, 1, 1])]) (us := [(86, .bool true), (87, .bool true), (88, undef), (89, undef), (90, undef), (91, undef), (92, .bool true), (4, .bool false)]) (by kernel_rfl) ?_
            have hS230 := hS226.drop
            have hS231 := hS230.drop
            have hS232 := hS231.drop
            have hS233 := hS232.drop
            have hS234 := hS233.drop
            have hS235 := hS234.drop
            have hS236 := hS235.drop
            have hS237 := hS236.drop
            refine runs_ret (fn := Try.f13) (v := .bool false) Try.func13 (by kernel_rfl) ?_
            have hr238 := (Option.some.inj hp229)
            cases hr238
            exact hR _ _ ⟨rfl, hS237⟩
          · skip
            have hp239 := ite_f hp210 h228
            refine sx_run 4 (todo' := [.inRegion (opsOf (cd13 [1, 1, 1, 1, 1, 1, 1, 1, 1, 0, 0])) [31, 32, 33], .code (cd13 [1, 1, 1, 1, 1, 1, 1, 1, 1, 0, 1]), .code (cd13 [1, 1, 1, 1, 1, 1, 1, 1, 1, 1])]) (us := [(86, .bool false), (87, .bool false), (88, .slice Q76 t74.length Q77), (89, .slice Q115 t113.length Q116)]) (by kernel_rfl) ?_
            obtain ⟨t240, hr241, hp242⟩ := bind_some' hp239
            have hS243 := hS226.pick7
            obtain ⟨Z244, hz245, hS246, hs247, hb248⟩ := hS243.lendrow len_api_Final (by omega)
            have hS249 := hS246.pick4
            obtain ⟨Z250, hz251, hS252, hs253, hb254⟩ := hS249.lendrow len_api_Final (by omega)
            refine r_call1 (c := (cd13 [1, 1, 1, 1, 1, 1, 1, 1, 1, 0, 0])) (i := 31) (d := (some 90)) (g := 25) (args := #[.slice Q76 t74.length Q77, .slice Q115 t113.length Q116]) (by kernel_rfl) (by kernel_rfl) (by kernel_rfl) (by kernel_rfl) (weirlaw10_Same.ok t74 t113 Q76 Q77 Q115 Q116 hS252 (hs247.up hz251) hs253 hr241) ?_
            rintro _ w255 ⟨rfl, hS256⟩
            refine ⟨.bool t240, rfl, ?_⟩
            have hS257 := hb254 _ _ hS256
            have hS258 := hb248 _ _ hS257
            refine sx_split 1 (todo' := [.inRegion (opsOf (cd13 [1, 1, 1, 1, 1, 1, 1, 1, 1, 0, 0])) [33], .code (cd13 [1, 1, 1, 1, 1, 1, 1, 1, 1, 0, 1]), .code (cd13 [1, 1, 1, 1, 1, 1, 1, 1, 1, 1])]) (us := []) (d := 91) (t := (!t240)) (by kernel_rfl) (fun h259 => ?_) (fun h260 => ?_)
            · skip
              have hp261 := ite_t hp242 h259
              refine sx_run 7 (todo' := [.code (cd13 [1, 1, 1, 1, 1, 1, 1, 1, 1, 0, 1, 0, 1]), .code (cd13 [1, 1, 1, 1, 1, 1, 1, 1, 1, 1])]) (us := [(92, .bool true), (4, .bool false)]) (by kernel_rfl) ?_
              have hS262 := hS258.drop
              have hS263 := hS262.drop
              have hS264 := hS263.drop
              have hS265 := hS264.drop
              have hS266 := hS265.drop
              have hS267 := hS266.drop
              have hS268 := hS267.drop
              have hS269 := hS268.drop
              refine runs_ret (fn := Try.f13) (v := .bool false) Try.func13 (by kernel_rfl) ?_
              have hr270 := (Option.some.inj hp261)
              cases hr270
              exact hR _ _ ⟨rfl, hS269⟩
            · skip
              have hp271 := ite_f hp242 h260
              refine sx_run 7 (todo' := [.inRegion (opsOf (cd13 [1, 1, 1, 1, 1, 1, 1, 1, 1, 1, 0])) [1], .code (cd13 [1, 1, 1, 1, 1, 1, 1, 1, 1, 1, 1])]) (us := [(92, .bool false), (93, .slice Q25 t23.length Q26)]) (by kernel_rfl) ?_
              obtain ⟨_, hr272, hp273⟩ := bind_some' hp271
              have hS274 := hS258.pick4
              refine r_call1 (c := (cd13 [1, 1, 1, 1, 1, 1, 1, 1, 1, 1, 0])) (i := 1) (d := (some 94)) (g := 27) (args := #[.slice Q25 t23.length Q26]) (by kernel_rfl) (by kernel_rfl) (by kernel_rfl) (by kernel_rfl) (weirlaw10_Spoil.ok t23 Q25 Q26 hS274 hr272) ?_
              rintro _ w275 ⟨rfl, hS276⟩
              refine ⟨.tuple #[], rfl, ?_⟩
              refine sx_run 6 (todo' := [.inRegion (opsOf (cd13 [1, 1, 1, 1, 1, 1, 1, 1, 1, 1, 1, 0, 0])) [2, 3, 4, 5, 6, 7, 8, 9, 10, 11, 12, 13, 14, 15, 16, 17, 18, 19, 20, 21], .code (cd13 [1, 1, 1, 1, 1, 1, 1, 1, 1, 1, 1, 0, 1]), .code (cd13 [1, 1, 1, 1, 1, 1, 1, 1, 1, 1, 1, 1])]) (us := [(95, .slice Q51 t49.length Q52), (96, .slice Q106 t104.length Q107)]) (by kernel_rfl) ?_
              obtain ⟨t277, hr278, hp279⟩ := bind_some' hp273
              have hS280 := hS276.pick2
              obtain ⟨Z281, hz282, hS283, hs284, hb285⟩ := hS280.lendrow len_api_Final (by omega)
              have hS286 := hS283.pick2
              obtain ⟨Z287, hz288, hS289, hs290, hb291⟩ := hS286.lendrow len_api_Final (by omega)
              refine r_call1 (c := (cd13 [1, 1, 1, 1, 1, 1, 1, 1, 1, 1, 1, 0, 0])) (i := 2) (d := (some 97)) (g := 25) (args := #[.slice Q51 t49.length Q52, .slice Q106 t104.length Q107]) (by kernel_rfl) (by kernel_rfl) (by kernel_rfl) (by kernel_rfl) (weirlaw10_Same.ok t49 t104 Q51 Q52 Q106 Q107 hS289 (hs284.up hz288) hs290 hr278) ?_
              rintro _ w292 ⟨rfl, hS293⟩
              refine ⟨.bool t277, rfl, ?_⟩
              have hS294 := hb291 _ _ hS293
              have hS295 := hb285 _ _ hS294
              refine sx_split 1 (todo' := [.inRegion (opsOf (cd13 [1, 1, 1, 1, 1, 1, 1, 1, 1, 1, 1, 0, 0])) [4, 5, 6, 7, 8, 9, 10, 11, 12, 13, 14, 15, 16, 17, 18, 19, 20, 21], .code (cd13 [1, 1, 1, 1, 1, 1, 1, 1, 1, 1, 1, 0, 1]), .code (cd13 [1, 1, 1, 1, 1, 1, 1, 1, 1, 1, 1, 1])]) (us := []) (d := 98) (t := (!t277)) (by kernel_rfl) (fun h296 => ?_) (fun h297 => ?_)
              · skip
                have hp298 := ite_t hp279 h296
                refine sx_run 24 (todo' := [.code (cd13 [1, 1, 1, 1, 1, 1, 1, 1, 1, 1, 1, 0, 1, 0, 1]), .code (cd13 [1, 1, 1, 1, 1, 1, 1, 1, 1, 1, 1, 1])]) (us := [(99, .bool true), (100, undef), (101, undef), (102, undef), (103, undef), (104, .bool true), (105, .bool true), (106, undef), (107, undef), (108, undef), (109, undef), (110, .bool true), (111, .bool true), (112, undef), (113, undef), (114, undef), (115, undef), (116, .bool true), (4, .bool false)]) (by kernel_rfl) ?_
                have hS299 := hS295.drop
                have hS300 := hS299.drop
                have hS301 := hS300.drop
                have hS302 := hS301.drop
                have hS303 := hS302.drop
                have hS304 := hS303.drop
                have hS305 := hS304.drop
                refine runs_ret (fn := Try.f13) (v := .bool false) Try.func13 (by kernel_rfl) ?_
                have hr306 := (Option.some.inj hp298)
                cases hr306
                exact hR _ _ ⟨rfl, hS305⟩
              · skip
                have hp307 := ite_f hp279 h297
                refine sx_run 3 (todo' := [.inRegion (opsOf (cd13 [1, 1, 1, 1, 1, 1, 1, 1, 1, 1, 1, 0, 0])) [7, 8, 9, 10, 11, 12, 13, 14, 15, 16, 17, 18, 19, 20, 21], .code (cd13 [1, 1, 1, 1, 1, 1, 1, 1, 1, 1, 1, 0, 1]), .code (cd13 [1, 1, 1, 1, 1, 1, 1, 1, 1, 1, 1, 1])]) (us := [(99, .bool false), (100, .slice Q76 t74.length Q77), (101, .slice Q115 t113.length Q116)]) (by kernel_rfl) ?_
                obtain ⟨t308, hr309, hp310⟩ := bind_some' hp307
                have hS311 := hS295.pick2
                obtain ⟨Z312, hz313, hS314, hs315, hb316⟩ := hS311.lendrow len_api_Final (by omega)
                have hS317 := hS314.pick2
                obtain ⟨Z318, hz319, hS320, hs321, hb322⟩ := hS317.lendrow len_api_Final (by omega)
                refine r_call1 (c := (cd13 [1, 1, 1, 1, 1, 1, 1, 1, 1, 1, 1, 0, 0])) (i := 7) (d := (some 102)) (g := 25) (args := #[.slice Q76 t74.length Q77, .slice Q115 t113.length Q116]) (by kernel_rfl) (by kernel_rfl) (by kernel_rfl) (by kernel_rfl) (weirlaw10_Same.ok t74 t113 Q76 Q77 Q115 Q116 hS320 (hs315.up hz319) hs321 hr309) ?_
                rintro _ w323 ⟨rfl, hS324⟩
                refine ⟨.bool t308, rfl, ?_⟩
                have hS325 := hb322 _ _ hS324
                have hS326 := hb316 _ _ hS325
                refine sx_split 1 (todo' := [.inRegion (opsOf (cd13 [1, 1, 1, 1, 1, 1, 1, 1, 1, 1, 1, 0, 0])) [9, 10, 11, 12, 13, 14, 15, 16, 17, 18, 19, 20, 21], .code (cd13 [1, 1, 1, 1, 1, 1, 1, 1, 1, 1, 1, 0, 1]), .code (cd13 [1, 1, 1, 1, 1, 1, 1, 1, 1, 1, 1, 1])]) (us := []) (d := 103) (t := (!t308)) (by kernel_rfl) (fun h327 => ?_) (fun h328 => ?_)
                · skip
                  have hp329 := ite_t hp310 h327
                  refine sx_run 19 (todo' := [.code (cd13 [1, 1, 1, 1, 1, 1, 1, 1, 1, 1, 1, 0, 1, 0, 1]), .code (cd13 [1, 1, 1, 1, 1, 1, 1, 1, 1, 1, 1, 1])]) (us := [(104, .bool true), (105, .bool true), (106, undef), (107, undef), (108, undef), (109, undef), (110, .bool true), (111, .bool true), (112, undef), (113, undef), (114, undef), (115, undef), (116, .bool true), (4, .bool false)]) (by kernel_rfl) ?_
                  have hS330 := hS326.drop
                  have hS331 := hS330.drop
                  have hS332 := hS331.drop
                  have hS333 := hS332.drop
                  have hS334 := hS333.drop
                  have hS335 := hS334.drop
                  have hS336 := hS335.drop
                  refine runs_ret (fn := Try.f13) (v := .bool false) Try.func13 (by kernel_rfl) ?_
                  have hr337 := (Option.some.inj hp329)
                  cases hr337
                  exact hR _ _ ⟨rfl, hS336⟩
                · skip
                  have hp338 := ite_f hp310 h328
                  refine sx_run 4 (todo' := [.inRegion (opsOf (cd13 [1, 1, 1, 1, 1, 1, 1, 1, 1, 1, 1, 0, 0])) [13, 14, 15, 16, 17, 18, 19, 20, 21], .code (cd13 [1, 1, 1, 1, 1, 1, 1, 1, 1, 1, 1, 0, 1]), .code (cd13 [1, 1, 1, 1, 1, 1, 1, 1, 1, 1, 1, 1])]) (us := [(104, .bool false), (105, .bool false), (106, .slice Q3 t2 Q4), (107, .slice Aa0 a0.length ca0)]) (by kernel_rfl) ?_
                  obtain ⟨t339, hr340, hp341⟩ := bind_some' hp338
                  have hS342 := hS326.pick5
                  refine r_call1 (c := (cd13 [1, 1, 1, 1, 1, 1, 1, 1, 1, 1, 1, 0, 0])) (i := 13) (d := (some 108)) (g := 26) (args := #[.slice Q3 t2 Q4, .slice Aa0 a0.length ca0]) (by kernel_rfl) (by kernel_rfl) (by kernel_rfl) (by kernel_rfl) (weirlaw10_Back.ok t1 t2 a0 Q3 Q4 Aa0 ca0 hS342 ha0 hr340) ?_
                  rintro _ w343 ⟨rfl, hS344⟩
                  refine ⟨.bool t339, rfl, ?_⟩
                  refine sx_split 1 (todo' := [.inRegion (opsOf (cd13 [1, 1, 1, 1, 1, 1, 1, 1, 1, 1, 1, 0, 0])) [15, 16, 17, 18, 19, 20, 21], .code (cd13 [1, 1, 1, 1, 1, 1, 1, 1, 1, 1, 1, 0, 1]), .code (cd13 [1, 1, 1, 1, 1, 1, 1, 1, 1, 1, 1, 1])]) (us := []) (d := 109) (t := (!t339)) (by kernel_rfl) (fun h345 => ?_) (fun h346 => ?_)
                  · skip
                    have hp347 := ite_t hp341 h345
                    refine sx_run 13 (todo' := [.code (cd13 [1, 1, 1, 1, 1, 1, 1, 1, 1, 1, 1, 0, 1, 0, 1]), .code (cd13 [1, 1, 1, 1, 1, 1, 1, 1, 1, 1, 1, 1])]) (us := [(110, .bool true), (111, .bool true), (112, undef), (113, undef), (114, undef), (115, undef), (116, .bool true), (4, .bool false)]) (by kernel_rfl) ?_
                    have hS348 := hS344.drop
                    have hS349 := hS348.drop
                    have hS350 := hS349.drop
                    have hS351 := hS350.drop
                    have hS352 := hS351.drop
                    have hS353 := hS352.drop
                    have hS354 := hS353.drop
                    refine runs_ret (fn := Try.f13) (v := .bool false) Try.func13 (by kernel_rfl) ?_
                    have hr355 := (Option.some.inj hp347)
                    cases hr355
                    exact hR _ _ ⟨rfl, hS354⟩
                  · skip
                    have hp356 := ite_f hp341 h346
                    refine sx_run 4 (todo' := [.inRegion (opsOf (cd13 [1, 1, 1, 1, 1, 1, 1, 1, 1, 1, 1, 0, 0])) [19, 20, 21], .code (cd13 [1, 1, 1, 1, 1, 1, 1, 1, 1, 1, 1, 0, 1]), .code (cd13 [1, 1, 1, 1, 1, 1, 1, 1, 1, 1, 1, 1])]) (us := [(110, .bool false), (111, .bool false), (112, .slice Q12 t11 Q13), (113, .slice Aa1 a1.length ca1)]) (by kernel_rfl) ?_
                    obtain ⟨t357, hr358, hp359⟩ := bind_some' hp356
                    have hS360 := hS344.pick6
                    refine r_call1 (c := (cd13 [1, 1, 1, 1, 1, 1, 1, 1, 1, 1, 1, 0, 0])) (i := 19) (d := (some 114)) (g := 26) (args := #[.slice Q12 t11 Q13, .slice Aa1 a1.length ca1]) (by kernel_rfl) (by kernel_rfl) (by kernel_rfl) (by kernel_rfl) (weirlaw10_Back.ok t10 t11 a1 Q12 Q13 Aa1 ca1 hS360 ha1 hr358) ?_
                    rintro _ w361 ⟨rfl, hS362⟩
                    refine ⟨.bool t357, rfl, ?_⟩
                    refine sx_split 1 (todo' := [.inRegion (opsOf (cd13 [1, 1, 1, 1, 1, 1, 1, 1, 1, 1, 1, 0, 0])) [21], .code (cd13 [1, 1, 1, 1, 1, 1, 1, 1, 1, 1, 1, 0, 1]), .code (cd13 [1, 1, 1, 1, 1, 1, 1, 1, 1, 1, 1, 1])]) (us := []) (d := 115) (t := (!t357)) (by kernel_rfl) (fun h363 => ?_) (fun h364 => ?_)
                    · skip
                      have hp365 := ite_t hp359 h363
                      refine sx_run 7 (todo' := [.code (cd13 [1, 1, 1, 1, 1, 1, 1, 1, 1, 1, 1, 0, 1, 0, 1]), .code (cd13 [1, 1, 1, 1, 1, 1, 1, 1, 1, 1, 1, 1])]) (us := [(116, .bool true), (4, .bool false)]) (by kernel_rfl) ?_
                      have hS366 := hS362.drop
                      have hS367 := hS366.drop
                      have hS368 := hS367.drop
                      have hS369 := hS368.drop
                      have hS370 := hS369.drop
                      have hS371 := hS370.drop
                      have hS372 := hS371.drop
                      refine runs_ret (fn := Try.f13) (v := .bool false) Try.func13 (by kernel_rfl) ?_
                      have hr373 := (Option.some.inj hp365)
                      cases hr373
                      exact hR _ _ ⟨rfl, hS372⟩
                    · skip
                      have hp374 := ite_f hp359 h364
                      refine sx_run 7 (todo' := [.inRegion (opsOf (cd13 [1, 1, 1, 1, 1, 1, 1, 1, 1, 1, 1, 1, 0])) [1], .code (cd13 [1, 1, 1, 1, 1, 1, 1, 1, 1, 1, 1, 1, 1])]) (us := [(116, .bool false), (117, .slice Q51 t49.length Q52)]) (by kernel_rfl) ?_
                      obtain ⟨_, hr375, hp376⟩ := bind_some' hp374
                      have hS377 := hS362.pick4
                      refine r_call1 (c := (cd13 [1, 1, 1, 1, 1, 1, 1, 1, 1, 1, 1, 1, 0])) (i := 1) (d := (some 118)) (g := 27) (args := #[.slice Q51 t49.length Q52]) (by kernel_rfl) (by kernel_rfl) (by kernel_rfl) (by kernel_rfl) (weirlaw10_Spoil.ok t49 Q51 Q52 hS377 hr375) ?_
                      rintro _ w378 ⟨rfl, hS379⟩
                      refine ⟨.tuple #[], rfl, ?_⟩
                      refine sx_run 6 (todo' := [.inRegion (opsOf (cd13 [1, 1, 1, 1, 1, 1, 1, 1, 1, 1, 1, 1, 1, 0, 0])) [2, 3, 4, 5, 6, 7, 8, 9, 10, 11, 12, 13, 14, 15], .code (cd13 [1, 1, 1, 1, 1, 1, 1, 1, 1, 1, 1, 1, 1, 0, 1]), .code (cd13 [1, 1, 1, 1, 1, 1, 1, 1, 1, 1, 1, 1, 1, 1])]) (us := [(119, .slice Q76 t74.length Q77), (120, .slice Q115 t113.length Q116)]) (by kernel_rfl) ?_
                      obtain ⟨t380, hr381, hp382⟩ := bind_some' hp376
                      have hS383 := hS379.pick2
                      obtain ⟨Z384, hz385, hS386, hs387, hb388⟩ := hS383.lendrow len_api_Final (by omega)
                      have hS389 := hS386.pick2
                      obtain ⟨Z390, hz391, hS392, hs393, hb394⟩ := hS389.lendrow len_api_Final (by omega)
                      refine r_call1 (c := (cd13 [1, 1, 1, 1, 1, 1, 1, 1, 1, 1, 1, 1, 1, 0, 0])) (i := 2) (d := (some 121)) (g := 25) (args := #[.slice Q76 t74.length Q77, .slice Q115 t113.length Q116]) (by kernel_rfl) (by kernel_rfl) (by kernel_rfl) (by kernel_rfl) (weirlaw10_Same.ok t74 t113 Q76 Q77 Q115 Q116 hS392 (hs387.up hz391) hs393 hr381) ?_
                      rintro _ w395 ⟨rfl, hS396⟩
                      refine ⟨.bool t380, rfl, ?_⟩
                      have hS397 := hb394 _ _ hS396
                      have hS398 := hb388 _ _ hS397
                      refine sx_split 1 (todo' := [.inRegion (opsOf (cd13 [1, 1, 1, 1, 1, 1, 1, 1, 1, 1, 1, 1, 1, 0, 0])) [4, 5, 6, 7, 8, 9, 10, 11, 12, 13, 14, 15], .code (cd13 [1, 1, 1, 1, 1, 1, 1, 1, 1, 1, 1, 1, 1, 0, 1]), .code (cd13 [1, 1, 1, 1, 1, 1, 1, 1, 1, 1, 1, 1, 1, 1])]) (us := []) (d := 122) (t := (!t380)) (by kernel_rfl) (fun h399 => ?_) (fun h400 => ?_)
                      · skip
                        have hp401 := ite_t hp382 h399
                        refine sx_run 18 (todo' := [.code (cd13 [1, 1, 1, 1, 1, 1, 1, 1, 1, 1, 1, 1, 1, 0, 1, 0, 1]), .code (cd13 [1, 1, 1, 1, 1, 1, 1, 1, 1, 1, 1, 1, 1, 1])]) (us := [(123, .bool true), (124, undef), (125, undef), (126, undef), (127, undef), (128, .bool true), (129, .bool true), (130, undef), (131, undef), (132, undef), (133, undef), (134, .bool true), (4, .bool false)]) (by kernel_rfl) ?_
                        have hS402 := hS398.drop
                        have hS403 := hS402.drop
                        have hS404 := hS403.drop
                        have hS405 := hS404.drop
                        have hS406 := hS405.drop
                        have hS407 := hS406.drop
                        refine runs_ret (fn := Try.f13) (v := .bool false) Try.func13 (by kernel_rfl) ?_
                        have hr408 := (Option.some.inj hp401)
                        cases hr408
                        exact hR _ _ ⟨rfl, hS407⟩
                      · skip
                        have hp409 := ite_f hp382 h400
                        refine sx_run 3 (todo' := [.inRegion (opsOf (cd13 [1, 1, 1, 1, 1, 1, 1, 1, 1, 1, 1, 1, 1, 0, 0])) [7, 8, 9, 10, 11, 12, 13, 14, 15], .code (cd13 [1, 1, 1, 1, 1, 1, 1, 1, 1, 1, 1, 1, 1, 0, 1]), .code (cd13 [1, 1, 1, 1, 1, 1, 1, 1, 1, 1, 1, 1, 1, 1])]) (us := [(123, .bool false), (124, .slice Q3 t2 Q4), (125, .slice Aa0 a0.length ca0)]) (by kernel_rfl) ?_
                        obtain ⟨t410, hr411, hp412⟩ := bind_some' hp409
                        have hS413 := hS398.pick3
                        refine r_call1 (c := (cd13 [1, 1, 1, 1, 1, 1, 1, 1, 1, 1, 1, 1, 1, 0, 0])) (i := 7) (d := (some 126)) (g := 26) (args := #[.slice Q3 t2 Q4, .slice Aa0 a0.length ca0]) (by kernel_rfl) (by kernel_rfl) (by kernel_rfl) (by kernel_rfl) (weirlaw10_Back.ok t1 t2 a0 Q3 Q4 Aa0 ca0 hS413 ha0 hr411) ?_
                        rintro _ w414 ⟨rfl, hS415⟩
                        refine ⟨.bool t410, rfl, ?_⟩
                        refine sx_split 1 (todo' := [.inRegion (opsOf (cd13 [1, 1, 1, 1, 1, 1, 1, 1, 1, 1, 1, 1, 1, 0, 0])) [9, 10, 11, 12, 13, 14, 15], .code (cd13 [1, 1, 1, 1, 1, 1, 1, 1, 1, 1, 1, 1, 1, 0, 1]), .code (cd13 [1, 1, 1, 1, 1, 1, 1, 1, 1, 1, 1, 1, 1, 1])]) (us := []) (d := 127) (t := (!t410)) (by kernel_rfl) (fun h416 => ?_) (fun h417 => ?_)
                        · skip
                          have hp418 := ite_t hp412 h416
                          refine sx_run 13 (todo' := [.code (cd13 [1, 1, 1, 1, 1, 1, 1, 1, 1, 1, 1, 1, 1, 0, 1, 0, 1]), .code (cd13 [1, 1, 1, 1, 1, 1, 1, 1, 1, 1, 1, 1, 1, 1])]) (us := [(128, .bool true), (129, .bool true), (130, undef), (131, undef), (132, undef), (133, undef), (134, .bool true), (4, .bool false)]) (by kernel_rfl) ?_
                          have hS419 := hS415.drop
                          have hS420 := hS419.drop
                          have hS421 := hS420.drop
                          have hS422 := hS421.drop
                          have hS423 := hS422.drop
                          have hS424 := hS423.drop
                          refine runs_ret (fn := Try.f13) (v := .bool false) Try.func13 (by kernel_rfl) ?_
                          have hr425 := (Option.some.inj hp418)
                          cases hr425
                          exact hR _ _ ⟨rfl, hS424⟩
                        · skip
                          have hp426 := ite_f hp412 h417
                          refine sx_run 4 (todo' := [.inRegion (opsOf (cd13 [1, 1, 1, 1, 1, 1, 1, 1, 1, 1, 1, 1, 1, 0, 0])) [13, 14, 15], .code (cd13 [1, 1, 1, 1, 1, 1, 1, 1, 1, 1, 1, 1, 1, 0, 1]), .code (cd13 [1, 1, 1, 1, 1, 1, 1, 1, 1, 1, 1, 1, 1, 1])]) (us := [(128, .bool false), (129, .bool false), (130, .slice Q12 t11 Q13), (131, .slice Aa1 a1.length ca1)]) (by kernel_rfl) ?_
                          obtain ⟨t427, hr428, hp429⟩ := bind_some' hp426
                          have hS430 := hS415.pick3
                          refine r_call1 (c := (cd13 [1, 1, 1, 1, 1, 1, 1, 1, 1, 1, 1, 1, 1, 0, 0])) (i := 13) (d := (some 132)) (g := 26) (args := #[.slice Q12 t11 Q13, .slice Aa1 a1.length ca1]) (by kernel_rfl) (by kernel_rfl) (by kernel_rfl) (by kernel_rfl) (weirlaw10_Back.ok t10 t11 a1 Q12 Q13 Aa1 ca1 hS430 ha1 hr428) ?_
                          rintro _ w431 ⟨rfl, hS432⟩
                          refine ⟨.bool t427, rfl, ?_⟩
                          refine sx_split 1 (todo' := [.inRegion (opsOf (cd13 [1, 1, 1, 1, 1, 1, 1, 1, 1, 1, 1, 1, 1, 0, 0])) [15], .code (cd13 [1, 1, 1, 1, 1, 1, 1, 1, 1, 1, 1, 1, 1, 0, 1]), .code (cd13 [1, 1, 1, 1, 1, 1, 1, 1, 1, 1, 1, 1, 1, 1])]) (us := []) (d := 133) (t := (!t427)) (by kernel_rfl) (fun h433 => ?_) (fun h434 => ?_)
                          · skip
                            have hp435 := ite_t hp429 h433
                            refine sx_run 7 (todo' := [.code (cd13 [1, 1, 1, 1, 1, 1, 1, 1, 1, 1, 1, 1, 1, 0, 1, 0, 1]), .code (cd13 [1, 1, 1, 1, 1, 1, 1, 1, 1, 1, 1, 1, 1, 1])]) (us := [(134, .bool true), (4, .bool false)]) (by kernel_rfl) ?_
                            have hS436 := hS432.drop
                            have hS437 := hS436.drop
                            have hS438 := hS437.drop
                            have hS439 := hS438.drop
                            have hS440 := hS439.drop
                            have hS441 := hS440.drop
                            refine runs_ret (fn := Try.f13) (v := .bool false) Try.func13 (by kernel_rfl) ?_
                            have hr442 := (Option.some.inj hp435)
                            cases hr442
                            exact hR _ _ ⟨rfl, hS441⟩
                          · skip
                            have hp443 := ite_f hp429 h434
                            refine sx_run 7 (todo' := [.inRegion (opsOf (cd13 [1, 1, 1, 1, 1, 1, 1, 1, 1, 1, 1, 1, 1, 1, 0])) [1], .code (cd13 [1, 1, 1, 1, 1, 1, 1, 1, 1, 1, 1, 1, 1, 1, 1])]) (us := [(134, .bool false), (135, .slice Q76 t74.length Q77)]) (by kernel_rfl) ?_
                            obtain ⟨_, hr444, hp445⟩ := bind_some' hp443
                            have hS446 := hS432.pick2
                            refine r_call1 (c := (cd13 [1, 1, 1, 1, 1, 1, 1, 1, 1, 1, 1, 1, 1, 1, 0])) (i := 1) (d := (some 136)) (g := 27) (args := #[.slice Q76 t74.length Q77]) (by kernel_rfl) (by kernel_rfl) (by kernel_rfl) (by kernel_rfl) (weirlaw10_Spoil.ok t74 Q76 Q77 hS446 hr444) ?_
                            rintro _ w447 ⟨rfl, hS448⟩
                            refine ⟨.tuple #[], rfl, ?_⟩
                            refine sx_run 5 (todo' := [.inRegion (opsOf (cd13 [1, 1, 1, 1, 1, 1, 1, 1, 1, 1, 1, 1, 1, 1, 1, 0])) [2, 3, 4, 5, 6, 7, 8], .code (cd13 [1, 1, 1, 1, 1, 1, 1, 1, 1, 1, 1, 1, 1, 1, 1, 1])]) (us := [(137, .slice Q3 t2 Q4), (138, .slice Aa0 a0.length ca0)]) (by kernel_rfl) ?_
                            obtain ⟨t449, hr450, hp451⟩ := bind_some' hp445
                            have hS452 := hS448.pick1
                            refine r_call1 (c := (cd13 [1, 1, 1, 1, 1, 1, 1, 1, 1, 1, 1, 1, 1, 1, 1, 0])) (i := 2) (d := (some 139)) (g := 26) (args := #[.slice Q3 t2 Q4, .slice Aa0 a0.length ca0]) (by kernel_rfl) (by kernel_rfl) (by kernel_rfl) (by kernel_rfl) (weirlaw10_Back.ok t1 t2 a0 Q3 Q4 Aa0 ca0 hS452 ha0 hr450) ?_
                            rintro _ w453 ⟨rfl, hS454⟩
                            refine ⟨.bool t449, rfl, ?_⟩
                            refine sx_run 1 (todo' := [.inRegion (opsOf (cd13 [1, 1, 1, 1, 1, 1, 1, 1, 1, 1, 1, 1, 1, 1, 1, 0])) [4, 5, 6, 7, 8], .code (cd13 [1, 1, 1, 1, 1, 1, 1, 1, 1, 1, 1, 1, 1, 1, 1, 1])]) (us := [(140, .bool t449)]) (by kernel_rfl) ?_
                            cases t449
                            · skip
                              have hp455 := ite_f hp451 rfl
                              refine sx_run 6 (todo' := [.code (cd13 [1, 1, 1, 1, 1, 1, 1, 1, 1, 1, 1, 1, 1, 1, 1, 1])]) (us := [(141, undef), (142, undef), (143, undef), (144, .bool false), (4, .bool false)]) (by kernel_rfl) ?_
                              have hS456 := hS454.drop
                              have hS457 := hS456.drop
                              have hS458 := hS457.drop
                              have hS459 := hS458.drop
                              have hS460 := hS459.drop
                              refine runs_ret (fn := Try.f13) (v := .bool false) Try.func13 (by kernel_rfl) ?_
                              have hr461 := (Option.some.inj hp455)
                              cases hr461
                              exact hR _ _ ⟨rfl, hS460⟩
                            · skip
                              have hp462 := ite_t hp451 rfl
                              refine sx_run 2 (todo' := [.inRegion (opsOf (cd13 [1, 1, 1, 1, 1, 1, 1, 1, 1, 1, 1, 1, 1, 1, 1, 0])) [6, 7, 8], .code (cd13 [1, 1, 1, 1, 1, 1, 1, 1, 1, 1, 1, 1, 1, 1, 1, 1])]) (us := [(141, .slice Q12 t11 Q13), (142, .slice Aa1 a1.length ca1)]) (by kernel_rfl) ?_
                              obtain ⟨t463, hr464, hp465⟩ := bind_some' hp462
                              have hS466 := hS454.pick1
                              refine r_call1 (c := (cd13 [1, 1, 1, 1, 1, 1, 1, 1, 1, 1, 1, 1, 1, 1, 1, 0])) (i := 6) (d := (some 143)) (g := 26) (args := #[.slice Q12 t11 Q13, .slice Aa1 a1.length ca1]) (by kernel_rfl) (by kernel_rfl) (by kernel_rfl) (by kernel_rfl) (weirlaw10_Back.ok t10 t11 a1 Q12 Q13 Aa1 ca1 hS466 ha1 hr464) ?_
                              rintro _ w467 ⟨rfl, hS468⟩
                              refine ⟨.bool t463, rfl, ?_⟩
                              refine sx_run 3 (todo' := [.code (cd13 [1, 1, 1, 1, 1, 1, 1, 1, 1, 1, 1, 1, 1, 1, 1, 1])]) (us := [(144, .bool t463), (4, .bool t463)]) (by kernel_rfl) ?_
                              have hS469 := hS468.drop
                              have hS470 := hS469.drop
                              have hS471 := hS470.drop
                              have hS472 := hS471.drop
                              have hS473 := hS472.drop
                              refine runs_ret (fn := Try.f13) (v := .bool t463) Try.func13 (by kernel_rfl) ?_
                              have hr474 := (Option.some.inj hp465)
                              cases hr474
                              exact hR _ _ ⟨rfl, hS473⟩

noncomputable def cd41 (p : List Nat) : Code := sub (bodyOf Try.f41) p
def state_Find_1.f (a0 : Int) (a1v : List api_Final) (a2v : api_Final) : Option Bool :=
  (if 0 ≤ a0 ∧ a0 < (a1v.length : Int) then (state_Compare.f (gt a1v a0) a2v >>= (fun t7 => (if (decide (t7 ≥ 0)) = true then some (true) else some (false)))) else none)
set_option maxHeartbeats 16000000 in
theorem state_Find_1.ok (a0 : Int) (a1v : List api_Final) (a2v : api_Final) (ba1 : Nat) (Aa1v : Option Addr) (ca1v : Nat) (ba2 : Nat) {w0 : World} {Z : Zm} {fs : List XObj} {w : World} (hS0 : St w0 Z (xblk ba1 36 ([.slice Aa1v a1v.length ca1v]) :: xblk ba2 24 (enc_api_Final a2v) :: fs) w) (ha1v : SlZ (flat enc_api_Final) 49 Z Aa1v ca1v a1v) {q0 : Bool} (hp0 : state_Find_1.f a0 a1v a2v = some q0) :
    Calls Try.prog 41 #[.int .i64 a0, .pointer (some ⟨ba1, 0, none⟩), .pointer (some ⟨ba2, 0, none⟩)] w (fun e w' => e = .returned (.bool q0) ∧ St w0 Z (xblk ba1 36 ([.slice Aa1v a1v.length ca1v]) :: xblk ba2 24 (enc_api_Final a2v) :: fs) w') := by
  refine calls_abs ?_; intro R hR
  unfold state_Find_1.f at hp0
  refine calls_of_runs (fn := Try.f41) (c := cd41 []) Try.func41 (by kernel_rfl) (al := [.int .i64 a0, .pointer (some ⟨ba1, 0, none⟩), .pointer (some ⟨ba2, 0, none⟩)]) rfl (n := 9) rfl ?_
  refine sx_run 5 (todo' := [.code (cd41 [1, 0]), .code (cd41 [1, 1])]) (us := [(4, .bool false)]) (by kernel_rfl) ?_
  refine r_quiet hS0 (c := (cd41 [1, 0])) (id := 1) (by kernel_rfl) (by kernel_rfl) (by kernel_rfl) (is := [0, 1, 2, 3, 4, 5, 6, 7]) (by kernel_rfl) ?_
  refine q_load (c := (cd41 [1, 0])) (i := 0) (d := (some 5)) (ty := 36) (t := 36) (x := (.tmp 1)) (p := ⟨ba1, 0, none⟩) (v := .slice Aa1v a1v.length ca1v) (by kernel_rfl) (by kernel_rfl) (by kernel_rfl) (fun w hC => (loads_at 0 (hC.blk 0 rfl) (by kernel_rfl) (by kernel_rfl))) ?_
  refine q_run 1 (is' := [2, 3, 4, 5, 6, 7]) (us := [(6, .int .i64 a0)]) (by kernel_rfl) ?_
  obtain ⟨g1, hp2⟩ := ite_some hp0
  obtain ⟨b3, p4, hA5, hc6⟩ := ha1v.atF g1.1 g1.2
  refine q_indexAddr (c := (cd41 [1, 0])) (i := 2) (d := (some 7)) (ty := 0) (t := 36) (e := 24) (n := a1v.length) (cp := ca1v) (sz := 49) (kk := .i64) (x := (.tmp 5)) (y := (.tmp 6)) (b := b3) (o' := p4) (j := a0) (by kernel_rfl) (by kernel_rfl) (slv (by kernel_rfl) hA5) (by kernel_rfl) (by kernel_rfl) (by kernel_rfl) g1.1 g1.2 ?_
  refine q_load (c := (cd41 [1, 0])) (i := 3) (d := (some 8)) (ty := 24) (t := 24) (x := (.tmp 7)) (p := ⟨b3, p4 + a0.toNat * 49, none⟩) (v := .agg (enc_api_Final (gt a1v a0)).toArray) (by kernel_rfl) (by kernel_rfl) (by kernel_rfl) (fun w hC => (loads_agg (hc6.cells hC) (by kernel_rfl) (lenK (len_api_Final _) (by kernel_rfl)))) ?_
  refine q_load (c := (cd41 [1, 0])) (i := 4) (d := (some 9)) (ty := 24) (t := 24) (x := (.tmp 2)) (p := ⟨ba2, 0, none⟩) (v := .agg (enc_api_Final a2v).toArray) (by kernel_rfl) (by kernel_rfl) (by kernel_rfl) (fun w hC => (loads_agg (hC.blk 1 rfl) (by kernel_rfl) (lenK (len_api_Final _) (by kernel_rfl)))) ?_
  obtain ⟨t7, hr8, hp9⟩ := bind_some' hp2
  refine q_call1 (c := (cd41 [1, 0])) (i := 5) (d := (some 10)) (v := .int .i64 t7) (g := 21) (args := #[.agg (enc_api_Final (gt a1v a0)).toArray, .agg (enc_api_Final a2v).toArray]) (by kernel_rfl) (by kernel_rfl) (by kernel_rfl) (by kernel_rfl) (fun w hC => by
    refine (state_Compare.ok (gt a1v a0) a2v hC hr8).mono ?_
    rintro e w2 ⟨rfl, h2⟩
    have hS10 := h2.pick1
    have hS11 := hS10.pick1
    exact ⟨rfl, hS11⟩) ?_
  refine q_splitr 1 (is' := [7]) (us := []) (d := 11) (t := (decide (t7 ≥ 0))) (by kernel_rfl) (fun h12 => ?_) (fun h13 => ?_)
  · skip
    have hp14 := ite_t hp9 h12
    refine q_run 1 (is' := []) (us := [(4, .bool true)]) (by kernel_rfl) ?_
    refine Qs.nil ?_
    intro w15 hS16
    refine runs_ret (fn := Try.f41) (v := .bool true) Try.func41 (by kernel_rfl) ?_
    have hr17 := (Option.some.inj hp14)
    cases hr17
    exact hR _ _ ⟨rfl, hS16⟩
  · skip
    have hp18 := ite_f hp9 h13
    refine q_run 1 (is' := []) (us := [(4, .bool false)]) (by kernel_rfl) ?_
    refine Qs.nil ?_
    intro w19 hS20
    refine runs_ret (fn := Try.f41) (v := .bool false) Try.func41 (by kernel_rfl) ?_
    have hr21 := (Option.some.inj hp18)
    cases hr21
    exact hR _ _ ⟨rfl, hS20⟩

noncomputable def cd40 (p : List Nat) : Code := sub (bodyOf Try.f40) p
def sort_Search.l0 (a1c0v : List api_Final) (a1c1v : api_Final) (t11 : Int) (t12 : Int) : Option Int :=
  (if (decide (t11 < t12)) = true then (state_Find_1.f (IntKind.i64.wrap (shrI .u64 (IntKind.u64.wrap (IntKind.i64.wrap (t11 + t12))) 1)) a1c0v a1c1v >>= (fun t25 => (if (!t25) = true then (sort_Search.l0 a1c0v a1c1v (IntKind.i64.wrap ((IntKind.i64.wrap (shrI .u64 (IntKind.u64.wrap (IntKind.i64.wrap (t11 + t12))) 1)) + 1)) t12) else (sort_Search.l0 a1c0v a1c1v t11 (IntKind.i64.wrap (shrI .u64 (IntKind.u64.wrap (IntKind.i64.wrap (t11 + t12))) 1)))))) else some (t11))
 partial_fixpoint
def sort_Search.f (a0 : Int) (a1c0v : List api_Final) (a1c1v : api_Final) : Option Int :=
  (sort_Search.l0 a1c0v a1c1v 0 a0 >>= (fun t4 => some (t4)))
set_option maxHeartbeats 16000000 in
theorem sort_Search.ok (a0 : Int) (a1c0v : List api_Final) (a1c1v : api_Final) (ba1c0 : Nat) (Aa1c0v : Option Addr) (ca1c0v : Nat) (ba1c1 : Nat) {w0 : World} {Z : Zm} {fs : List XObj} {w : World} (hS0 : St w0 Z (xblk ba1c0 36 ([.slice Aa1c0v a1c0v.length ca1c0v]) :: xblk ba1c1 24 (enc_api_Final a1c1v) :: fs) w) (ha1c0v : SlZ (flat enc_api_Final) 49 Z Aa1c0v ca1c0v a1c0v) {q0 : Int} (hp0 : sort_Search.f a0 a1c0v a1c1v = some q0) :
    Calls Try.prog 40 #[.int .i64 a0, .func (.func 41) #[] #[.pointer (some ⟨ba1c0, 0, none⟩), .pointer (some ⟨ba1c1, 0, none⟩)]] w (fun e w' => e = .returned (.int .i64 q0) ∧ St w0 Z (xblk ba1c0 36 ([.slice Aa1c0v a1c0v.length ca1c0v]) :: xblk ba1c1 24 (enc_api_Final a1c1v) :: fs) w') := by
  refine calls_abs ?_; intro R hR
  unfold sort_Search.f at hp0
  refine calls_of_runs (fn := Try.f40) (c := cd40 []) Try.func40 (by kernel_rfl) (al := [.int .i64 a0, .func (.func 41) #[] #[.pointer (some ⟨ba1c0, 0, none⟩), .pointer (some ⟨ba1c1, 0, none⟩)]]) rfl (n := 24) rfl ?_
  refine sx_run 13 (todo' := [.code (cd40 [1, 1, 0, 0, 0]), .inLoop (cd40 [1, 1, 0, 0, 0]), .inBlock 0, .code (cd40 [1, 1, 1])]) (us := [(4, .int .i64 0), (8, .int .i64 a0), (5, .int .i64 0), (6, .int .i64 a0)]) (by kernel_rfl) ?_
  obtain ⟨v1, hv2, hp3⟩ := bind_some' hp0
  have J7 : ∀ (t4 : Int) (he9 : t4 = v1) (l8 : List Value) (w5 : World) (hS6 : St w0 Z (xblk ba1c0 36 ([.slice Aa1c0v a1c0v.length ca1c0v]) :: xblk ba1c1 24 (enc_api_Final a1c1v) :: fs) w5), Runs Try.prog 40 [.code (cd40 [1, 1, 1])] (fill [none, none, none, none, none, some (.int .i64 t4), none, none, none, none, none, none, none, none, none, none, none, none, none, none, none, none, none, none, none, none] l8) w5 R := by
    intro t4 he9 l8 w5 hS6
    subst he9
    try dsimp only at hp3
    refine sx_run 5 (todo' := [.code (cd40 [1, 1, 1, 1])]) (us := [(25, .int .i64 t4), (4, .int .i64 t4)]) (by kernel_rfl) ?_
    refine runs_ret (fn := Try.f40) (v := .int .i64 t4) Try.func40 (by kernel_rfl) ?_
    have hr10 := (Option.some.inj hp3)
    cases hr10
    exact hR _ _ ⟨rfl, hS6⟩
  have L21 : ∀ (t11 : Int) (t12 : Int) (e16 : Int), sort_Search.l0 a1c0v a1c1v t11 t12 = some e16 → e16 = v1 → ∀ (l15 : List Value) (w13 : World) (hS14 : St w0 Z (xblk ba1c0 36 ([.slice Aa1c0v a1c0v.length ca1c0v]) :: xblk ba1c1 24 (enc_api_Final a1c1v) :: fs) w13), Runs Try.prog 40 [.code (cd40 [1, 1, 0, 0, 0]), .inLoop (cd40 [1, 1, 0, 0, 0]), .inBlock 0, .code (cd40 [1, 1, 1])] (fill [none, some (.func (.func 41) #[] #[.pointer (some ⟨ba1c0, 0, none⟩), .pointer (some ⟨ba1c1, 0, none⟩)]), none, none, none, some (.int .i64 t11), some (.int .i64 t12), none, none, none, none, none, none, none, none, none, none, none, none, none, none, none, none, none, none, none] l15) w13 R := by
    refine sort_Search.l0.partial_correctness a1c0v a1c1v (fun t11 t12 e16 => e16 = v1 → ∀ (l15 : List Value) (w13 : World) (hS14 : St w0 Z (xblk ba1c0 36 ([.slice Aa1c0v a1c0v.length ca1c0v]) :: xblk ba1c1 24 (enc_api_Final a1c1v) :: fs) w13), Runs Try.prog 40 [.code (cd40 [1, 1, 0, 0, 0]), .inLoop (cd40 [1, 1, 0, 0, 0]), .inBlock 0, .code (cd40 [1, 1, 1])] (fill [none, some (.func (.func 41) #[] #[.pointer (some ⟨ba1c0, 0, none⟩), .pointer (some ⟨ba1c1, 0, none⟩)]), none, none, none, some (.int .i64 t11), some (.int .i64 t12), none, none, none, none, none, none, none, none, none, none, none, none, none, none, none, none, none, none, none] l15) w13 R) ?_
    intro rec20 ih19 t11 t12 e16 hb18 he17 l15 w13 hS14
    refine sx_split 6 (todo' := [.inRegion (opsOf (cd40 [1, 1, 0, 0, 0, 0, 0])) [], .code (cd40 [1, 1, 0, 0, 0, 0, 1]), .code (cd40 [1, 1, 0, 0, 0, 1]), .inLoop (cd40 [1, 1, 0, 0, 0]), .inBlock 0, .code (cd40 [1, 1, 1])]) (us := [(9, .int .i64 t11), (10, .int .i64 t12)]) (d := 11) (t := (decide (t11 < t12))) (by kernel_rfl) (fun h22 => ?_) (fun h23 => ?_)
    · skip
      have hp24 := ite_t hb18 h22
      refine sx_run 18 (todo' := [.inRegion (opsOf (cd40 [1, 1, 0, 0, 0, 1, 0, 1, 0])) [2, 3], .code (cd40 [1, 1, 0, 0, 0, 1, 0, 1, 1]), .inBlock 1, .inLoop (cd40 [1, 1, 0, 0, 0]), .inBlock 0, .code (cd40 [1, 1, 1])]) (us := [(12, .int .i64 t11), (13, .int .i64 t12), (14, .int .i64 (IntKind.i64.wrap (t11 + t12))), (15, .int .u64 (IntKind.u64.wrap (IntKind.i64.wrap (t11 + t12)))), (16, .int .u64 (shrI .u64 (IntKind.u64.wrap (IntKind.i64.wrap (t11 + t12))) 1)), (17, .int .i64 (IntKind.i64.wrap (shrI .u64 (IntKind.u64.wrap (IntKind.i64.wrap (t11 + t12))) 1))), (7, .int .i64 (IntKind.i64.wrap (shrI .u64 (IntKind.u64.wrap (IntKind.i64.wrap (t11 + t12))) 1))), (18, .func (.func 41) #[] #[.pointer (some ⟨ba1c0, 0, none⟩), .pointer (some ⟨ba1c1, 0, none⟩)]), (19, .int .i64 (IntKind.i64.wrap (shrI .u64 (IntKind.u64.wrap (IntKind.i64.wrap (t11 + t12))) 1)))]) (by kernel_rfl) ?_
      obtain ⟨t25, hr26, hp27⟩ := bind_some' hp24
      have hS29 := hS14.pick1
      have hS30 := hS29.pick1
      refine r_call1 (c := (cd40 [1, 1, 0, 0, 0, 1, 0, 1, 0])) (i := 2) (d := (some 20)) (g := 41) (args := #[.int .i64 (IntKind.i64.wrap (shrI .u64 (IntKind.u64.wrap (IntKind.i64.wrap (t11 + t12))) 1)), .pointer (some ⟨ba1c0, 0, none⟩), .pointer (some ⟨ba1c1, 0, none⟩)]) (by kernel_rfl) (by kernel_rfl) (by kernel_rfl) (by kernel_rfl) (state_Find_1.ok (IntKind.i64.wrap (shrI .u64 (IntKind.u64.wrap (IntKind.i64.wrap (t11 + t12))) 1)) a1c0v a1c1v ba1c0 Aa1c0v ca1c0v ba1c1 hS30 ha1c0v hr26) ?_
      rintro _ w31 ⟨rfl, hS32⟩
      refine ⟨.bool t25, rfl, ?_⟩
      refine sx_split 1 (todo' := [.inRegion (opsOf (cd40 [1, 1, 0, 0, 0, 1, 0, 1, 0])) [], .code (cd40 [1, 1, 0, 0, 0, 1, 0, 1, 1]), .inBlock 1, .inLoop (cd40 [1, 1, 0, 0, 0]), .inBlock 0, .code (cd40 [1, 1, 1])]) (us := []) (d := 21) (t := (!t25)) (by kernel_rfl) (fun h33 => ?_) (fun h34 => ?_)
      · skip
        have hp35 := ite_t hp27 h33
        refine sx_run 8 (todo' := [.inLoop (cd40 [1, 1, 0, 0, 0]), .inBlock 0, .code (cd40 [1, 1, 1])]) (us := [(22, .int .i64 (IntKind.i64.wrap (shrI .u64 (IntKind.u64.wrap (IntKind.i64.wrap (t11 + t12))) 1))), (23, .int .i64 (IntKind.i64.wrap ((IntKind.i64.wrap (shrI .u64 (IntKind.u64.wrap (IntKind.i64.wrap (t11 + t12))) 1)) + 1))), (5, .int .i64 (IntKind.i64.wrap ((IntKind.i64.wrap (shrI .u64 (IntKind.u64.wrap (IntKind.i64.wrap (t11 + t12))) 1)) + 1)))]) (by kernel_rfl) ?_
        refine sx_run 1 (todo' := [.code (cd40 [1, 1, 0, 0, 0]), .inLoop (cd40 [1, 1, 0, 0, 0]), .inBlock 0, .code (cd40 [1, 1, 1])]) (us := []) (by kernel_rfl) ?_
        refine Runs.fill (m := [none, some (.func (.func 41) #[] #[.pointer (some ⟨ba1c0, 0, none⟩), .pointer (some ⟨ba1c1, 0, none⟩)]), none, none, none, some (.int .i64 (IntKind.i64.wrap ((IntKind.i64.wrap (shrI .u64 (IntKind.u64.wrap (IntKind.i64.wrap (t11 + t12))) 1)) + 1))), some (.int .i64 t12), none, none, none, none, none, none, none, none, none, none, none, none, none, none, none, none, none, none, none]) (by kernel_rfl) ?_
        exact ih19 (IntKind.i64.wrap ((IntKind.i64.wrap (shrI .u64 (IntKind.u64.wrap (IntKind.i64.wrap (t11 + t12))) 1)) + 1)) t12 _ hp35 he17 _ _ hS32
      · skip
        have hp36 := ite_f hp27 h34
        refine sx_run 7 (todo' := [.inLoop (cd40 [1, 1, 0, 0, 0]), .inBlock 0, .code (cd40 [1, 1, 1])]) (us := [(24, .int .i64 (IntKind.i64.wrap (shrI .u64 (IntKind.u64.wrap (IntKind.i64.wrap (t11 + t12))) 1))), (6, .int .i64 (IntKind.i64.wrap (shrI .u64 (IntKind.u64.wrap (IntKind.i64.wrap (t11 + t12))) 1)))]) (by kernel_rfl) ?_
        refine sx_run 1 (todo' := [.code (cd40 [1, 1, 0, 0, 0]), .inLoop (cd40 [1, 1, 0, 0, 0]), .inBlock 0, .code (cd40 [1, 1, 1])]) (us := []) (by kernel_rfl) ?_
        refine Runs.fill (m := [none, some (.func (.func 41) #[] #[.pointer (some ⟨ba1c0, 0, none⟩), .pointer (some ⟨ba1c1, 0, none⟩)]), none, none, none, some (.int .i64 t11), some (.int .i64 (IntKind.i64.wrap (shrI .u64 (IntKind.u64.wrap (IntKind.i64.wrap (t11 + t12))) 1))), none, none, none, none, none, none, none, none, none, none, none, none, none, none, none, none, none, none, none]) (by kernel_rfl) ?_
        exact ih19 t11 (IntKind.i64.wrap (shrI .u64 (IntKind.u64.wrap (IntKind.i64.wrap (t11 + t12))) 1)) _ hp36 he17 _ _ hS32
    · skip
      have hp37 := ite_f hb18 h23
      refine sx_run 3 (todo' := [.code (cd40 [1, 1, 1])]) (us := []) (by kernel_rfl) ?_
      refine Runs.fill (m := [none, none, none, none, none, some (.int .i64 t11), none, none, none, none, none, none, none, none, none, none, none, none, none, none, none, none, none, none, none, none]) (by kernel_rfl) ?_
      exact J7 t11 ((Option.some.inj hp37).trans he17) _ _ hS14
  refine Runs.fill (m := [none, some (.func (.func 41) #[] #[.pointer (some ⟨ba1c0, 0, none⟩), .pointer (some ⟨ba1c1, 0, none⟩)]), none, none, none, some (.int .i64 0), some (.int .i64 a0), none, none, none, none, none, none, none, none, none, none, none, none, none, none, none, none, none, none, none]) (by kernel_rfl) ?_
  exact L21 0 a0 _ hv2 rfl _ _ hS0

noncomputable def cd15 (p : List Nat) : Code := sub (bodyOf Try.f15) p
def state_Find.f (a0 : List api_Final) (a1 : api_Final) : Option (Int × Bool) :=
  (sort_Search.f (a0.length : Int) a0 a1 >>= (fun t9 => (if (decide (t9 < (a0.length : Int))) = true then (if 0 ≤ t9 ∧ t9 < (a0.length : Int) then (if (decide ((gt a0 t9) = a1)) = true then some ((t9, true)) else some ((t9, false))) else none) else some ((t9, false)))))
set_option maxHeartbeats 16000000 in
theorem state_Find.ok (a0 : List api_Final) (a1 : api_Final) (Aa0 : Option Addr) (ca0 : Nat) {w0 : World} {Z : Zm} {fs : List XObj} {w : World} (hS0 : St w0 Z (fs) w) (ha0 : SlZ (flat enc_api_Final) 49 Z Aa0 ca0 a0) {q0 : Int} {q1 : Bool} (hp0 : state_Find.f a0 a1 = some (q0, q1)) :
    Calls Try.prog 15 #[.slice Aa0 a0.length ca0, .agg (enc_api_Final a1).toArray] w (fun e w' => e = .returned (.tuple #[.int .i64 q0, .bool q1]) ∧ St w0 Z (fs) w') := by
  refine calls_abs ?_; intro R hR
  unfold state_Find.f at hp0
  refine calls_of_runs (fn := Try.f15) (c := cd15 []) Try.func15 (by kernel_rfl) (al := [.slice Aa0 a0.length ca0, .agg (enc_api_Final a1).toArray]) rfl (n := 22) rfl ?_
  refine sx_run 2 (todo' := [.inRegion (opsOf (cd15 [0])) [0, 1, 2, 3], .code (cd15 [1])]) (us := []) (by kernel_rfl) ?_
  refine r_box (c := (cd15 [0])) (i := 0) (d := (some 2)) (ty := 0) (x := (.tmp 0)) (v := .slice Aa0 a0.length ca0) (t := 36) (cs := [.slice Aa0 a0.length ca0]) hS0 (by kernel_rfl) (by kernel_rfl) (by kernel_rfl) (by kernel_rfl) ?_
  intro b1 w2 hS3
  refine r_box (c := (cd15 [0])) (i := 1) (d := (some 3)) (ty := 0) (x := (.tmp 1)) (v := .agg (enc_api_Final a1).toArray) (t := 24) (cs := enc_api_Final a1) hS3 (by kernel_rfl) (by kernel_rfl) (by kernel_rfl) (by kernel_rfl) ?_
  intro b5 w6 hS7
  refine sx_run 5 (todo' := [.inRegion (opsOf (cd15 [1, 0])) [0, 1, 2, 3, 4], .code (cd15 [1, 1])]) (us := [(4, .int .i64 0), (5, .bool false)]) (by kernel_rfl) ?_
  refine r_load (c := (cd15 [1, 0])) (i := 0) (d := (some 7)) (ty := 36) (t := 36) (x := (.tmp 2)) (p := ⟨b1, 0, none⟩) (v := .slice Aa0 a0.length ca0) (by kernel_rfl) (by kernel_rfl) (by kernel_rfl) (loads_at 0 (hS7.blk 1 rfl) (by kernel_rfl) (by kernel_rfl)) ?_
  refine sx_run 2 (todo' := [.inRegion (opsOf (cd15 [1, 0])) [3, 4], .code (cd15 [1, 1])]) (us := [(8, .int .i64 (a0.length : Int)), (9, .func (.func 41) #[] #[.pointer (some ⟨b1, 0, none⟩), .pointer (some ⟨b5, 0, none⟩)])]) (by kernel_rfl) ?_
  obtain ⟨t9, hr10, hp11⟩ := bind_some' hp0
  have hS13 := hS7.pick1
  refine r_call1 (c := (cd15 [1, 0])) (i := 3) (d := (some 10)) (g := 40) (args := #[.int .i64 (a0.length : Int), .func (.func 41) #[] #[.pointer (some ⟨b1, 0, none⟩), .pointer (some ⟨b5, 0, none⟩)]]) (by kernel_rfl) (by kernel_rfl) (by kernel_rfl) (by kernel_rfl) (sort_Search.ok (a0.length : Int) a0 a1 b1 Aa0 ca0 b5 hS13 ha0 hr10) ?_
  rintro _ w14 ⟨rfl, hS15⟩
  refine ⟨.int .i64 t9, rfl, ?_⟩
  refine sx_run 3 (todo' := [.code (cd15 [1, 1, 0]), .code (cd15 [1, 1, 1])]) (us := [(6, .int .i64 t9)]) (by kernel_rfl) ?_
  refine r_quiet hS15 (c := (cd15 [1, 1, 0])) (id := 2) (by kernel_rfl) (by kernel_rfl) (by kernel_rfl) (is := [0, 1, 2, 3, 4, 5, 6, 7, 8, 9, 10, 11, 12, 13, 14]) (by kernel_rfl) ?_
  refine q_run 2 (is' := [2, 3, 4, 5, 6, 7, 8, 9, 10, 11, 12, 13, 14]) (us := [(11, .int .i64 t9), (12, .int .i64 t9)]) (by kernel_rfl) ?_
  refine q_load (c := (cd15 [1, 1, 0])) (i := 2) (d := (some 13)) (ty := 36) (t := 36) (x := (.tmp 2)) (p := ⟨b1, 0, none⟩) (v := .slice Aa0 a0.length ca0) (by kernel_rfl) (by kernel_rfl) (by kernel_rfl) (fun w hC => (loads_at 0 (hC.blk 0 rfl) (by kernel_rfl) (by kernel_rfl))) ?_
  refine q_splitr 2 (is' := [5, 6, 7, 8, 9, 10, 11, 12, 13, 14]) (us := [(14, .int .i64 (a0.length : Int))]) (d := 15) (t := (decide (t9 < (a0.length : Int)))) (by kernel_rfl) (fun h16 => ?_) (fun h17 => ?_)
  · skip
    have hp18 := ite_t hp11 h16
    refine q_run 1 (is' := [6, 7, 8, 9, 10, 11, 12, 13, 14]) (us := [(16, .bool true)]) (by kernel_rfl) ?_
    refine q_load (c := (cd15 [1, 1, 0])) (i := 6) (d := (some 17)) (ty := 36) (t := 36) (x := (.tmp 2)) (p := ⟨b1, 0, none⟩) (v := .slice Aa0 a0.length ca0) (by kernel_rfl) (by kernel_rfl) (by kernel_rfl) (fun w hC => (loads_at 0 (hC.blk 0 rfl) (by kernel_rfl) (by kernel_rfl))) ?_
    refine q_run 1 (is' := [8, 9, 10, 11, 12, 13, 14]) (us := [(18, .int .i64 t9)]) (by kernel_rfl) ?_
    obtain ⟨g19, hp20⟩ := ite_some hp18
    obtain ⟨b21, p22, hA23, hc24⟩ := ha0.atF g19.1 g19.2
    refine q_indexAddr (c := (cd15 [1, 1, 0])) (i := 8) (d := (some 19)) (ty := 0) (t := 36) (e := 24) (n := a0.length) (cp := ca0) (sz := 49) (kk := .i64) (x := (.tmp 17)) (y := (.tmp 18)) (b := b21) (o' := p22) (j := t9) (by kernel_rfl) (by kernel_rfl) (slv (by kernel_rfl) hA23) (by kernel_rfl) (by kernel_rfl) (by kernel_rfl) g19.1 g19.2 ?_
    refine q_load (c := (cd15 [1, 1, 0])) (i := 9) (d := (some 20)) (ty := 24) (t := 24) (x := (.tmp 19)) (p := ⟨b21, p22 + t9.toNat * 49, none⟩) (v := .agg (enc_api_Final (gt a0 t9)).toArray) (by kernel_rfl) (by kernel_rfl) (by kernel_rfl) (fun w hC => (loads_agg (hc24.cells hC) (by kernel_rfl) (lenK (len_api_Final _) (by kernel_rfl)))) ?_
    refine q_load (c := (cd15 [1, 1, 0])) (i := 10) (d := (some 21)) (ty := 24) (t := 24) (x := (.tmp 3)) (p := ⟨b5, 0, none⟩) (v := .agg (enc_api_Final a1).toArray) (by kernel_rfl) (by kernel_rfl) (by kernel_rfl) (fun w hC => (loads_agg (hC.blk 1 rfl) (by kernel_rfl) (lenK (len_api_Final _) (by kernel_rfl)))) ?_
    refine q_val (c := (cd15 [1, 1, 0])) (i := 11) (d := (some 22)) (ty := 4) (op := .binOp .eql 24 (.tmp 20) (.tmp 21) 24) (v := .bool (decide ((gt a0 t9) = a1))) (by kernel_rfl) (by kernel_rfl) (fun w hC o ho _ => x_eql_api_Final (by kernel_rfl) (by kernel_rfl) ho) ?_
    refine q_split (decide ((gt a0 t9) = a1)) (fun h25 => ?_) (fun h26 => ?_)
    · skip
      have hp27 := ite_t hp20 h25
      refine q_run 3 (is' := []) (us := [(23, .bool true), (4, .int .i64 t9), (5, .bool true)]) (by kernel_rfl) ?_
      refine Qs.nil ?_
      intro w28 hS29
      have hS30 := hS29.drop
      have hS31 := hS30.drop
      refine runs_ret (fn := Try.f15) (v := .tuple #[.int .i64 t9, .bool true]) Try.func15 (by kernel_rfl) ?_
      have hr32 := (Option.some.inj hp27)
      cases hr32
      exact hR _ _ ⟨rfl, hS31⟩
    · skip
      have hp33 := ite_f hp20 h26
      refine q_run 3 (is' := []) (us := [(23, .bool false), (4, .int .i64 t9), (5, .bool false)]) (by kernel_rfl) ?_
      refine Qs.nil ?_
      intro w34 hS35
      have hS36 := hS35.drop
      have hS37 := hS36.drop
      refine runs_ret (fn := Try.f15) (v := .tuple #[.int .i64 t9, .bool false]) Try.func15 (by kernel_rfl) ?_
      have hr38 := (Option.some.inj hp33)
      cases hr38
      exact hR _ _ ⟨rfl, hS37⟩
  · skip
    have hp39 := ite_f hp11 h17
    refine q_run 10 (is' := []) (us := [(16, .bool false), (17, undef), (18, undef), (19, undef), (20, undef), (21, undef), (22, undef), (23, .bool false), (4, .int .i64 t9), (5, .bool false)]) (by kernel_rfl) ?_
    refine Qs.nil ?_
    intro w40 hS41
    have hS42 := hS41.drop
    have hS43 := hS42.drop
    refine runs_ret (fn := Try.f15) (v := .tuple #[.int .i64 t9, .bool false]) Try.func15 (by kernel_rfl) ?_
    have hr44 := (Option.some.inj hp39)
    cases hr44
    exact hR _ _ ⟨rfl, hS43⟩

noncomputable def cd4 (p : List Nat) : Code := sub (bodyOf Try.f4) p
def weirlaw10_StateSets.l0 (t27 : List api_Final) (t35 : List api_Final) (t140 : Int) : Option (Sum Unit Bool) :=
  (if (decide (t140 < (t35.length : Int))) = true then (if (decide (t140 < 50)) = true then (if 0 ≤ t140 ∧ t140 < (t35.length : Int) then (state_Find.f t27 (gt t35 t140) >>= (fun (t163, t164) => (if 0 ≤ t140 ∧ t140 < (t35.length : Int) then (weirref10_Find.f t27 (gt t35 t140) >>= (fun (t181, t182) => (if (t163 != t181) = true then some (.inr (false)) else (if (!(t164 == t182)) = true then some (.inr (false)) else (weirlaw10_StateSets.l0 t27 t35 (IntKind.i64.wrap (t140 + 1))))))) else none))) else none) else some (.inl ())) else some (.inl ()))
 partial_fixpoint
def weirlaw10_StateSets.f (a0 : List api_Final) (a1 : List api_Final) (a2 : api_Final) : Option Bool :=
  (weirlaw10_few.f a0 a1 >>= (fun t5 => (if (!t5) = true then some (true) else (weirlaw10_three.f a0 a1 >>= (fun t16 => (if (!t16) = true then some (false) else (weirref10_Sort.f a0 >>= (fun t27 => (weirref10_Sort.f a1 >>= (fun t35 => (weirlaw10_Lent.f t27 >>= (fun (t43, t44) => (if t44 ≤ t43.length then (state_Find.f (t43.take t44) a2 >>= (fun (t51, t52) => (weirref10_Find.f t27 a2 >>= (fun (t80, t81) => (weirlaw10_StateSets.l0 t27 t35 0 >>= (fun | .inl () => (if (t51 == t80) = true then (if (t52 == t81) = true then (weirlaw10_three.f t27 t35 >>= (fun t112 => some (t112))) else some (false)) else some (false)) | .inr e => some e)))))) else none)))))))))))))
set_option maxHeartbeats 16000000 in
theorem weirlaw10_StateSets.ok (a0 : List api_Final) (a1 : List api_Final) (a2 : api_Final) (Aa0 : Option Addr) (ca0 : Nat) (Aa1 : Option Addr) (ca1 : Nat) {w0 : World} {Z : Zm} {fs : List XObj} {w : World} (hS0 : St w0 Z (fs) w) (ha0 : SlZ (flat enc_api_Final) 49 Z Aa0 ca0 a0) (ha1 : SlZ (flat enc_api_Final) 49 Z Aa1 ca1 a1) {q0 : Bool} (hp0 : weirlaw10_StateSets.f a0 a1 a2 = some q0) :
    Calls Try.prog 4 #[.slice Aa0 a0.length ca0, .slice Aa1 a1.length ca1, .agg (enc_api_Final a2).toArray] w (fun e w' => e = .returned (.bool q0) ∧ St w0 Z (fs) w') := by
  refine calls_abs ?_; intro R hR
  unfold weirlaw10_StateSets.f at hp0
  refine calls_of_runs (fn := Try.f4) (c := cd4 []) Try.func4 (by kernel_rfl) (al := [.slice Aa0 a0.length ca0, .slice Aa1 a1.length ca1, .agg (enc_api_Final a2).toArray]) rfl (n := 89) rfl ?_
  refine sx_run 2 (todo' := [.inRegion (opsOf (cd4 [0])) [0, 1], .code (cd4 [1])]) (us := []) (by kernel_rfl) ?_
  refine r_box (c := (cd4 [0])) (i := 0) (d := (some 5)) (ty := 0) (x := (.tmp 2)) (v := .agg (enc_api_Final a2).toArray) (t := 24) (cs := enc_api_Final a2) hS0 (by kernel_rfl) (by kernel_rfl) (by kernel_rfl) (by kernel_rfl) ?_
  intro b1 w2 hS3
  refine sx_run 7 (todo' := [.inRegion (opsOf (cd4 [1, 0, 0])) [2, 3], .code (cd4 [1, 0, 1]), .code (cd4 [1, 1])]) (us := [(6, .bool false), (18, .slice Aa0 a0.length ca0), (19, .slice Aa1 a1.length ca1)]) (by kernel_rfl) ?_
  obtain ⟨t5, hr6, hp7⟩ := bind_some' hp0
  refine r_call1 (c := (cd4 [1, 0, 0])) (i := 2) (d := (some 20)) (g := 12) (args := #[.slice Aa0 a0.length ca0, .slice Aa1 a1.length ca1]) (by kernel_rfl) (by kernel_rfl) (by kernel_rfl) (by kernel_rfl) (weirlaw10_few.ok a0 a1 Aa0 ca0 Aa1 ca1 hS3 ha0 ha1 hr6) ?_
  rintro _ w8 ⟨rfl, hS9⟩
  refine ⟨.bool t5, rfl, ?_⟩
  refine sx_split 1 (todo' := [.inRegion (opsOf (cd4 [1, 0, 0])) [], .code (cd4 [1, 0, 1]), .code (cd4 [1, 1])]) (us := []) (d := 21) (t := (!t5)) (by kernel_rfl) (fun h10 => ?_) (fun h11 => ?_)
  · skip
    have hp12 := ite_t hp7 h10
    refine sx_run 6 (todo' := [.code (cd4 [1, 0, 1, 0, 1]), .code (cd4 [1, 1])]) (us := [(6, .bool true)]) (by kernel_rfl) ?_
    have hS13 := hS9.drop
    refine runs_ret (fn := Try.f4) (v := .bool true) Try.func4 (by kernel_rfl) ?_
    have hr14 := (Option.some.inj hp12)
    cases hr14
    exact hR _ _ ⟨rfl, hS13⟩
  · skip
    have hp15 := ite_f hp7 h11
    refine sx_run 8 (todo' := [.inRegion (opsOf (cd4 [1, 1, 0, 0])) [2, 3], .code (cd4 [1, 1, 0, 1]), .code (cd4 [1, 1, 1])]) (us := [(22, .slice Aa0 a0.length ca0), (23, .slice Aa1 a1.length ca1)]) (by kernel_rfl) ?_
    obtain ⟨t16, hr17, hp18⟩ := bind_some' hp15
    refine r_call1 (c := (cd4 [1, 1, 0, 0])) (i := 2) (d := (some 24)) (g := 13) (args := #[.slice Aa0 a0.length ca0, .slice Aa1 a1.length ca1]) (by kernel_rfl) (by kernel_rfl) (by kernel_rfl) (by kernel_rfl) (weirlaw10_three.ok a0 a1 Aa0 ca0 Aa1 ca1 hS9 ha0 ha1 hr17) ?_
    rintro _ w19 ⟨rfl, hS20⟩
    refine ⟨.bool t16, rfl, ?_⟩
    refine sx_split 1 (todo' := [.inRegion (opsOf (cd4 [1, 1, 0, 0])) [], .code (cd4 [1, 1, 0, 1]), .code (cd4 [1, 1, 1])]) (us := []) (d := 25) (t := (!t16)) (by kernel_rfl) (fun h21 => ?_) (fun h22 => ?_)
    · skip
      have hp23 := ite_t hp18 h21
      refine sx_run 6 (todo' := [.code (cd4 [1, 1, 0, 1, 0, 1]), .code (cd4 [1, 1, 1])]) (us := [(6, .bool false)]) (by kernel_rfl) ?_
      have hS24 := hS20.drop
      refine runs_ret (fn := Try.f4) (v := .bool false) Try.func4 (by kernel_rfl) ?_
      have hr25 := (Option.some.inj hp23)
      cases hr25
      exact hR _ _ ⟨rfl, hS24⟩
    · skip
      have hp26 := ite_f hp18 h22
      refine sx_run 6 (todo' := [.inRegion (opsOf (cd4 [1, 1, 1, 0])) [1, 2], .code (cd4 [1, 1, 1, 1])]) (us := [(26, .slice Aa0 a0.length ca0)]) (by kernel_rfl) ?_
      obtain ⟨t27, hr30, hp31⟩ := bind_some' hp26
      refine r_call1 (c := (cd4 [1, 1, 1, 0])) (i := 1) (d := (some 27)) (g := 14) (args := #[.slice Aa0 a0.length ca0]) (by kernel_rfl) (by kernel_rfl) (by kernel_rfl) (by kernel_rfl) (weirref10_Sort.ok a0 Aa0 ca0 hS20 ha0 hr30) ?_
      rintro _ w33 ⟨Q28, Q29, rfl, hS34⟩
      refine ⟨.slice Q28 t27.length Q29, rfl, ?_⟩
      refine sx_run 5 (todo' := [.inRegion (opsOf (cd4 [1, 1, 1, 1, 0])) [1, 2], .code (cd4 [1, 1, 1, 1, 1])]) (us := [(7, .slice Q28 t27.length Q29), (28, .slice Aa1 a1.length ca1)]) (by kernel_rfl) ?_
      obtain ⟨t35, hr38, hp39⟩ := bind_some' hp31
      refine r_call1 (c := (cd4 [1, 1, 1, 1, 0])) (i := 1) (d := (some 29)) (g := 14) (args := #[.slice Aa1 a1.length ca1]) (by kernel_rfl) (by kernel_rfl) (by kernel_rfl) (by kernel_rfl) (weirref10_Sort.ok a1 Aa1 ca1 hS34 ha1 hr38) ?_
      rintro _ w41 ⟨Q36, Q37, rfl, hS42⟩
      refine ⟨.slice Q36 t35.length Q37, rfl, ?_⟩
      refine sx_run 3 (todo' := [.code (cd4 [1, 1, 1, 1, 1, 0]), .code (cd4 [1, 1, 1, 1, 1, 1])]) (us := [(8, .slice Q36 t35.length Q37)]) (by kernel_rfl) ?_
      obtain ⟨⟨t43, t44⟩, hr45, hp46⟩ := bind_some' hp39
      try dsimp only at hp46
      obtain ⟨g49, hp50⟩ := ite_some hp46
      obtain ⟨⟨t51, t52⟩, hr53, hp54⟩ := bind_some' hp50
      try dsimp only at hp54
      refine r_drawnF (X := Option Addr × Nat) (c := (cd4 [1, 1, 1, 1, 1, 0])) (id := 7) (C0 := fun w' => St w0 Z (xrow Q36 Q37 24 49 (t35.flatMap enc_api_Final) :: xrow Q28 Q29 24 49 (t27.flatMap enc_api_Final) :: xblk b1 24 (enc_api_Final a2) :: fs) w') (C1 := fun x47 w' => St w0 Z (xrow x47.1 x47.2 24 49 (t43.flatMap enc_api_Final) :: xrow Q36 Q37 24 49 (t35.flatMap enc_api_Final) :: xrow Q28 Q29 24 49 (t27.flatMap enc_api_Final) :: xblk b1 24 (enc_api_Final a2) :: fs) w') (vs := [.slice Q28 t27.length Q29, undef, .agg (enc_api_Final a2).toArray, undef, undef, undef, undef, undef, undef]) (vx := fun x47 => [.slice Q28 t27.length Q29, .slice x47.1 t44 x47.2, .agg (enc_api_Final a2).toArray, .tuple #[.int .i64 t51, .bool t52], .tuple #[.int .i64 t51, .bool t52], .int .i64 t51, .bool t52, .int .i64 t51, .bool t52]) 1 9 [1, 3, 4, 5, 6, 7, 8] [] (by kernel_rfl) (by kernel_rfl) (by kernel_rfl) (by decide) (by kernel_rfl) (by kernel_rfl) (by kernel_rfl) rfl ?_ (fun _ => ⟨rfl, rfl⟩) hS42.drew ?_ ?_ ?_ ?_ ?_
      · intro x47 i hi hd
        match i, hi, hd with
        | 0, _, _ => exact rfl
        | 1, _, hd => exact absurd hd (by decide)
        | 2, _, _ => exact rfl
        | 3, _, hd => exact absurd hd (by decide)
        | 4, _, hd => exact absurd hd (by decide)
        | 5, _, hd => exact absurd hd (by decide)
        | 6, _, hd => exact absurd hd (by decide)
        | 7, _, hd => exact absurd hd (by decide)
        | 8, _, hd => exact absurd hd (by decide)
        | i + 9, hi, _ => exact absurd hi (by omega)
      · intro i hi hd w hC
        match i, hi, hd with
        | 0, _, _ => exact does_pure (v := .slice Q28 t27.length Q29) (by kernel_rfl) rfl hC
        | 1, _, hd => exact absurd hd (by decide)
        | 2, _, _ => exact does_run (x_load (t := 24) (x := (.tmp 5)) (p := ⟨b1, 0, none⟩) (v := .agg (enc_api_Final a2).toArray) (by kernel_rfl) (loads_agg (hC.blk 2 rfl) (by kernel_rfl) (lenK (len_api_Final _) (by kernel_rfl))) (by kernel_rfl)) rfl hC
        | 3, _, hd => exact absurd hd (by decide)
        | 4, _, hd => exact absurd hd (by decide)
        | 5, _, hd => exact absurd hd (by decide)
        | 6, _, hd => exact absurd hd (by decide)
        | 7, _, hd => exact absurd hd (by decide)
        | 8, _, hd => exact absurd hd (by decide)
        | i + 9, hi, _ => exact absurd hi (by omega)
      · intro i hi hd x47 w hC
        match i, hi, hd with
        | 0, _, _ => exact does_pure (v := .slice Q28 t27.length Q29) (by kernel_rfl) rfl hC
        | 1, _, hd => exact absurd hd (by decide)
        | 2, _, _ => exact does_run (x_load (t := 24) (x := (.tmp 5)) (p := ⟨b1, 0, none⟩) (v := .agg (enc_api_Final a2).toArray) (by kernel_rfl) (loads_agg (hC.blk 3 rfl) (by kernel_rfl) (lenK (len_api_Final _) (by kernel_rfl))) (by kernel_rfl)) rfl hC
        | 3, _, hd => exact absurd hd (by decide)
        | 4, _, hd => exact absurd hd (by decide)
        | 5, _, hd => exact absurd hd (by decide)
        | 6, _, hd => exact absurd hd (by decide)
        | 7, _, hd => exact absurd hd (by decide)
        | 8, _, hd => exact absurd hd (by decide)
        | i + 9, hi, _ => exact absurd hi (by omega)
      · intro w hC
        have hS55 := hC.pick1
        obtain ⟨Z56, hz57, hS58, hs59, hb60⟩ := hS55.lendrow len_api_Final (by omega)
        refine does_call (g := 16) (args := #[.slice Q28 t27.length Q29]) (by kernel_rfl) (weirlaw10_Lent.ok t27 Q28 Q29 hS58 hs59 hr45) ?_
        rintro e w2 ⟨m61, m62, rfl, h2⟩
        have hS63 := hb60 _ _ h2
        have hS64 := hS63.pick3
        have hS65 := hS64.pick1
        have hS66 := hS65.pick3
        have hS67 := hS66.pick3
        exact ⟨_, rfl, (m61, m62), .inr rfl, hS67⟩
      · intro i hi hd hne x47 w hC
        match i, hi, hd, hne with
        | 0, _, hd, _ => exact absurd hd (by decide)
        | 1, _, _, hne => exact absurd rfl hne
        | 2, _, hd, _ => exact absurd hd (by decide)
        | 3, _, _, _ => exact (by obtain ⟨Z68, hz69, hS70, hs71, hb72⟩ := hC.lendrow len_api_Final (by omega); refine does_call (g := 15) (args := #[.slice x47.1 t44 x47.2, .agg (enc_api_Final a2).toArray]) (by kernel_rfl) (args_eq (by rw [lenTake g49]) (state_Find.ok (t43.take t44) a2 x47.1 x47.2 hS70 (hs71.take0 t44) hr53)) ?_; rintro e w2 ⟨rfl, h2⟩; have hS73 := hb72 _ _ h2; have hS74 := hS73.pick3; have hS75 := hS74.pick3; have hS76 := hS75.pick3; have hS77 := hS76.pick3; exact ⟨_, rfl, rfl, hS77⟩)
        | 4, _, _, _ => exact does_pure (v := .tuple #[.int .i64 t51, .bool t52]) (by kernel_rfl) rfl hC
        | 5, _, _, _ => exact does_pure (v := .int .i64 t51) (by kernel_rfl) rfl hC
        | 6, _, _, _ => exact does_pure (v := .bool t52) (by kernel_rfl) rfl hC
        | 7, _, _, _ => exact does_pure (v := .int .i64 t51) (by kernel_rfl) rfl hC
        | 8, _, _, _ => exact does_pure (v := .bool t52) (by kernel_rfl) rfl hC
        | i + 9, hi, _, _ => exact absurd hi (by omega)
      intro x47 w78 hS79
      refine sx_run 3 (todo' := [.inRegion (opsOf (cd4 [1, 1, 1, 1, 1, 1, 0])) [1, 2, 3, 4, 5, 6, 7], .code (cd4 [1, 1, 1, 1, 1, 1, 1])]) (us := [(38, .slice Q28 t27.length Q29)]) (by kernel_rfl) ?_
      refine r_load (c := (cd4 [1, 1, 1, 1, 1, 1, 0])) (i := 1) (d := (some 39)) (ty := 24) (t := 24) (x := (.tmp 5)) (p := ⟨b1, 0, none⟩) (v := .agg (enc_api_Final a2).toArray) (by kernel_rfl) (by kernel_rfl) (by kernel_rfl) (loads_agg (hS79.blk 3 rfl) (by kernel_rfl) (lenK (len_api_Final _) (by kernel_rfl))) ?_
      obtain ⟨⟨t80, t81⟩, hr82, hp83⟩ := bind_some' hp54
      try dsimp only at hp83
      have hS84 := hS79.pick2
      obtain ⟨Z85, hz86, hS87, hs88, hb89⟩ := hS84.lendrow len_api_Final (by omega)
      refine r_call1 (c := (cd4 [1, 1, 1, 1, 1, 1, 0])) (i := 2) (d := (some 40)) (g := 17) (args := #[.slice Q28 t27.length Q29, .agg (enc_api_Final a2).toArray]) (by kernel_rfl) (by kernel_rfl) (by kernel_rfl) (by kernel_rfl) (weirref10_Find.ok t27 a2 Q28 Q29 hS87 hs88 hr82) ?_
      rintro _ w90 ⟨rfl, hS91⟩
      refine ⟨.tuple #[.int .i64 t80, .bool t81], rfl, ?_⟩
      have hS92 := hb89 _ _ hS91
      refine sx_run 13 (todo' := [.code (cd4 [1, 1, 1, 1, 1, 1, 1, 0, 1, 0, 0]), .inLoop (cd4 [1, 1, 1, 1, 1, 1, 1, 0, 1, 0, 0]), .inBlock 0, .code (cd4 [1, 1, 1, 1, 1, 1, 1, 1])]) (us := [(37, .tuple #[.int .i64 t80, .bool t81]), (41, .int .i64 t80), (42, .bool t81), (11, .int .i64 t80), (12, .bool t81), (13, .int .i64 0)]) (by kernel_rfl) ?_
      have hS93 := hS92.pick1
      have hS94 := hS93.drop
      have hS95 := hS94.pick2
      have hS96 := hS95.drop
      obtain ⟨v97, hv98, hp99⟩ := bind_some' hp83
      have hq102 : ∀ x, Sum.inr x = v97 → x = q0 := by intro x hx; subst hx; simpa using hp99
      have J103 : ∀ (he105 : Sum.inl () = v97) (l104 : List Value) (w100 : World) (hS101 : St w0 Z (xrow Q28 Q29 24 49 (t27.flatMap enc_api_Final) :: xrow Q36 Q37 24 49 (t35.flatMap enc_api_Final) :: fs) w100), Runs Try.prog 4 [.code (cd4 [1, 1, 1, 1, 1, 1, 1, 1])] (fill [none, none, none, none, none, none, none, some (.slice Q28 t27.length Q29), some (.slice Q36 t35.length Q37), some (.int .i64 t51), some (.bool t52), some (.int .i64 t80), some (.bool t81), none, none, none, none, none, none, none, none, none, none, none, none, none, none, none, none, none, none, none, none, none, none, none, none, none, none, none, none, none, none, none, none, none, none, none, none, none, none, none, none, none, none, none, none, none, none, none, none, none, none, none, none, none, none, none, none, none, none, none, none, none, none, none, none, none, none, none, none, none, none, none, none, none, none, none, none, none, none, none] l104) w100 R := by
        intro he105 l104 w100 hS101
        subst he105
        try dsimp only at hp99
        refine sx_split 5 (todo' := [.inRegion (opsOf (cd4 [1, 1, 1, 1, 1, 1, 1, 1, 0])) [3, 4, 5, 6, 7, 8, 9, 10, 11, 12, 13], .code (cd4 [1, 1, 1, 1, 1, 1, 1, 1, 1])]) (us := [(79, .int .i64 t51), (80, .int .i64 t80)]) (d := 81) (t := (t51 == t80)) (by kernel_rfl) (fun h106 => ?_) (fun h107 => ?_)
        · skip
          have hp108 := ite_t hp99 h106
          refine sx_split 4 (todo' := [.inRegion (opsOf (cd4 [1, 1, 1, 1, 1, 1, 1, 1, 0])) [7, 8, 9, 10, 11, 12, 13], .code (cd4 [1, 1, 1, 1, 1, 1, 1, 1, 1])]) (us := [(82, .bool true), (83, .bool t52), (84, .bool t81)]) (d := 85) (t := (t52 == t81)) (by kernel_rfl) (fun h109 => ?_) (fun h110 => ?_)
          · skip
            have hp111 := ite_t hp108 h109
            refine sx_run 4 (todo' := [.inRegion (opsOf (cd4 [1, 1, 1, 1, 1, 1, 1, 1, 0])) [11, 12, 13], .code (cd4 [1, 1, 1, 1, 1, 1, 1, 1, 1])]) (us := [(86, .bool true), (87, .bool true), (88, .slice Q28 t27.length Q29), (89, .slice Q36 t35.length Q37)]) (by kernel_rfl) ?_
            obtain ⟨t112, hr113, hp114⟩ := bind_some' hp111
            obtain ⟨Z115, hz116, hS117, hs118, hb119⟩ := hS101.lendrow len_api_Final (by omega)
            obtain ⟨Z120, hz121, hS122, hs123, hb124⟩ := hS117.lendrow len_api_Final (by omega)
            refine r_call1 (c := (cd4 [1, 1, 1, 1, 1, 1, 1, 1, 0])) (i := 11) (d := (some 90)) (g := 13) (args := #[.slice Q28 t27.length Q29, .slice Q36 t35.length Q37]) (by kernel_rfl) (by kernel_rfl) (by kernel_rfl) (by kernel_rfl) (weirlaw10_three.ok t27 t35 Q28 Q29 Q36 Q37 hS122 (hs118.up hz121) hs123 hr113) ?_
            rintro _ w125 ⟨rfl, hS126⟩
            refine ⟨.bool t112, rfl, ?_⟩
            have hS127 := hb124 _ _ hS126
            have hS128 := hb119 _ _ hS127
            refine sx_run 3 (todo' := [.code (cd4 [1, 1, 1, 1, 1, 1, 1, 1, 1])]) (us := [(91, .bool t112), (6, .bool t112)]) (by kernel_rfl) ?_
            have hS129 := hS128.drop
            have hS130 := hS129.drop
            refine runs_ret (fn := Try.f4) (v := .bool t112) Try.func4 (by kernel_rfl) ?_
            have hr131 := (Option.some.inj hp114)
            cases hr131
            exact hR _ _ ⟨rfl, hS130⟩
          · skip
            have hp132 := ite_f hp108 h110
            refine sx_run 8 (todo' := [.code (cd4 [1, 1, 1, 1, 1, 1, 1, 1, 1])]) (us := [(86, .bool false), (87, .bool false), (88, undef), (89, undef), (90, undef), (91, .bool false), (6, .bool false)]) (by kernel_rfl) ?_
            have hS133 := hS101.drop
            have hS134 := hS133.drop
            refine runs_ret (fn := Try.f4) (v := .bool false) Try.func4 (by kernel_rfl) ?_
            have hr135 := (Option.some.inj hp132)
            cases hr135
            exact hR _ _ ⟨rfl, hS134⟩
        · skip
          have hp136 := ite_f hp99 h107
          refine sx_run 12 (todo' := [.code (cd4 [1, 1, 1, 1, 1, 1, 1, 1, 1])]) (us := [(82, .bool false), (83, undef), (84, undef), (85, undef), (86, .bool false), (87, .bool false), (88, undef), (89, undef), (90, undef), (91, .bool false), (6, .bool false)]) (by kernel_rfl) ?_
          have hS137 := hS101.drop
          have hS138 := hS137.drop
          refine runs_ret (fn := Try.f4) (v := .bool false) Try.func4 (by kernel_rfl) ?_
          have hr139 := (Option.some.inj hp136)
          cases hr139
          exact hR _ _ ⟨rfl, hS138⟩
      have L149 : ∀ (t140 : Int) (e144 : Sum Unit Bool), weirlaw10_StateSets.l0 t27 t35 t140 = some e144 → e144 = v97 → ∀ (l143 : List Value) (w141 : World) (hS142 : St w0 Z (xrow Q28 Q29 24 49 (t27.flatMap enc_api_Final) :: xrow Q36 Q37 24 49 (t35.flatMap enc_api_Final) :: fs) w141), Runs Try.prog 4 [.code (cd4 [1, 1, 1, 1, 1, 1, 1, 0, 1, 0, 0]), .inLoop (cd4 [1, 1, 1, 1, 1, 1, 1, 0, 1, 0, 0]), .inBlock 0, .code (cd4 [1, 1, 1, 1, 1, 1, 1, 1])] (fill [none, none, none, none, none, none, none, some (.slice Q28 t27.length Q29), some (.slice Q36 t35.length Q37), some (.int .i64 t51), some (.bool t52), some (.int .i64 t80), some (.bool t81), some (.int .i64 t140), none, none, none, none, none, none, none, none, none, none, none, none, none, none, none, none, none, none, none, none, none, none, none, none, none, none, none, none, none, none, none, none, none, none, none, none, none, none, none, none, none, none, none, none, none, none, none, none, none, none, none, none, none, none, none, none, none, none, none, none, none, none, none, none, none, none, none, none, none, none, none, none, none, none, none, none, none, none] l143) w141 R := by
        refine weirlaw10_StateSets.l0.partial_correctness t27 t35 (fun t140 e144 => e144 = v97 → ∀ (l143 : List Value) (w141 : World) (hS142 : St w0 Z (xrow Q28 Q29 24 49 (t27.flatMap enc_api_Final) :: xrow Q36 Q37 24 49 (t35.flatMap enc_api_Final) :: fs) w141), Runs Try.prog 4 [.code (cd4 [1, 1, 1, 1, 1, 1, 1, 0, 1, 0, 0]), .inLoop (cd4 [1, 1, 1, 1, 1, 1, 1, 0, 1, 0, 0]), .inBlock 0, .code (cd4 [1, 1, 1, 1, 1, 1, 1, 1])] (fill [none, none, none, none, none, none, none, some (.slice Q28 t27.length Q29), some (.slice Q36 t35.length Q37), some (.int .i64 t51), some (.bool t52), some (.int .i64 t80), some (.bool t81), some (.int .i64 t140), none, none, none, none, none, none, none, none, none, none, none, none, none, none, none, none, none, none, none, none, none, none, none, none, none, none, none, none, none, none, none, none, none, none, none, none, none, none, none, none, none, none, none, none, none, none, none, none, none, none, none, none, none, none, none, none, none, none, none, none, none, none, none, none, none, none, none, none, none, none, none, none, none, none, none, none, none, none] l143) w141 R) ?_
        intro rec148 ih147 t140 e144 hb146 he145 l143 w141 hS142
        have hq150 : ∀ x, Sum.inr x = e144 → x = q0 := fun x hx => hq102 x (hx.trans he145)
        refine sx_split 7 (todo' := [.inRegion (opsOf (cd4 [1, 1, 1, 1, 1, 1, 1, 0, 1, 0, 0, 0, 0])) [4, 5, 6, 7], .code (cd4 [1, 1, 1, 1, 1, 1, 1, 0, 1, 0, 0, 0, 1]), .code (cd4 [1, 1, 1, 1, 1, 1, 1, 0, 1, 0, 0, 1]), .inLoop (cd4 [1, 1, 1, 1, 1, 1, 1, 0, 1, 0, 0]), .inBlock 0, .code (cd4 [1, 1, 1, 1, 1, 1, 1, 1])]) (us := [(43, .int .i64 t140), (44, .slice Q36 t35.length Q37), (45, .int .i64 (t35.length : Int))]) (d := 46) (t := (decide (t140 < (t35.length : Int)))) (by kernel_rfl) (fun h151 => ?_) (fun h152 => ?_)
        · skip
          have hp153 := ite_t hb146 h151
          refine sx_split 3 (todo' := [.inRegion (opsOf (cd4 [1, 1, 1, 1, 1, 1, 1, 0, 1, 0, 0, 0, 0])) [7], .code (cd4 [1, 1, 1, 1, 1, 1, 1, 0, 1, 0, 0, 0, 1]), .code (cd4 [1, 1, 1, 1, 1, 1, 1, 0, 1, 0, 0, 1]), .inLoop (cd4 [1, 1, 1, 1, 1, 1, 1, 0, 1, 0, 0]), .inBlock 0, .code (cd4 [1, 1, 1, 1, 1, 1, 1, 1])]) (us := [(47, .bool true), (48, .int .i64 t140)]) (d := 49) (t := (decide (t140 < 50))) (by kernel_rfl) (fun h154 => ?_) (fun h155 => ?_)
          · skip
            have hp156 := ite_t hp153 h154
            refine sx_run 11 (todo' := [.inRegion (opsOf (cd4 [1, 1, 1, 1, 1, 1, 1, 0, 1, 0, 0, 1, 0, 0, 0])) [3, 4, 5, 6, 7, 8, 9, 10], .code (cd4 [1, 1, 1, 1, 1, 1, 1, 0, 1, 0, 0, 1, 0, 0, 1]), .inBlock 1, .code (cd4 [1, 1, 1, 1, 1, 1, 1, 0, 1, 0, 0, 1, 1]), .inLoop (cd4 [1, 1, 1, 1, 1, 1, 1, 0, 1, 0, 0]), .inBlock 0, .code (cd4 [1, 1, 1, 1, 1, 1, 1, 1])]) (us := [(50, .bool true), (54, .slice Q28 t27.length Q29), (55, .slice Q36 t35.length Q37), (56, .int .i64 t140)]) (by kernel_rfl) ?_
            obtain ⟨g157, hp158⟩ := ite_some hp156
            obtain ⟨b159, p160, hA161, -⟩ := (hS142.row 1 rfl).at_ len_api_Final (by omega) g157.1 g157.2
            refine r_indexAddr (c := (cd4 [1, 1, 1, 1, 1, 1, 1, 0, 1, 0, 0, 1, 0, 0, 0])) (i := 3) (d := (some 57)) (ty := 0) (t := 36) (e := 24) (n := t35.length) (cp := Q37) (sz := 49) (kk := .i64) (x := (.tmp 55)) (y := (.tmp 56)) (b := b159) (o' := p160) (j := t140) (by kernel_rfl) (by kernel_rfl) (slv (by kernel_rfl) hA161) (by kernel_rfl) (by kernel_rfl) (by kernel_rfl) g157.1 g157.2 ?_
            refine r_load (c := (cd4 [1, 1, 1, 1, 1, 1, 1, 0, 1, 0, 0, 1, 0, 0, 0])) (i := 4) (d := (some 58)) (ty := 24) (t := 24) (x := (.tmp 57)) (p := ⟨b159, p160 + t140.toNat * 49, none⟩) (v := .agg (enc_api_Final (gt t35 t140)).toArray) (by kernel_rfl) (by kernel_rfl) (by kernel_rfl) (loads_agg ((hS142.row 1 rfl).at2 hA161 len_api_Final (by omega) g157.1 g157.2) (by kernel_rfl) (lenK (len_api_Final _) (by kernel_rfl))) ?_
            obtain ⟨⟨t163, t164⟩, hr165, hp166⟩ := bind_some' hp158
            try dsimp only at hp166
            obtain ⟨Z167, hz168, hS169, hs170, hb171⟩ := hS142.lendrow len_api_Final (by omega)
            refine r_call1 (c := (cd4 [1, 1, 1, 1, 1, 1, 1, 0, 1, 0, 0, 1, 0, 0, 0])) (i := 5) (d := (some 59)) (g := 15) (args := #[.slice Q28 t27.length Q29, .agg (enc_api_Final (gt t35 t140)).toArray]) (by kernel_rfl) (by kernel_rfl) (by kernel_rfl) (by kernel_rfl) (state_Find.ok t27 (gt t35 t140) Q28 Q29 hS169 hs170 hr165) ?_
            rintro _ w172 ⟨rfl, hS173⟩
            refine ⟨.tuple #[.int .i64 t163, .bool t164], rfl, ?_⟩
            have hS174 := hb171 _ _ hS173
            refine sx_run 11 (todo' := [.inRegion (opsOf (cd4 [1, 1, 1, 1, 1, 1, 1, 0, 1, 0, 0, 1, 0, 0, 1, 0])) [3, 4, 5, 6, 7, 8, 9, 10], .code (cd4 [1, 1, 1, 1, 1, 1, 1, 0, 1, 0, 0, 1, 0, 0, 1, 1]), .inBlock 1, .code (cd4 [1, 1, 1, 1, 1, 1, 1, 0, 1, 0, 0, 1, 1]), .inLoop (cd4 [1, 1, 1, 1, 1, 1, 1, 0, 1, 0, 0]), .inBlock 0, .code (cd4 [1, 1, 1, 1, 1, 1, 1, 1])]) (us := [(53, .tuple #[.int .i64 t163, .bool t164]), (60, .int .i64 t163), (61, .bool t164), (14, .int .i64 t163), (15, .bool t164), (63, .slice Q28 t27.length Q29), (64, .slice Q36 t35.length Q37), (65, .int .i64 t140)]) (by kernel_rfl) ?_
            obtain ⟨g175, hp176⟩ := ite_some hp166
            obtain ⟨b177, p178, hA179, -⟩ := (hS174.row 1 rfl).at_ len_api_Final (by omega) g175.1 g175.2
            refine r_indexAddr (c := (cd4 [1, 1, 1, 1, 1, 1, 1, 0, 1, 0, 0, 1, 0, 0, 1, 0])) (i := 3) (d := (some 66)) (ty := 0) (t := 36) (e := 24) (n := t35.length) (cp := Q37) (sz := 49) (kk := .i64) (x := (.tmp 64)) (y := (.tmp 65)) (b := b177) (o' := p178) (j := t140) (by kernel_rfl) (by kernel_rfl) (slv (by kernel_rfl) hA179) (by kernel_rfl) (by kernel_rfl) (by kernel_rfl) g175.1 g175.2 ?_
            refine r_load (c := (cd4 [1, 1, 1, 1, 1, 1, 1, 0, 1, 0, 0, 1, 0, 0, 1, 0])) (i := 4) (d := (some 67)) (ty := 24) (t := 24) (x := (.tmp 66)) (p := ⟨b177, p178 + t140.toNat * 49, none⟩) (v := .agg (enc_api_Final (gt t35 t140)).toArray) (by kernel_rfl) (by kernel_rfl) (by kernel_rfl) (loads_agg ((hS174.row 1 rfl).at2 hA179 len_api_Final (by omega) g175.1 g175.2) (by kernel_rfl) (lenK (len_api_Final _) (by kernel_rfl))) ?_
            obtain ⟨⟨t181, t182⟩, hr183, hp184⟩ := bind_some' hp176
            try dsimp only at hp184
            obtain ⟨Z185, hz186, hS187, hs188, hb189⟩ := hS174.lendrow len_api_Final (by omega)
            refine r_call1 (c := (cd4 [1, 1, 1, 1, 1, 1, 1, 0, 1, 0, 0, 1, 0, 0, 1, 0])) (i := 5) (d := (some 68)) (g := 17) (args := #[.slice Q28 t27.length Q29, .agg (enc_api_Final (gt t35 t140)).toArray]) (by kernel_rfl) (by kernel_rfl) (by kernel_rfl) (by kernel_rfl) (weirref10_Find.ok t27 (gt t35 t140) Q28 Q29 hS187 hs188 hr183) ?_
            rintro _ w190 ⟨rfl, hS191⟩
            refine ⟨.tuple #[.int .i64 t181, .bool t182], rfl, ?_⟩
            have hS192 := hb189 _ _ hS191
            refine sx_split 11 (todo' := [.inRegion (opsOf (cd4 [1, 1, 1, 1, 1, 1, 1, 0, 1, 0, 0, 1, 0, 0, 1, 1, 0])) [3, 4, 5, 6, 7], .code (cd4 [1, 1, 1, 1, 1, 1, 1, 0, 1, 0, 0, 1, 0, 0, 1, 1, 1]), .inBlock 1, .code (cd4 [1, 1, 1, 1, 1, 1, 1, 0, 1, 0, 0, 1, 1]), .inLoop (cd4 [1, 1, 1, 1, 1, 1, 1, 0, 1, 0, 0]), .inBlock 0, .code (cd4 [1, 1, 1, 1, 1, 1, 1, 1])]) (us := [(62, .tuple #[.int .i64 t181, .bool t182]), (69, .int .i64 t181), (70, .bool t182), (16, .int .i64 t181), (17, .bool t182), (71, .int .i64 t163), (72, .int .i64 t181)]) (d := 73) (t := (t163 != t181)) (by kernel_rfl) (fun h193 => ?_) (fun h194 => ?_)
            · skip
              have hp195 := ite_t hp184 h193
              refine sx_run 11 (todo' := [.code (cd4 [1, 1, 1, 1, 1, 1, 1, 0, 1, 0, 0, 1, 0, 0, 1, 1, 1, 0, 1]), .inBlock 1, .code (cd4 [1, 1, 1, 1, 1, 1, 1, 0, 1, 0, 0, 1, 1]), .inLoop (cd4 [1, 1, 1, 1, 1, 1, 1, 0, 1, 0, 0]), .inBlock 0, .code (cd4 [1, 1, 1, 1, 1, 1, 1, 1])]) (us := [(74, .bool true), (75, undef), (76, undef), (77, undef), (78, .bool true), (6, .bool false)]) (by kernel_rfl) ?_
              have hS196 := hS192.drop
              have hS197 := hS196.drop
              refine runs_ret (fn := Try.f4) (v := .bool false) Try.func4 (by kernel_rfl) ?_
              have hr198 := (hq150 _ (Option.some.inj hp195))
              cases hr198
              exact hR _ _ ⟨rfl, hS197⟩
            · skip
              have hp199 := ite_f hp184 h194
              refine sx_split 4 (todo' := [.inRegion (opsOf (cd4 [1, 1, 1, 1, 1, 1, 1, 0, 1, 0, 0, 1, 0, 0, 1, 1, 0])) [7], .code (cd4 [1, 1, 1, 1, 1, 1, 1, 0, 1, 0, 0, 1, 0, 0, 1, 1, 1]), .inBlock 1, .code (cd4 [1, 1, 1, 1, 1, 1, 1, 0, 1, 0, 0, 1, 1]), .inLoop (cd4 [1, 1, 1, 1, 1, 1, 1, 0, 1, 0, 0]), .inBlock 0, .code (cd4 [1, 1, 1, 1, 1, 1, 1, 1])]) (us := [(74, .bool false), (75, .bool t164), (76, .bool t182)]) (d := 77) (t := (!(t164 == t182))) (by kernel_rfl) (fun h200 => ?_) (fun h201 => ?_)
              · skip
                have hp202 := ite_t hp199 h200
                refine sx_run 7 (todo' := [.code (cd4 [1, 1, 1, 1, 1, 1, 1, 0, 1, 0, 0, 1, 0, 0, 1, 1, 1, 0, 1]), .inBlock 1, .code (cd4 [1, 1, 1, 1, 1, 1, 1, 0, 1, 0, 0, 1, 1]), .inLoop (cd4 [1, 1, 1, 1, 1, 1, 1, 0, 1, 0, 0]), .inBlock 0, .code (cd4 [1, 1, 1, 1, 1, 1, 1, 1])]) (us := [(78, .bool true), (6, .bool false)]) (by kernel_rfl) ?_
                have hS203 := hS192.drop
                have hS204 := hS203.drop
                refine runs_ret (fn := Try.f4) (v := .bool false) Try.func4 (by kernel_rfl) ?_
                have hr205 := (hq150 _ (Option.some.inj hp202))
                cases hr205
                exact hR _ _ ⟨rfl, hS204⟩
              · skip
                have hp206 := ite_f hp199 h201
                refine sx_run 10 (todo' := [.inLoop (cd4 [1, 1, 1, 1, 1, 1, 1, 0, 1, 0, 0]), .inBlock 0, .code (cd4 [1, 1, 1, 1, 1, 1, 1, 1])]) (us := [(78, .bool false), (51, .int .i64 t140), (52, .int .i64 (IntKind.i64.wrap (t140 + 1))), (13, .int .i64 (IntKind.i64.wrap (t140 + 1)))]) (by kernel_rfl) ?_
                refine sx_run 1 (todo' := [.code (cd4 [1, 1, 1, 1, 1, 1, 1, 0, 1, 0, 0]), .inLoop (cd4 [1, 1, 1, 1, 1, 1, 1, 0, 1, 0, 0]), .inBlock 0, .code (cd4 [1, 1, 1, 1, 1, 1, 1, 1])]) (us := []) (by kernel_rfl) ?_
                refine Runs.fill (m := [none, none, none, none, none, none, none, some (.slice Q28 t27.length Q29), some (.slice Q36 t35.length Q37), some (.int .i64 t51), some (.bool t52), some (.int .i64 t80), some (.bool t81), some (.int .i64 (IntKind.i64.wrap (t140 + 1))), none, none, none, none, none, none, none, none, none, none, none, none, none, none, none, none, none, none, none, none, none, none, none, none, none, none, none, none, none, none, none, none, none, none, none, none, none, none, none, none, none, none, none, none, none, none, none, none, none, none, none, none, none, none, none, none, none, none, none, none, none, none, none, none, none, none, none, none, none, none, none, none, none, none, none, none, none, none]) (by kernel_rfl) ?_
                exact ih147 (IntKind.i64.wrap (t140 + 1)) _ hp206 he145 _ _ hS192
          · skip
            have hp207 := ite_f hp153 h155
            refine sx_run 4 (todo' := [.code (cd4 [1, 1, 1, 1, 1, 1, 1, 1])]) (us := [(50, .bool false)]) (by kernel_rfl) ?_
            refine Runs.fill (m := [none, none, none, none, none, none, none, some (.slice Q28 t27.length Q29), some (.slice Q36 t35.length Q37), some (.int .i64 t51), some (.bool t52), some (.int .i64 t80), some (.bool t81), none, none, none, none, none, none, none, none, none, none, none, none, none, none, none, none, none, none, none, none, none, none, none, none, none, none, none, none, none, none, none, none, none, none, none, none, none, none, none, none, none, none, none, none, none, none, none, none, none, none, none, none, none, none, none, none, none, none, none, none, none, none, none, none, none, none, none, none, none, none, none, none, none, none, none, none, none, none, none]) (by kernel_rfl) ?_
            exact J103 ((Option.some.inj hp207).trans he145) _ _ hS142
        · skip
          have hp208 := ite_f hb146 h152
          refine sx_run 7 (todo' := [.code (cd4 [1, 1, 1, 1, 1, 1, 1, 1])]) (us := [(47, .bool false), (48, undef), (49, undef), (50, .bool false)]) (by kernel_rfl) ?_
          refine Runs.fill (m := [none, none, none, none, none, none, none, some (.slice Q28 t27.length Q29), some (.slice Q36 t35.length Q37), some (.int .i64 t51), some (.bool t52), some (.int .i64 t80), some (.bool t81), none, none, none, none, none, none, none, none, none, none, none, none, none, none, none, none, none, none, none, none, none, none, none, none, none, none, none, none, none, none, none, none, none, none, none, none, none, none, none, none, none, none, none, none, none, none, none, none, none, none, none, none, none, none, none, none, none, none, none, none, none, none, none, none, none, none, none, none, none, none, none, none, none, none, none, none, none, none, none]) (by kernel_rfl) ?_
          exact J103 ((Option.some.inj hp208).trans he145) _ _ hS142
      refine Runs.fill (m := [none, none, none, none, none, none, none, some (.slice Q28 t27.length Q29), some (.slice Q36 t35.length Q37), some (.int .i64 t51), some (.bool t52), some (.int .i64 t80), some (.bool t81), some (.int .i64 0), none, none, none, none, none, none, none, none, none, none, none, none, none, none, none, none, none, none, none, none, none, none, none, none, none, none, none, none, none, none, none, none, none, none, none, none, none, none, none, none, none, none, none, none, none, none, none, none, none, none, none, none, none, none, none, none, none, none, none, none, none, none, none, none, none, none, none, none, none, none, none, none, none, none, none, none, none, none]) (by kernel_rfl) ?_
      exact L149 0 _ hv98 rfl _ _ hS96

end
end Go.Proofs.Yteppciglfdiljaa.K
