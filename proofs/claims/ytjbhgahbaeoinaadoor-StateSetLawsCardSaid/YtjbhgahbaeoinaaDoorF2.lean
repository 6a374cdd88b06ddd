/- The walk, part 2: each Go function as a plain Lean function, and that its call answers as that function says. No condition. -/
import Derived.Test.YtjbhgahbaeoinaaDoorE
import Derived.Test.YtjbhgahbaeoinaaDoorNS
import Derived.Test.YtjbhgahbaeoinaaDoorLS
import Derived.Test.YtjbhgahbaeoinaaDoorNG
import Derived.Test.YtjbhgahbaeoinaaDoorNV
import Derived.Test.YtjbhgahbaeoinaaDoorNB
import Derived.Test.YtjbhgahbaeoinaaDoorF1
set_option linter.unusedVariables false
set_option linter.unusedSimpArgs false
set_option maxRecDepth 100000
namespace Go.Proofs.YtjbhgahbaeoinaaDoor.K
open Go Go.RowKit
noncomputable section
noncomputable def cd31 (p : List Nat) : Code := sub (bodyOf Tryd.f31) p
def state_walk.l0 (t38 : List api_Final) (t43 : List api_Final) (t48 : List api_Final) : Option (List api_Final) :=
  (((if (decide ((t38.length : Int) > 0)) = true then some (.inl ()) else (if (decide ((t43.length : Int) > 0)) = true then some (.inl ()) else some (.inr (t48)))) : Option (Sum Unit (List api_Final))) >>= (fun | .inl () => (((if ((t38.length : Int) == 0) = true then some (1) else (if (decide ((t43.length : Int) > 0)) = true then (if 0 ≤ (0 : Int) ∧ (0 : Int) < (t38.length : Int) then (if 0 ≤ (0 : Int) ∧ (0 : Int) < (t43.length : Int) then (state_Compare.f (gt t38 (0 : Int)) (gt t43 (0 : Int)) >>= (fun t284 => some (t284))) else none) else none) else some ((-1)))) : Option Int) >>= (fun t73 => (((if (decide (t73 ≤ 0)) = true then (if 0 ≤ (0 : Int) ∧ (0 : Int) < (t38.length : Int) then (if 0 ≤ (1 : Int) ∧ (1 : Int) ≤ (t38.length : Int) then some ((((t38.take t38.length).drop ((1 : Int).toNat)), (gt t38 (0 : Int)))) else none) else none) else some ((t38, (⟨0, (Vector.replicate 48 0)⟩ : api_Final)))) : Option ((List api_Final) × api_Final)) >>= (fun (t86, t91) => (((if (decide (t73 ≥ 0)) = true then (if 0 ≤ (0 : Int) ∧ (0 : Int) < (t43.length : Int) then (if 0 ≤ (1 : Int) ∧ (1 : Int) ≤ (t43.length : Int) then some ((((t43.take t43.length).drop ((1 : Int).toNat)), (gt t43 (0 : Int)))) else none) else none) else some ((t43, t91))) : Option ((List api_Final) × api_Final)) >>= (fun (t100, t105) => (if (decide (t73 ≤ 0)) = true then (if (decide (t73 ≥ 0)) = true then (state_Union_1.f true true >>= (fun t117 => (if t117 = true then (if (t48.length + ([t105] : List api_Final).length) * 392 ≤ 140737488355328 then (state_walk.l0 t86 t100 (t48 ++ ([t105] : List api_Final))) else none) else (state_walk.l0 t86 t100 t48)))) else (state_Union_1.f true false >>= (fun t143 => (if t143 = true then (if (t48.length + ([t105] : List api_Final).length) * 392 ≤ 140737488355328 then (state_walk.l0 t86 t100 (t48 ++ ([t105] : List api_Final))) else none) else (state_walk.l0 t86 t100 t48))))) else (if (decide (t73 ≥ 0)) = true then (state_Union_1.f false true >>= (fun t172 => (if t172 = true then (if (t48.length + ([t105] : List api_Final).length) * 392 ≤ 140737488355328 then (state_walk.l0 t86 t100 (t48 ++ ([t105] : List api_Final))) else none) else (state_walk.l0 t86 t100 t48)))) else (state_Union_1.f false false >>= (fun t198 => (if t198 = true then (if (t48.length + ([t105] : List api_Final).length) * 392 ≤ 140737488355328 then (state_walk.l0 t86 t100 (t48 ++ ([t105] : List api_Final))) else none) else (state_walk.l0 t86 t100 t48)))))))))))) | .inr e => some e))
 partial_fixpoint
def state_walk.f (a0 : List api_Final) (a1 : List api_Final) : Option ((List api_Final) × Int) :=
  (state_Rises.f a0 >>= (fun t1 => (if (!t1) = true then some (([], 100)) else (state_Rises.f a1 >>= (fun t13 => (if (!t13) = true then some (([], 100)) else (state_walk.l0 a0 a1 [] >>= (fun t28 => some ((t28, 0))))))))))
set_option maxHeartbeats 16000000 in
theorem state_walk.ok (a0 : List api_Final) (a1 : List api_Final) (Aa0 : Option Addr) (ca0 : Nat) (Aa1 : Option Addr) (ca1 : Nat) {w0 : World} {Z : Zm} {fs : List XObj} {w : World} (hS0 : St w0 Z (fs) w) (ha0 : SlZ (flat enc_api_Final) 49 Z Aa0 ca0 a0) (ha1 : SlZ (flat enc_api_Final) 49 Z Aa1 ca1 a1) {q0 : List api_Final} {q1 : Int} (hp0 : state_walk.f a0 a1 = some (q0, q1)) :
    Calls Tryd.prog 31 #[.slice Aa0 a0.length ca0, .slice Aa1 a1.length ca1, .func (.func 32) #[] #[]] w (fun e w' => ∃ (QA0 : Option Addr) (Qc0 : Nat), e = .returned (.tuple #[.slice QA0 q0.length Qc0, .int .i64 q1]) ∧ St w0 Z (xrow QA0 Qc0 24 49 (q0.flatMap enc_api_Final) :: fs) w') := by
  refine calls_abs ?_; intro R hR
  unfold state_walk.f at hp0
  refine calls_of_runs (fn := Tryd.f31) (c := cd31 []) Tryd.func31 (by kernel_rfl) (al := [.slice Aa0 a0.length ca0, .slice Aa1 a1.length ca1, .func (.func 32) #[] #[]]) rfl (n := 64) rfl ?_
  refine sx_run 9 (todo' := [.inRegion (opsOf (cd31 [1, 0, 0])) [1, 2, 3, 4, 5, 6, 7], .code (cd31 [1, 0, 1]), .code (cd31 [1, 1])]) (us := [(6, .slice none 0 0), (7, .int .i64 0), (11, .slice Aa0 a0.length ca0)]) (by kernel_rfl) ?_
  obtain ⟨t1, hr2, hp3⟩ := bind_some' hp0
  refine r_call1 (c := (cd31 [1, 0, 0])) (i := 1) (d := (some 12)) (g := 13) (args := #[.slice Aa0 a0.length ca0]) (by kernel_rfl) (by kernel_rfl) (by kernel_rfl) (by kernel_rfl) (state_Rises.ok a0 Aa0 ca0 hS0 ha0 hr2) ?_
  rintro _ w4 ⟨rfl, hS5⟩
  refine ⟨.bool t1, rfl, ?_⟩
  refine sx_split 1 (todo' := [.inRegion (opsOf (cd31 [1, 0, 0])) [3, 4, 5, 6, 7], .code (cd31 [1, 0, 1]), .code (cd31 [1, 1])]) (us := []) (d := 13) (t := (!t1)) (by kernel_rfl) (fun h6 => ?_) (fun h7 => ?_)
  ·skip
   have hp8 := ite_t hp3 h6
   refine sx_run 12 (todo' := [.code (cd31 [1, 0, 1, 0, 1]), .code (cd31 [1, 1])]) (us := [(14, .bool true), (15, undef), (16, undef), (17, undef), (18, .bool true), (6, .slice none 0 0), (7, .int .i64 100)]) (by kernel_rfl) ?_
   have hS10 := hS5.nilrow none 24 49
   refine runs_ret (fn := Tryd.f31) (v := .tuple #[.slice none 0 0, .int .i64 100]) Tryd.func31 (by kernel_rfl) ?_
   have hr11 := (Option.some.inj hp8)
   cases hr11
   exact hR _ _ ⟨none, 0, rfl, hS10⟩
  ·skip
   have hp12 := ite_f hp3 h7
   refine sx_run 2 (todo' := [.inRegion (opsOf (cd31 [1, 0, 0])) [5, 6, 7], .code (cd31 [1, 0, 1]), .code (cd31 [1, 1])]) (us := [(14, .bool false), (15, .slice Aa1 a1.length ca1)]) (by kernel_rfl) ?_
   obtain ⟨t13, hr14, hp15⟩ := bind_some' hp12
   refine r_call1 (c := (cd31 [1, 0, 0])) (i := 5) (d := (some 16)) (g := 13) (args := #[.slice Aa1 a1.length ca1]) (by kernel_rfl) (by kernel_rfl) (by kernel_rfl) (by kernel_rfl) (state_Rises.ok a1 Aa1 ca1 hS5 ha1 hr14) ?_
   rintro _ w16 ⟨rfl, hS17⟩
   refine ⟨.bool t13, rfl, ?_⟩
   refine sx_split 1 (todo' := [.inRegion (opsOf (cd31 [1, 0, 0])) [7], .code (cd31 [1, 0, 1]), .code (cd31 [1, 1])]) (us := []) (d := 17) (t := (!t13)) (by kernel_rfl) (fun h18 => ?_) (fun h19 => ?_)
   ·skip
    have hp20 := ite_t hp15 h18
    refine sx_run 8 (todo' := [.code (cd31 [1, 0, 1, 0, 1]), .code (cd31 [1, 1])]) (us := [(18, .bool true), (6, .slice none 0 0), (7, .int .i64 100)]) (by kernel_rfl) ?_
    have hS22 := hS17.nilrow none 24 49
    refine runs_ret (fn := Tryd.f31) (v := .tuple #[.slice none 0 0, .int .i64 100]) Tryd.func31 (by kernel_rfl) ?_
    have hr23 := (Option.some.inj hp20)
    cases hr23
    exact hR _ _ ⟨none, 0, rfl, hS22⟩
   ·skip
    have hp24 := ite_f hp15 h19
    refine sx_run 11 (todo' := [.code (cd31 [1, 1, 1, 0, 0, 0]), .inLoop (cd31 [1, 1, 1, 0, 0, 0]), .inBlock 0, .code (cd31 [1, 1, 1, 1])]) (us := [(18, .bool false), (8, .slice none 0 0)]) (by kernel_rfl) ?_
    obtain ⟨v25, hv26, hp27⟩ := bind_some' hp24
    have J34 : ∀ (t28 : List api_Final) (he36 : t28 = v25) (l35 : List Value) (A29 : Option Addr) (c30 : Nat) (w32 : World) (hS33 : St w0 Z (xrow A29 c30 24 49 (t28.flatMap enc_api_Final) :: fs) w32), Runs Tryd.prog 31 [.code (cd31 [1, 1, 1, 1])] (fill [none, none, none, none, none, none, none, none, some (.slice A29 t28.length c30), none, none, none, none, none, none, none, none, none, none, none, none, none, none, none, none, none, none, none, none, none, none, none, none, none, none, none, none, none, none, none, none, none, none, none, none, none, none, none, none, none, none, none, none, none, none, none, none, none, none, none, none, none, none, none, none, none, none] l35) w32 R := by
     intro t28 he36 l35 A29 c30 w32 hS33
     subst he36
     try dsimp only at hp27
     refine sx_run 6 (todo' := [.code (cd31 [1, 1, 1, 1, 1])]) (us := [(66, .slice A29 t28.length c30), (6, .slice A29 t28.length c30), (7, .int .i64 0)]) (by kernel_rfl) ?_
     refine runs_ret (fn := Tryd.f31) (v := .tuple #[.slice A29 t28.length c30, .int .i64 0]) Tryd.func31 (by kernel_rfl) ?_
     have hr37 := (Option.some.inj hp27)
     cases hr37
     exact hR _ _ ⟨A29, c30, rfl, hS33⟩
    have L60 : ∀ (t38 : List api_Final) (t43 : List api_Final) (t48 : List api_Final) (e55 : (List api_Final)), state_walk.l0 t38 t43 t48 = some e55 → e55 = v25 → ∀ (l54 : List Value) (A39 : Option Addr) (c40 : Nat) (A44 : Option Addr) (c45 : Nat) (A49 : Option Addr) (c50 : Nat) (w52 : World) (hS53 : St w0 Z (xrow A49 c50 24 49 (t48.flatMap enc_api_Final) :: fs) w52) (hs42 : SlZ (flat enc_api_Final) 49 Z A39 c40 t38) (hs47 : SlZ (flat enc_api_Final) 49 Z A44 c45 t43), Runs Tryd.prog 31 [.code (cd31 [1, 1, 1, 0, 0, 0]), .inLoop (cd31 [1, 1, 1, 0, 0, 0]), .inBlock 0, .code (cd31 [1, 1, 1, 1])] (fill [some (.slice A39 t38.length c40), some (.slice A44 t43.length c45), some (.func (.func 32) #[] #[]), none, none, none, none, none, some (.slice A49 t48.length c50), none, none, none, none, none, none, none, none, none, none, none, none, none, none, none, none, none, none, none, none, none, none, none, none, none, none, none, none, none, none, none, none, none, none, none, none, none, none, none, none, none, none, none, none, none, none, none, none, none, none, none, none, none, none, none, none, none, none] l54) w52 R := by
     refine state_walk.l0.partial_correctness (fun t38 t43 t48 e55 => e55 = v25 → ∀ (l54 : List Value) (A39 : Option Addr) (c40 : Nat) (A44 : Option Addr) (c45 : Nat) (A49 : Option Addr) (c50 : Nat) (w52 : World) (hS53 : St w0 Z (xrow A49 c50 24 49 (t48.flatMap enc_api_Final) :: fs) w52) (hs42 : SlZ (flat enc_api_Final) 49 Z A39 c40 t38) (hs47 : SlZ (flat enc_api_Final) 49 Z A44 c45 t43), Runs Tryd.prog 31 [.code (cd31 [1, 1, 1, 0, 0, 0]), .inLoop (cd31 [1, 1, 1, 0, 0, 0]), .inBlock 0, .code (cd31 [1, 1, 1, 1])] (fill [some (.slice A39 t38.length c40), some (.slice A44 t43.length c45), some (.func (.func 32) #[] #[]), none, none, none, none, none, some (.slice A49 t48.length c50), none, none, none, none, none, none, none, none, none, none, none, none, none, none, none, none, none, none, none, none, none, none, none, none, none, none, none, none, none, none, none, none, none, none, none, none, none, none, none, none, none, none, none, none, none, none, none, none, none, none, none, none, none, none, none, none, none, none] l54) w52 R) ?_
     intro rec59 ih58 t38 t43 t48 e55 hb57 he56 l54 A39 c40 A44 c45 A49 c50 w52 hS53 hs42 hs47
     obtain ⟨v61, hv62, hp63⟩ := bind_some' hb57
     have hq66 : ∀ x, Sum.inr x = v61 → x = e55 := by intro x hx; subst hx; simpa using hp63
     have J67 : ∀ (he69 : Sum.inl () = v61) (l68 : List Value) (w64 : World) (hS65 : St w0 Z (xrow A49 c50 24 49 (t48.flatMap enc_api_Final) :: fs) w64), Runs Tryd.prog 31 [.code (cd31 [1, 1, 1, 0, 0, 0, 1]), .inLoop (cd31 [1, 1, 1, 0, 0, 0]), .inBlock 0, .code (cd31 [1, 1, 1, 1])] (fill [some (.slice A39 t38.length c40), some (.slice A44 t43.length c45), some (.func (.func 32) #[] #[]), none, none, none, none, none, some (.slice A49 t48.length c50), none, none, none, none, none, none, none, none, none, none, none, none, none, none, none, none, none, none, none, none, none, none, none, none, none, none, none, none, none, none, none, none, none, none, none, none, none, none, none, none, none, none, none, none, none, none, none, none, none, none, none, none, none, none, none, none, none, none] l68) w64 R := by
      intro he69 l68 w64 hS65
      subst he69
      try dsimp only at hp63
      obtain ⟨v70, hv71, hp72⟩ := bind_some' hp63
      have J76 : ∀ (t73 : Int) (he78 : t73 = v70) (l77 : List Value) (w74 : World) (hS75 : St w0 Z (xrow A49 c50 24 49 (t48.flatMap enc_api_Final) :: fs) w74), Runs Tryd.prog 31 [.code (cd31 [1, 1, 1, 0, 0, 0, 1, 0, 1, 1]), .inBlock 1, .inLoop (cd31 [1, 1, 1, 0, 0, 0]), .inBlock 0, .code (cd31 [1, 1, 1, 1])] (fill [some (.slice A39 t38.length c40), some (.slice A44 t43.length c45), some (.func (.func 32) #[] #[]), none, none, none, none, none, some (.slice A49 t48.length c50), some (.int .i64 t73), none, none, none, none, none, none, none, none, none, none, none, none, none, none, none, none, none, none, none, none, none, none, none, none, none, none, none, none, none, none, none, none, none, none, none, none, none, none, none, none, none, none, none, none, none, none, none, none, none, none, none, none, none, none, none, none, none] l77) w74 R := by
       intro t73 he78 l77 w74 hS75
       subst he78
       try dsimp only at hp72
       refine sx_run 2 (todo' := [.inRegion (opsOf (cd31 [1, 1, 1, 0, 0, 0, 1, 0, 1, 1, 0])) [0], .code (cd31 [1, 1, 1, 0, 0, 0, 1, 0, 1, 1, 1]), .inBlock 1, .inLoop (cd31 [1, 1, 1, 0, 0, 0]), .inBlock 0, .code (cd31 [1, 1, 1, 1])]) (us := []) (by kernel_rfl) ?_
       refine r_alloc (c := (cd31 [1, 1, 1, 0, 0, 0, 1, 0, 1, 1, 0])) (i := 0) (d := (some 10)) (ty := 0) (z := .agg (enc_api_Final (⟨0, (Vector.replicate 48 0)⟩ : api_Final)).toArray) (t := 24) (cs := enc_api_Final (⟨0, (Vector.replicate 48 0)⟩ : api_Final)) hS75 (by kernel_rfl) (by kernel_rfl) (by kernel_rfl) (by kernel_rfl) ?_
       intro b79 w80 hS81
       obtain ⟨v83, hv84, hp85⟩ := bind_some' hp72
       have J94 : ∀ (t86 : List api_Final) (t91 : api_Final) (he96 : (t86, t91) = v83) (l95 : List Value) (A87 : Option Addr) (c88 : Nat) (w92 : World) (hS93 : St w0 Z (xrow A49 c50 24 49 (t48.flatMap enc_api_Final) :: xblk b79 24 (enc_api_Final t91) :: fs) w92) (hs90 : SlZ (flat enc_api_Final) 49 Z A87 c88 t86), Runs Tryd.prog 31 [.code (cd31 [1, 1, 1, 0, 0, 0, 1, 0, 1, 1, 1, 1]), .inBlock 1, .inLoop (cd31 [1, 1, 1, 0, 0, 0]), .inBlock 0, .code (cd31 [1, 1, 1, 1])] (fill [some (.slice A87 t86.length c88), some (.slice A44 t43.length c45), some (.func (.func 32) #[] #[]), none, none, none, none, none, some (.slice A49 t48.length c50), some (.int .i64 t73), some (.pointer (some ⟨b79, 0, none⟩)), none, none, none, none, none, none, none, none, none, none, none, none, none, none, none, none, none, none, none, none, none, none, none, none, none, none, none, none, none, none, none, none, none, none, none, none, none, none, none, none, none, none, none, none, none, none, none, none, none, none, none, none, none, none, none, none] l95) w92 R := by
        intro t86 t91 he96 l95 A87 c88 w92 hS93 hs90
        subst he96
        try dsimp only at hp85
        obtain ⟨v97, hv98, hp99⟩ := bind_some' hp85
        have J108 : ∀ (t100 : List api_Final) (t105 : api_Final) (he110 : (t100, t105) = v97) (l109 : List Value) (A101 : Option Addr) (c102 : Nat) (w106 : World) (hS107 : St w0 Z (xrow A49 c50 24 49 (t48.flatMap enc_api_Final) :: xblk b79 24 (enc_api_Final t105) :: fs) w106) (hs104 : SlZ (flat enc_api_Final) 49 Z A101 c102 t100), Runs Tryd.prog 31 [.code (cd31 [1, 1, 1, 0, 0, 0, 1, 0, 1, 1, 1, 1, 1]), .inBlock 1, .inLoop (cd31 [1, 1, 1, 0, 0, 0]), .inBlock 0, .code (cd31 [1, 1, 1, 1])] (fill [some (.slice A87 t86.length c88), some (.slice A101 t100.length c102), some (.func (.func 32) #[] #[]), none, none, none, none, none, some (.slice A49 t48.length c50), some (.int .i64 t73), some (.pointer (some ⟨b79, 0, none⟩)), none, none, none, none, none, none, none, none, none, none, none, none, none, none, none, none, none, none, none, none, none, none, none, none, none, none, none, none, none, none, none, none, none, none, none, none, none, none, none, none, none, none, none, none, none, none, none, none, none, none, none, none, none, none, none, none] l109) w106 R := by
         intro t100 t105 he110 l109 A101 c102 w106 hS107 hs104
         subst he110
         try dsimp only at hp99
         refine sx_split 5 (todo' := [.inRegion (opsOf (cd31 [1, 1, 1, 0, 0, 0, 1, 0, 1, 1, 1, 1, 1, 0])) [3, 4, 5], .code (cd31 [1, 1, 1, 0, 0, 0, 1, 0, 1, 1, 1, 1, 1, 1]), .inBlock 1, .inLoop (cd31 [1, 1, 1, 0, 0, 0]), .inBlock 0, .code (cd31 [1, 1, 1, 1])]) (us := [(56, .func (.func 32) #[] #[]), (57, .int .i64 t73)]) (d := 58) (t := (decide (t73 ≤ 0))) (by kernel_rfl) (fun h111 => ?_) (fun h112 => ?_)
         ·skip
          have hp113 := ite_t hp99 h111
          refine sx_split 2 (todo' := [.inRegion (opsOf (cd31 [1, 1, 1, 0, 0, 0, 1, 0, 1, 1, 1, 1, 1, 0])) [5], .code (cd31 [1, 1, 1, 0, 0, 0, 1, 0, 1, 1, 1, 1, 1, 1]), .inBlock 1, .inLoop (cd31 [1, 1, 1, 0, 0, 0]), .inBlock 0, .code (cd31 [1, 1, 1, 1])]) (us := [(59, .int .i64 t73)]) (d := 60) (t := (decide (t73 ≥ 0))) (by kernel_rfl) (fun h114 => ?_) (fun h115 => ?_)
          ·skip
           have hp116 := ite_t hp113 h114
           obtain ⟨t117, hr118, hp119⟩ := bind_some' hp116
           refine r_call1 (c := (cd31 [1, 1, 1, 0, 0, 0, 1, 0, 1, 1, 1, 1, 1, 0])) (i := 5) (d := (some 61)) (g := 32) (args := #[.bool true, .bool true]) (by kernel_rfl) (by kernel_rfl) (by kernel_rfl) (by kernel_rfl) (state_Union_1.ok true true hS107 hr118) ?_
           rintro _ w120 ⟨rfl, hS121⟩
           refine ⟨.bool t117, rfl, ?_⟩
           refine sx_run 1 (todo' := [.code (cd31 [1, 1, 1, 0, 0, 0, 1, 0, 1, 1, 1, 1, 1, 1]), .inBlock 1, .inLoop (cd31 [1, 1, 1, 0, 0, 0]), .inBlock 0, .code (cd31 [1, 1, 1, 1])]) (us := []) (by kernel_rfl) ?_
           cases t117
           ·skip
            have hp122 := ite_f hp119 rfl
            refine sx_run 3 (todo' := [.inLoop (cd31 [1, 1, 1, 0, 0, 0]), .inBlock 0, .code (cd31 [1, 1, 1, 1])]) (us := []) (by kernel_rfl) ?_
            have hS123 := hS121.pick1
            have hS124 := hS123.drop
            refine sx_run 1 (todo' := [.code (cd31 [1, 1, 1, 0, 0, 0]), .inLoop (cd31 [1, 1, 1, 0, 0, 0]), .inBlock 0, .code (cd31 [1, 1, 1, 1])]) (us := []) (by kernel_rfl) ?_
            refine Runs.fill (m := [some (.slice A87 t86.length c88), some (.slice A101 t100.length c102), some (.func (.func 32) #[] #[]), none, none, none, none, none, some (.slice A49 t48.length c50), none, none, none, none, none, none, none, none, none, none, none, none, none, none, none, none, none, none, none, none, none, none, none, none, none, none, none, none, none, none, none, none, none, none, none, none, none, none, none, none, none, none, none, none, none, none, none, none, none, none, none, none, none, none, none, none, none, none]) (by kernel_rfl) ?_
            exact ih58 t86 t100 t48 _ hp122 he56 _ A87 c88 A101 c102 A49 c50 _ hS124 hs90 hs104
           ·skip
            have hp125 := ite_t hp119 rfl
            refine sx_run 3 (todo' := [.inRegion (opsOf (cd31 [1, 1, 1, 0, 0, 0, 1, 0, 1, 1, 1, 1, 1, 1, 0])) [1, 2, 3, 4], .inBlock 1, .inLoop (cd31 [1, 1, 1, 0, 0, 0]), .inBlock 0, .code (cd31 [1, 1, 1, 1])]) (us := [(62, .slice A49 t48.length c50)]) (by kernel_rfl) ?_
            refine r_load (c := (cd31 [1, 1, 1, 0, 0, 0, 1, 0, 1, 1, 1, 1, 1, 1, 0])) (i := 1) (d := (some 63)) (ty := 24) (t := 24) (x := (.tmp 10)) (p := ⟨b79, 0, none⟩) (v := .agg (enc_api_Final t105).toArray) (by kernel_rfl) (by kernel_rfl) (by kernel_rfl) (loads_agg (hS121.blk 1 rfl) (by kernel_rfl) (lenK (len_api_Final _) (by kernel_rfl))) ?_
            refine r_lit (c := (cd31 [1, 1, 1, 0, 0, 0, 1, 0, 1, 1, 1, 1, 1, 1, 0])) (i := 2) (d := (some 64)) (ty := 28) (t := 28) (e := 24) (sz := 49) (n := 1) (parts := #[(0, (.tmp 63))]) (vs := [(0, .agg (enc_api_Final t105).toArray)]) (z := zeroOf Tryd.prog 24) (cs' := ([t105] : List api_Final).flatMap enc_api_Final) hS121 (by kernel_rfl) (by kernel_rfl) (by kernel_rfl) (by kernel_rfl) (by kernel_rfl) (by decide) (by decide) (by kernel_rfl) rfl (Parts.cons (c := enc_api_Final t105) (by kernel_rfl) (len_api_Final _) Parts.nil) rfl ?_
            intro b127 w128 hS129
            have hS130 := hS129.pick1
            obtain ⟨g131, hp132⟩ := ite_some hp125
            refine r_append (c := (cd31 [1, 1, 1, 0, 0, 0, 1, 0, 1, 1, 1, 1, 1, 1, 0])) (i := 3) (d := (some 65)) (ty := 28) (enc := enc_api_Final) (e := 24) (u := 24) (t := 28) (t2 := 28) (sz := 49) (cp := c50) (A := A49) (bytes := 392) (xs := t48) (ys := ([t105] : List api_Final)) (s := (.tmp 62)) (x := (.tmp 64)) (xv := .slice (some ⟨b127, 0, none⟩) ([t105] : List api_Final).length 1) (info := infoOf Tryd.prog 24) (z := zeroOf Tryd.prog 24) (ycs := ([t105] : List api_Final).flatMap enc_api_Final) hS130 (by kernel_rfl) (by kernel_rfl) (by kernel_rfl) (by kernel_rfl) (by kernel_rfl) (.inl (by kernel_rfl)) (by kernel_rfl) (by kernel_rfl) (by kernel_rfl) (by kernel_rfl) (by kernel_rfl) (by omega) len_api_Final one_api_Final (src_row (hS130.row 1 rfl) (by omega) len_api_Final) rfl g131 (by omega) ?_
            intro A133 c134 w135 hS136
            refine sx_run 3 (todo' := [.inLoop (cd31 [1, 1, 1, 0, 0, 0]), .inBlock 0, .code (cd31 [1, 1, 1, 1])]) (us := [(8, .slice A133 (t48 ++ ([t105] : List api_Final)).length c134)]) (by kernel_rfl) ?_
            have hS138 := hS136.pick1
            have hS139 := hS138.drop
            have hS140 := hS139.pick1
            have hS141 := hS140.drop
            refine sx_run 1 (todo' := [.code (cd31 [1, 1, 1, 0, 0, 0]), .inLoop (cd31 [1, 1, 1, 0, 0, 0]), .inBlock 0, .code (cd31 [1, 1, 1, 1])]) (us := []) (by kernel_rfl) ?_
            refine Runs.fill (m := [some (.slice A87 t86.length c88), some (.slice A101 t100.length c102), some (.func (.func 32) #[] #[]), none, none, none, none, none, some (.slice A133 (t48 ++ ([t105] : List api_Final)).length c134), none, none, none, none, none, none, none, none, none, none, none, none, none, none, none, none, none, none, none, none, none, none, none, none, none, none, none, none, none, none, none, none, none, none, none, none, none, none, none, none, none, none, none, none, none, none, none, none, none, none, none, none, none, none, none, none, none, none]) (by kernel_rfl) ?_
            exact ih58 t86 t100 (t48 ++ ([t105] : List api_Final)) _ hp132 he56 _ A87 c88 A101 c102 A133 c134 _ hS141 hs90 hs104
          ·skip
           have hp142 := ite_f hp113 h115
           obtain ⟨t143, hr144, hp145⟩ := bind_some' hp142
           refine r_call1 (c := (cd31 [1, 1, 1, 0, 0, 0, 1, 0, 1, 1, 1, 1, 1, 0])) (i := 5) (d := (some 61)) (g := 32) (args := #[.bool true, .bool false]) (by kernel_rfl) (by kernel_rfl) (by kernel_rfl) (by kernel_rfl) (state_Union_1.ok true false hS107 hr144) ?_
           rintro _ w146 ⟨rfl, hS147⟩
           refine ⟨.bool t143, rfl, ?_⟩
           refine sx_run 1 (todo' := [.code (cd31 [1, 1, 1, 0, 0, 0, 1, 0, 1, 1, 1, 1, 1, 1]), .inBlock 1, .inLoop (cd31 [1, 1, 1, 0, 0, 0]), .inBlock 0, .code (cd31 [1, 1, 1, 1])]) (us := []) (by kernel_rfl) ?_
           cases t143
           ·skip
            have hp148 := ite_f hp145 rfl
            refine sx_run 3 (todo' := [.inLoop (cd31 [1, 1, 1, 0, 0, 0]), .inBlock 0, .code (cd31 [1, 1, 1, 1])]) (us := []) (by kernel_rfl) ?_
            have hS149 := hS147.pick1
            have hS150 := hS149.drop
            refine sx_run 1 (todo' := [.code (cd31 [1, 1, 1, 0, 0, 0]), .inLoop (cd31 [1, 1, 1, 0, 0, 0]), .inBlock 0, .code (cd31 [1, 1, 1, 1])]) (us := []) (by kernel_rfl) ?_
            refine Runs.fill (m := [some (.slice A87 t86.length c88), some (.slice A101 t100.length c102), some (.func (.func 32) #[] #[]), none, none, none, none, none, some (.slice A49 t48.length c50), none, none, none, none, none, none, none, none, none, none, none, none, none, none, none, none, none, none, none, none, none, none, none, none, none, none, none, none, none, none, none, none, none, none, none, none, none, none, none, none, none, none, none, none, none, none, none, none, none, none, none, none, none, none, none, none, none, none]) (by kernel_rfl) ?_
            exact ih58 t86 t100 t48 _ hp148 he56 _ A87 c88 A101 c102 A49 c50 _ hS150 hs90 hs104
           ·skip
            have hp151 := ite_t hp145 rfl
            refine sx_run 3 (todo' := [.inRegion (opsOf (cd31 [1, 1, 1, 0, 0, 0, 1, 0, 1, 1, 1, 1, 1, 1, 0])) [1, 2, 3, 4], .inBlock 1, .inLoop (cd31 [1, 1, 1, 0, 0, 0]), .inBlock 0, .code (cd31 [1, 1, 1, 1])]) (us := [(62, .slice A49 t48.length c50)]) (by kernel_rfl) ?_
            refine r_load (c := (cd31 [1, 1, 1, 0, 0, 0, 1, 0, 1, 1, 1, 1, 1, 1, 0])) (i := 1) (d := (some 63)) (ty := 24) (t := 24) (x := (.tmp 10)) (p := ⟨b79, 0, none⟩) (v := .agg (enc_api_Final t105).toArray) (by kernel_rfl) (by kernel_rfl) (by kernel_rfl) (loads_agg (hS147.blk 1 rfl) (by kernel_rfl) (lenK (len_api_Final _) (by kernel_rfl))) ?_
            refine r_lit (c := (cd31 [1, 1, 1, 0, 0, 0, 1, 0, 1, 1, 1, 1, 1, 1, 0])) (i := 2) (d := (some 64)) (ty := 28) (t := 28) (e := 24) (sz := 49) (n := 1) (parts := #[(0, (.tmp 63))]) (vs := [(0, .agg (enc_api_Final t105).toArray)]) (z := zeroOf Tryd.prog 24) (cs' := ([t105] : List api_Final).flatMap enc_api_Final) hS147 (by kernel_rfl) (by kernel_rfl) (by kernel_rfl) (by kernel_rfl) (by kernel_rfl) (by decide) (by decide) (by kernel_rfl) rfl (Parts.cons (c := enc_api_Final t105) (by kernel_rfl) (len_api_Final _) Parts.nil) rfl ?_
            intro b153 w154 hS155
            have hS156 := hS155.pick1
            obtain ⟨g157, hp158⟩ := ite_some hp151
            refine r_append (c := (cd31 [1, 1, 1, 0, 0, 0, 1, 0, 1, 1, 1, 1, 1, 1, 0])) (i := 3) (d := (some 65)) (ty := 28) (enc := enc_api_Final) (e := 24) (u := 24) (t := 28) (t2 := 28) (sz := 49) (cp := c50) (A := A49) (bytes := 392) (xs := t48) (ys := ([t105] : List api_Final)) (s := (.tmp 62)) (x := (.tmp 64)) (xv := .slice (some ⟨b153, 0, none⟩) ([t105] : List api_Final).length 1) (info := infoOf Tryd.prog 24) (z := zeroOf Tryd.prog 24) (ycs := ([t105] : List api_Final).flatMap enc_api_Final) hS156 (by kernel_rfl) (by kernel_rfl) (by kernel_rfl) (by kernel_rfl) (by kernel_rfl) (.inl (by kernel_rfl)) (by kernel_rfl) (by kernel_rfl) (by kernel_rfl) (by kernel_rfl) (by kernel_rfl) (by omega) len_api_Final one_api_Final (src_row (hS156.row 1 rfl) (by omega) len_api_Final) rfl g157 (by omega) ?_
            intro A159 c160 w161 hS162
            refine sx_run 3 (todo' := [.inLoop (cd31 [1, 1, 1, 0, 0, 0]), .inBlock 0, .code (cd31 [1, 1, 1, 1])]) (us := [(8, .slice A159 (t48 ++ ([t105] : List api_Final)).length c160)]) (by kernel_rfl) ?_
            have hS164 := hS162.pick1
            have hS165 := hS164.drop
            have hS166 := hS165.pick1
            have hS167 := hS166.drop
            refine sx_run 1 (todo' := [.code (cd31 [1, 1, 1, 0, 0, 0]), .inLoop (cd31 [1, 1, 1, 0, 0, 0]), .inBlock 0, .code (cd31 [1, 1, 1, 1])]) (us := []) (by kernel_rfl) ?_
            refine Runs.fill (m := [some (.slice A87 t86.length c88), some (.slice A101 t100.length c102), some (.func (.func 32) #[] #[]), none, none, none, none, none, some (.slice A159 (t48 ++ ([t105] : List api_Final)).length c160), none, none, none, none, none, none, none, none, none, none, none, none, none, none, none, none, none, none, none, none, none, none, none, none, none, none, none, none, none, none, none, none, none, none, none, none, none, none, none, none, none, none, none, none, none, none, none, none, none, none, none, none, none, none, none, none, none, none]) (by kernel_rfl) ?_
            exact ih58 t86 t100 (t48 ++ ([t105] : List api_Final)) _ hp158 he56 _ A87 c88 A101 c102 A159 c160 _ hS167 hs90 hs104
         ·skip
          have hp168 := ite_f hp99 h112
          refine sx_split 2 (todo' := [.inRegion (opsOf (cd31 [1, 1, 1, 0, 0, 0, 1, 0, 1, 1, 1, 1, 1, 0])) [5], .code (cd31 [1, 1, 1, 0, 0, 0, 1, 0, 1, 1, 1, 1, 1, 1]), .inBlock 1, .inLoop (cd31 [1, 1, 1, 0, 0, 0]), .inBlock 0, .code (cd31 [1, 1, 1, 1])]) (us := [(59, .int .i64 t73)]) (d := 60) (t := (decide (t73 ≥ 0))) (by kernel_rfl) (fun h169 => ?_) (fun h170 => ?_)
          ·skip
           have hp171 := ite_t hp168 h169
           obtain ⟨t172, hr173, hp174⟩ := bind_some' hp171
           refine r_call1 (c := (cd31 [1, 1, 1, 0, 0, 0, 1, 0, 1, 1, 1, 1, 1, 0])) (i := 5) (d := (some 61)) (g := 32) (args := #[.bool false, .bool true]) (by kernel_rfl) (by kernel_rfl) (by kernel_rfl) (by kernel_rfl) (state_Union_1.ok false true hS107 hr173) ?_
           rintro _ w175 ⟨rfl, hS176⟩
           refine ⟨.bool t172, rfl, ?_⟩
           refine sx_run 1 (todo' := [.code (cd31 [1, 1, 1, 0, 0, 0, 1, 0, 1, 1, 1, 1, 1, 1]), .inBlock 1, .inLoop (cd31 [1, 1, 1, 0, 0, 0]), .inBlock 0, .code (cd31 [1, 1, 1, 1])]) (us := []) (by kernel_rfl) ?_
           cases t172
           ·skip
            have hp177 := ite_f hp174 rfl
            refine sx_run 3 (todo' := [.inLoop (cd31 [1, 1, 1, 0, 0, 0]), .inBlock 0, .code (cd31 [1, 1, 1, 1])]) (us := []) (by kernel_rfl) ?_
            have hS178 := hS176.pick1
            have hS179 := hS178.drop
            refine sx_run 1 (todo' := [.code (cd31 [1, 1, 1, 0, 0, 0]), .inLoop (cd31 [1, 1, 1, 0, 0, 0]), .inBlock 0, .code (cd31 [1, 1, 1, 1])]) (us := []) (by kernel_rfl) ?_
            refine Runs.fill (m := [some (.slice A87 t86.length c88), some (.slice A101 t100.length c102), some (.func (.func 32) #[] #[]), none, none, none, none, none, some (.slice A49 t48.length c50), none, none, none, none, none, none, none, none, none, none, none, none, none, none, none, none, none, none, none, none, none, none, none, none, none, none, none, none, none, none, none, none, none, none, none, none, none, none, none, none, none, none, none, none, none, none, none, none, none, none, none, none, none, none, none, none, none, none]) (by kernel_rfl) ?_
            exact ih58 t86 t100 t48 _ hp177 he56 _ A87 c88 A101 c102 A49 c50 _ hS179 hs90 hs104
           ·skip
            have hp180 := ite_t hp174 rfl
            refine sx_run 3 (todo' := [.inRegion (opsOf (cd31 [1, 1, 1, 0, 0, 0, 1, 0, 1, 1, 1, 1, 1, 1, 0])) [1, 2, 3, 4], .inBlock 1, .inLoop (cd31 [1, 1, 1, 0, 0, 0]), .inBlock 0, .code (cd31 [1, 1, 1, 1])]) (us := [(62, .slice A49 t48.length c50)]) (by kernel_rfl) ?_
            refine r_load (c := (cd31 [1, 1, 1, 0, 0, 0, 1, 0, 1, 1, 1, 1, 1, 1, 0])) (i := 1) (d := (some 63)) (ty := 24) (t := 24) (x := (.tmp 10)) (p := ⟨b79, 0, none⟩) (v := .agg (enc_api_Final t105).toArray) (by kernel_rfl) (by kernel_rfl) (by kernel_rfl) (loads_agg (hS176.blk 1 rfl) (by kernel_rfl) (lenK (len_api_Final _) (by kernel_rfl))) ?_
            refine r_lit (c := (cd31 [1, 1, 1, 0, 0, 0, 1, 0, 1, 1, 1, 1, 1, 1, 0])) (i := 2) (d := (some 64)) (ty := 28) (t := 28) (e := 24) (sz := 49) (n := 1) (parts := #[(0, (.tmp 63))]) (vs := [(0, .agg (enc_api_Final t105).toArray)]) (z := zeroOf Tryd.prog 24) (cs' := ([t105] : List api_Final).flatMap enc_api_Final) hS176 (by kernel_rfl) (by kernel_rfl) (by kernel_rfl) (by kernel_rfl) (by kernel_rfl) (by decide) (by decide) (by kernel_rfl) rfl (Parts.cons (c := enc_api_Final t105) (by kernel_rfl) (len_api_Final _) Parts.nil) rfl ?_
            intro b182 w183 hS184
            have hS185 := hS184.pick1
            obtain ⟨g186, hp187⟩ := ite_some hp180
            refine r_append (c := (cd31 [1, 1, 1, 0, 0, 0, 1, 0, 1, 1, 1, 1, 1, 1, 0])) (i := 3) (d := (some 65)) (ty := 28) (enc := enc_api_Final) (e := 24) (u := 24) (t := 28) (t2 := 28) (sz := 49) (cp := c50) (A := A49) (bytes := 392) (xs := t48) (ys := ([t105] : List api_Final)) (s := (.tmp 62)) (x := (.tmp 64)) (xv := .slice (some ⟨b182, 0, none⟩) ([t105] : List api_Final).length 1) (info := infoOf Tryd.prog 24) (z := zeroOf Tryd.prog 24) (ycs := ([t105] : List api_Final).flatMap enc_api_Final) hS185 (by kernel_rfl) (by kernel_rfl) (by kernel_rfl) (by kernel_rfl) (by kernel_rfl) (.inl (by kernel_rfl)) (by kernel_rfl) (by kernel_rfl) (by kernel_rfl) (by kernel_rfl) (by kernel_rfl) (by omega) len_api_Final one_api_Final (src_row (hS185.row 1 rfl) (by omega) len_api_Final) rfl g186 (by omega) ?_
            intro A188 c189 w190 hS191
            refine sx_run 3 (todo' := [.inLoop (cd31 [1, 1, 1, 0, 0, 0]), .inBlock 0, .code (cd31 [1, 1, 1, 1])]) (us := [(8, .slice A188 (t48 ++ ([t105] : List api_Final)).length c189)]) (by kernel_rfl) ?_
            have hS193 := hS191.pick1
            have hS194 := hS193.drop
            have hS195 := hS194.pick1
            have hS196 := hS195.drop
            refine sx_run 1 (todo' := [.code (cd31 [1, 1, 1, 0, 0, 0]), .inLoop (cd31 [1, 1, 1, 0, 0, 0]), .inBlock 0, .code (cd31 [1, 1, 1, 1])]) (us := []) (by kernel_rfl) ?_
            refine Runs.fill (m := [some (.slice A87 t86.length c88), some (.slice A101 t100.length c102), some (.func (.func 32) #[] #[]), none, none, none, none, none, some (.slice A188 (t48 ++ ([t105] : List api_Final)).length c189), none, none, none, none, none, none, none, none, none, none, none, none, none, none, none, none, none, none, none, none, none, none, none, none, none, none, none, none, none, none, none, none, none, none, none, none, none, none, none, none, none, none, none, none, none, none, none, none, none, none, none, none, none, none, none, none, none, none]) (by kernel_rfl) ?_
            exact ih58 t86 t100 (t48 ++ ([t105] : List api_Final)) _ hp187 he56 _ A87 c88 A101 c102 A188 c189 _ hS196 hs90 hs104
          ·skip
           have hp197 := ite_f hp168 h170
           obtain ⟨t198, hr199, hp200⟩ := bind_some' hp197
           refine r_call1 (c := (cd31 [1, 1, 1, 0, 0, 0, 1, 0, 1, 1, 1, 1, 1, 0])) (i := 5) (d := (some 61)) (g := 32) (args := #[.bool false, .bool false]) (by kernel_rfl) (by kernel_rfl) (by kernel_rfl) (by kernel_rfl) (state_Union_1.ok false false hS107 hr199) ?_
           rintro _ w201 ⟨rfl, hS202⟩
           refine ⟨.bool t198, rfl, ?_⟩
           refine sx_run 1 (todo' := [.code (cd31 [1, 1, 1, 0, 0, 0, 1, 0, 1, 1, 1, 1, 1, 1]), .inBlock 1, .inLoop (cd31 [1, 1, 1, 0, 0, 0]), .inBlock 0, .code (cd31 [1, 1, 1, 1])]) (us := []) (by kernel_rfl) ?_
           cases t198
           ·skip
            have hp203 := ite_f hp200 rfl
            refine sx_run 3 (todo' := [.inLoop (cd31 [1, 1, 1, 0, 0, 0]), .inBlock 0, .code (cd31 [1, 1, 1, 1])]) (us := []) (by kernel_rfl) ?_
            have hS204 := hS202.pick1
            have hS205 := hS204.drop
            refine sx_run 1 (todo' := [.code (cd31 [1, 1, 1, 0, 0, 0]), .inLoop (cd31 [1, 1, 1, 0, 0, 0]), .inBlock 0, .code (cd31 [1, 1, 1, 1])]) (us := []) (by kernel_rfl) ?_
            refine Runs.fill (m := [some (.slice A87 t86.length c88), some (.slice A101 t100.length c102), some (.func (.func 32) #[] #[]), none, none, none, none, none, some (.slice A49 t48.length c50), none, none, none, none, none, none, none, none, none, none, none, none, none, none, none, none, none, none, none, none, none, none, none, none, none, none, none, none, none, none, none, none, none, none, none, none, none, none, none, none, none, none, none, none, none, none, none, none, none, none, none, none, none, none, none, none, none, none]) (by kernel_rfl) ?_
            exact ih58 t86 t100 t48 _ hp203 he56 _ A87 c88 A101 c102 A49 c50 _ hS205 hs90 hs104
           ·skip
            have hp206 := ite_t hp200 rfl
            refine sx_run 3 (todo' := [.inRegion (opsOf (cd31 [1, 1, 1, 0, 0, 0, 1, 0, 1, 1, 1, 1, 1, 1, 0])) [1, 2, 3, 4], .inBlock 1, .inLoop (cd31 [1, 1, 1, 0, 0, 0]), .inBlock 0, .code (cd31 [1, 1, 1, 1])]) (us := [(62, .slice A49 t48.length c50)]) (by kernel_rfl) ?_
            refine r_load (c := (cd31 [1, 1, 1, 0, 0, 0, 1, 0, 1, 1, 1, 1, 1, 1, 0])) (i := 1) (d := (some 63)) (ty := 24) (t := 24) (x := (.tmp 10)) (p := ⟨b79, 0, none⟩) (v := .agg (enc_api_Final t105).toArray) (by kernel_rfl) (by kernel_rfl) (by kernel_rfl) (loads_agg (hS202.blk 1 rfl) (by kernel_rfl) (lenK (len_api_Final _) (by kernel_rfl))) ?_
            refine r_lit (c := (cd31 [1, 1, 1, 0, 0, 0, 1, 0, 1, 1, 1, 1, 1, 1, 0])) (i := 2) (d := (some 64)) (ty := 28) (t := 28) (e := 24) (sz := 49) (n := 1) (parts := #[(0, (.tmp 63))]) (vs := [(0, .agg (enc_api_Final t105).toArray)]) (z := zeroOf Tryd.prog 24) (cs' := ([t105] : List api_Final).flatMap enc_api_Final) hS202 (by kernel_rfl) (by kernel_rfl) (by kernel_rfl) (by kernel_rfl) (by kernel_rfl) (by decide) (by decide) (by kernel_rfl) rfl (Parts.cons (c := enc_api_Final t105) (by kernel_rfl) (len_api_Final _) Parts.nil) rfl ?_
            intro b208 w209 hS210
            have hS211 := hS210.pick1
            obtain ⟨g212, hp213⟩ := ite_some hp206
            refine r_append (c := (cd31 [1, 1, 1, 0, 0, 0, 1, 0, 1, 1, 1, 1, 1, 1, 0])) (i := 3) (d := (some 65)) (ty := 28) (enc := enc_api_Final) (e := 24) (u := 24) (t := 28) (t2 := 28) (sz := 49) (cp := c50) (A := A49) (bytes := 392) (xs := t48) (ys := ([t105] : List api_Final)) (s := (.tmp 62)) (x := (.tmp 64)) (xv := .slice (some ⟨b208, 0, none⟩) ([t105] : List api_Final).length 1) (info := infoOf Tryd.prog 24) (z := zeroOf Tryd.prog 24) (ycs := ([t105] : List api_Final).flatMap enc_api_Final) hS211 (by kernel_rfl) (by kernel_rfl) (by kernel_rfl) (by kernel_rfl) (by kernel_rfl) (.inl (by kernel_rfl)) (by kernel_rfl) (by kernel_rfl) (by kernel_rfl) (by kernel_rfl) (by kernel_rfl) (by omega) len_api_Final one_api_Final (src_row (hS211.row 1 rfl) (by omega) len_api_Final) rfl g212 (by omega) ?_
            intro A214 c215 w216 hS217
            refine sx_run 3 (todo' := [.inLoop (cd31 [1, 1, 1, 0, 0, 0]), .inBlock 0, .code (cd31 [1, 1, 1, 1])]) (us := [(8, .slice A214 (t48 ++ ([t105] : List api_Final)).length c215)]) (by kernel_rfl) ?_
            have hS219 := hS217.pick1
            have hS220 := hS219.drop
            have hS221 := hS220.pick1
            have hS222 := hS221.drop
            refine sx_run 1 (todo' := [.code (cd31 [1, 1, 1, 0, 0, 0]), .inLoop (cd31 [1, 1, 1, 0, 0, 0]), .inBlock 0, .code (cd31 [1, 1, 1, 1])]) (us := []) (by kernel_rfl) ?_
            refine Runs.fill (m := [some (.slice A87 t86.length c88), some (.slice A101 t100.length c102), some (.func (.func 32) #[] #[]), none, none, none, none, none, some (.slice A214 (t48 ++ ([t105] : List api_Final)).length c215), none, none, none, none, none, none, none, none, none, none, none, none, none, none, none, none, none, none, none, none, none, none, none, none, none, none, none, none, none, none, none, none, none, none, none, none, none, none, none, none, none, none, none, none, none, none, none, none, none, none, none, none, none, none, none, none, none, none]) (by kernel_rfl) ?_
            exact ih58 t86 t100 (t48 ++ ([t105] : List api_Final)) _ hp213 he56 _ A87 c88 A101 c102 A214 c215 _ hS222 hs90 hs104
        refine sx_split 5 (todo' := [.inRegion (opsOf (cd31 [1, 1, 1, 0, 0, 0, 1, 0, 1, 1, 1, 1, 0, 0])) [], .code (cd31 [1, 1, 1, 0, 0, 0, 1, 0, 1, 1, 1, 1, 0, 1]), .code (cd31 [1, 1, 1, 0, 0, 0, 1, 0, 1, 1, 1, 1, 1]), .inBlock 1, .inLoop (cd31 [1, 1, 1, 0, 0, 0]), .inBlock 0, .code (cd31 [1, 1, 1, 1])]) (us := [(49, .int .i64 t73)]) (d := 50) (t := (decide (t73 ≥ 0))) (by kernel_rfl) (fun h223 => ?_) (fun h224 => ?_)
        ·skip
         have hp225 := ite_t hv98 h223
         refine sx_run 2 (todo' := [.code (cd31 [1, 1, 1, 0, 0, 0, 1, 0, 1, 1, 1, 1, 0, 1, 0]), .code (cd31 [1, 1, 1, 0, 0, 0, 1, 0, 1, 1, 1, 1, 1]), .inBlock 1, .inLoop (cd31 [1, 1, 1, 0, 0, 0]), .inBlock 0, .code (cd31 [1, 1, 1, 1])]) (us := []) (by kernel_rfl) ?_
         obtain ⟨g226, hp227⟩ := ite_some hp225
         obtain ⟨b228, p229, hA230, hc231⟩ := hs47.atF g226.1 g226.2
         obtain ⟨g232, hp233⟩ := ite_some hp227
         obtain ⟨A236, c237, hr234, hs235⟩ := cutSlZ hs47 ((1 : Int).toNat) (t43.length) (by omega) (by omega)
         have hS239 := hS93.pick1
         refine r_drawnF (X := Unit) (c := (cd31 [1, 1, 1, 0, 0, 0, 1, 0, 1, 1, 1, 1, 0, 1, 0])) (id := 14) (C0 := fun w' => St w0 Z (xblk b79 24 (enc_api_Final t91) :: xrow A49 c50 24 49 (t48.flatMap enc_api_Final) :: fs) w') (C1 := fun _ w' => St w0 Z (xblk b79 24 (enc_api_Final (gt t43 (0 : Int))) :: xrow A49 c50 24 49 (t48.flatMap enc_api_Final) :: fs) w') (vs := [.slice A44 t43.length c45, .pointer (some ⟨b228, p229 + (0 : Int).toNat * 49, none⟩), .agg (enc_api_Final (gt t43 (0 : Int))).toArray, .slice A44 t43.length c45, .slice A236 ((t43.take t43.length).drop ((1 : Int).toNat)).length c237, undef, undef]) (vx := fun _ => [.slice A44 t43.length c45, .pointer (some ⟨b228, p229 + (0 : Int).toNat * 49, none⟩), .agg (enc_api_Final (gt t43 (0 : Int))).toArray, .slice A44 t43.length c45, .slice A236 ((t43.take t43.length).drop ((1 : Int).toNat)).length c237, undef, .slice A236 ((t43.take t43.length).drop ((1 : Int).toNat)).length c237]) 5 7 [5, 6] [6] (by kernel_rfl) (by kernel_rfl) (by kernel_rfl) (by decide) (by kernel_rfl) (by kernel_rfl) (by kernel_rfl) rfl ?_ (fun _ => ⟨rfl, rfl⟩) hS239.drew ?_ ?_ ?_ ?_ ?_
         ·intro _u i hi hd
          match i, hi, hd with
          | 0, _, _ => exact rfl
          | 1, _, _ => exact rfl
          | 2, _, _ => exact rfl
          | 3, _, _ => exact rfl
          | 4, _, _ => exact rfl
          | 5, _, hd => exact absurd hd (by decide)
          | 6, _, hd => exact absurd hd (by decide)
          | i + 7, hi, _ => exact absurd hi (by omega)
         ·intro i hi hd w hC
          match i, hi, hd with
          | 0, _, _ => exact does_pure (v := .slice A44 t43.length c45) (by kernel_rfl) rfl hC
          | 1, _, _ => exact does_run (x_indexAddr (t := 28) (e := 24) (x := (.tmp 51)) (y := (.const (.int .i64 0))) (b := b228) (o' := p229) (n := t43.length) (cp := c45) (sz := 49) (kk := .i64) (j := (0 : Int)) (slv (by kernel_rfl) hA230) (by kernel_rfl) (by kernel_rfl) (by kernel_rfl) g226.1 g226.2 (by kernel_rfl)) rfl hC
          | 2, _, _ => exact does_run (x_load (t := 24) (x := (.tmp 52)) (p := ⟨b228, p229 + (0 : Int).toNat * 49, none⟩) (v := .agg (enc_api_Final (gt t43 (0 : Int))).toArray) (by kernel_rfl) (loads_agg (hc231.cells hC) (by kernel_rfl) (lenK (len_api_Final _) (by kernel_rfl))) (by kernel_rfl)) rfl hC
          | 3, _, _ => exact does_pure (v := .slice A44 t43.length c45) (by kernel_rfl) rfl hC
          | 4, _, _ => exact does_run (x_cutSl_sn (t := 28) (x := (.tmp 54)) (lo := (.const (.int .i64 1))) (e := 24) (sz := 49) (A := A44) (n := t43.length) (c := c45) (k := .i64) (by kernel_rfl) (by kernel_rfl) (by kernel_rfl) (by kernel_rfl) g232 hr234 (by kernel_rfl)) rfl hC
          | 5, _, hd => exact absurd hd (by decide)
          | 6, _, hd => exact absurd hd (by decide)
          | i + 7, hi, _ => exact absurd hi (by omega)
         ·intro i hi hd _u w hC
          match i, hi, hd with
          | 0, _, _ => exact does_pure (v := .slice A44 t43.length c45) (by kernel_rfl) rfl hC
          | 1, _, _ => exact does_run (x_indexAddr (t := 28) (e := 24) (x := (.tmp 51)) (y := (.const (.int .i64 0))) (b := b228) (o' := p229) (n := t43.length) (cp := c45) (sz := 49) (kk := .i64) (j := (0 : Int)) (slv (by kernel_rfl) hA230) (by kernel_rfl) (by kernel_rfl) (by kernel_rfl) g226.1 g226.2 (by kernel_rfl)) rfl hC
          | 2, _, _ => exact does_run (x_load (t := 24) (x := (.tmp 52)) (p := ⟨b228, p229 + (0 : Int).toNat * 49, none⟩) (v := .agg (enc_api_Final (gt t43 (0 : Int))).toArray) (by kernel_rfl) (loads_agg (hc231.cells hC) (by kernel_rfl) (lenK (len_api_Final _) (by kernel_rfl))) (by kernel_rfl)) rfl hC
          | 3, _, _ => exact does_pure (v := .slice A44 t43.length c45) (by kernel_rfl) rfl hC
          | 4, _, _ => exact does_run (x_cutSl_sn (t := 28) (x := (.tmp 54)) (lo := (.const (.int .i64 1))) (e := 24) (sz := 49) (A := A44) (n := t43.length) (c := c45) (k := .i64) (by kernel_rfl) (by kernel_rfl) (by kernel_rfl) (by kernel_rfl) g232 hr234 (by kernel_rfl)) rfl hC
          | 5, _, hd => exact absurd hd (by decide)
          | 6, _, hd => exact absurd hd (by decide)
          | i + 7, hi, _ => exact absurd hi (by omega)
         ·intro w hC
          exact does_store (ux := ()) (t := 24) (x := (.tmp 10)) (y := (.tmp 53)) (b := b79) (o := 0) (e := 24) (cs := enc_api_Final t91) (v := .agg (enc_api_Final (gt t43 (0 : Int))).toArray) (vs := enc_api_Final (gt t43 (0 : Int))) (cs' := enc_api_Final (gt t43 (0 : Int))) hC (by kernel_rfl) (by kernel_rfl) (by kernel_rfl) (by kernel_rfl) (by kernel_rfl) (lenK (len_api_Final _) (by kernel_rfl)) (one_api_Final _) (by simp only [len_api_Final, List.length_cons, List.length_nil, List.length_append]; omega) (over_all ((len_api_Final _).trans (len_api_Final _).symm)) (fun _ h => h)
         ·intro i hi hd hne _u w hC
          match i, hi, hd, hne with
          | 0, _, hd, _ => exact absurd hd (by decide)
          | 1, _, hd, _ => exact absurd hd (by decide)
          | 2, _, hd, _ => exact absurd hd (by decide)
          | 3, _, hd, _ => exact absurd hd (by decide)
          | 4, _, hd, _ => exact absurd hd (by decide)
          | 5, _, _, hne => exact absurd rfl hne
          | 6, _, _, _ => exact does_pure (v := .slice A236 ((t43.take t43.length).drop ((1 : Int).toNat)).length c237) (by kernel_rfl) rfl hC
          | i + 7, hi, _, _ => exact absurd hi (by omega)
         intro _u w240 hS241
         have hS242 := hS241.pick1
         refine Runs.fill (m := [some (.slice A87 t86.length c88), some (.slice A236 ((t43.take t43.length).drop ((1 : Int).toNat)).length c237), some (.func (.func 32) #[] #[]), none, none, none, none, none, some (.slice A49 t48.length c50), some (.int .i64 t73), some (.pointer (some ⟨b79, 0, none⟩)), none, none, none, none, none, none, none, none, none, none, none, none, none, none, none, none, none, none, none, none, none, none, none, none, none, none, none, none, none, none, none, none, none, none, none, none, none, none, none, none, none, none, none, none, none, none, none, none, none, none, none, none, none, none, none, none]) (by kernel_rfl) ?_
         exact J108 ((t43.take t43.length).drop ((1 : Int).toNat)) (gt t43 (0 : Int)) (Option.some.inj hp233) _ A236 c237 _ hS242 hs235
        ·skip
         have hp243 := ite_f hv98 h224
         refine sx_run 3 (todo' := [.code (cd31 [1, 1, 1, 0, 0, 0, 1, 0, 1, 1, 1, 1, 1]), .inBlock 1, .inLoop (cd31 [1, 1, 1, 0, 0, 0]), .inBlock 0, .code (cd31 [1, 1, 1, 1])]) (us := []) (by kernel_rfl) ?_
         refine Runs.fill (m := [some (.slice A87 t86.length c88), some (.slice A44 t43.length c45), some (.func (.func 32) #[] #[]), none, none, none, none, none, some (.slice A49 t48.length c50), some (.int .i64 t73), some (.pointer (some ⟨b79, 0, none⟩)), none, none, none, none, none, none, none, none, none, none, none, none, none, none, none, none, none, none, none, none, none, none, none, none, none, none, none, none, none, none, none, none, none, none, none, none, none, none, none, none, none, none, none, none, none, none, none, none, none, none, none, none, none, none, none, none]) (by kernel_rfl) ?_
         exact J108 t43 t91 (Option.some.inj hp243) _ A44 c45 _ hS93 hs47
       refine sx_split 6 (todo' := [.inRegion (opsOf (cd31 [1, 1, 1, 0, 0, 0, 1, 0, 1, 1, 1, 0, 0])) [], .code (cd31 [1, 1, 1, 0, 0, 0, 1, 0, 1, 1, 1, 0, 1]), .code (cd31 [1, 1, 1, 0, 0, 0, 1, 0, 1, 1, 1, 1]), .inBlock 1, .inLoop (cd31 [1, 1, 1, 0, 0, 0]), .inBlock 0, .code (cd31 [1, 1, 1, 1])]) (us := [(42, .int .i64 t73)]) (d := 43) (t := (decide (t73 ≤ 0))) (by kernel_rfl) (fun h244 => ?_) (fun h245 => ?_)
       ·skip
        have hp246 := ite_t hv84 h244
        refine sx_run 2 (todo' := [.code (cd31 [1, 1, 1, 0, 0, 0, 1, 0, 1, 1, 1, 0, 1, 0]), .code (cd31 [1, 1, 1, 0, 0, 0, 1, 0, 1, 1, 1, 1]), .inBlock 1, .inLoop (cd31 [1, 1, 1, 0, 0, 0]), .inBlock 0, .code (cd31 [1, 1, 1, 1])]) (us := []) (by kernel_rfl) ?_
        obtain ⟨g247, hp248⟩ := ite_some hp246
        obtain ⟨b249, p250, hA251, hc252⟩ := hs42.atF g247.1 g247.2
        obtain ⟨g253, hp254⟩ := ite_some hp248
        obtain ⟨A257, c258, hr255, hs256⟩ := cutSlZ hs42 ((1 : Int).toNat) (t38.length) (by omega) (by omega)
        refine r_drawnF (X := Unit) (c := (cd31 [1, 1, 1, 0, 0, 0, 1, 0, 1, 1, 1, 0, 1, 0])) (id := 12) (C0 := fun w' => St w0 Z (xblk b79 24 (enc_api_Final (⟨0, (Vector.replicate 48 0)⟩ : api_Final)) :: xrow A49 c50 24 49 (t48.flatMap enc_api_Final) :: fs) w') (C1 := fun _ w' => St w0 Z (xblk b79 24 (enc_api_Final (gt t38 (0 : Int))) :: xrow A49 c50 24 49 (t48.flatMap enc_api_Final) :: fs) w') (vs := [.slice A39 t38.length c40, .pointer (some ⟨b249, p250 + (0 : Int).toNat * 49, none⟩), .agg (enc_api_Final (gt t38 (0 : Int))).toArray, .slice A39 t38.length c40, .slice A257 ((t38.take t38.length).drop ((1 : Int).toNat)).length c258, undef, undef]) (vx := fun _ => [.slice A39 t38.length c40, .pointer (some ⟨b249, p250 + (0 : Int).toNat * 49, none⟩), .agg (enc_api_Final (gt t38 (0 : Int))).toArray, .slice A39 t38.length c40, .slice A257 ((t38.take t38.length).drop ((1 : Int).toNat)).length c258, undef, .slice A257 ((t38.take t38.length).drop ((1 : Int).toNat)).length c258]) 5 7 [5, 6] [6] (by kernel_rfl) (by kernel_rfl) (by kernel_rfl) (by decide) (by kernel_rfl) (by kernel_rfl) (by kernel_rfl) rfl ?_ (fun _ => ⟨rfl, rfl⟩) hS81.drew ?_ ?_ ?_ ?_ ?_
        ·intro _u i hi hd
         match i, hi, hd with
         | 0, _, _ => exact rfl
         | 1, _, _ => exact rfl
         | 2, _, _ => exact rfl
         | 3, _, _ => exact rfl
         | 4, _, _ => exact rfl
         | 5, _, hd => exact absurd hd (by decide)
         | 6, _, hd => exact absurd hd (by decide)
         | i + 7, hi, _ => exact absurd hi (by omega)
        ·intro i hi hd w hC
         match i, hi, hd with
         | 0, _, _ => exact does_pure (v := .slice A39 t38.length c40) (by kernel_rfl) rfl hC
         | 1, _, _ => exact does_run (x_indexAddr (t := 28) (e := 24) (x := (.tmp 44)) (y := (.const (.int .i64 0))) (b := b249) (o' := p250) (n := t38.length) (cp := c40) (sz := 49) (kk := .i64) (j := (0 : Int)) (slv (by kernel_rfl) hA251) (by kernel_rfl) (by kernel_rfl) (by kernel_rfl) g247.1 g247.2 (by kernel_rfl)) rfl hC
         | 2, _, _ => exact does_run (x_load (t := 24) (x := (.tmp 45)) (p := ⟨b249, p250 + (0 : Int).toNat * 49, none⟩) (v := .agg (enc_api_Final (gt t38 (0 : Int))).toArray) (by kernel_rfl) (loads_agg (hc252.cells hC) (by kernel_rfl) (lenK (len_api_Final _) (by kernel_rfl))) (by kernel_rfl)) rfl hC
         | 3, _, _ => exact does_pure (v := .slice A39 t38.length c40) (by kernel_rfl) rfl hC
         | 4, _, _ => exact does_run (x_cutSl_sn (t := 28) (x := (.tmp 47)) (lo := (.const (.int .i64 1))) (e := 24) (sz := 49) (A := A39) (n := t38.length) (c := c40) (k := .i64) (by kernel_rfl) (by kernel_rfl) (by kernel_rfl) (by kernel_rfl) g253 hr255 (by kernel_rfl)) rfl hC
         | 5, _, hd => exact absurd hd (by decide)
         | 6, _, hd => exact absurd hd (by decide)
         | i + 7, hi, _ => exact absurd hi (by omega)
        ·intro i hi hd _u w hC
         match i, hi, hd with
         | 0, _, _ => exact does_pure (v := .slice A39 t38.length c40) (by kernel_rfl) rfl hC
         | 1, _, _ => exact does_run (x_indexAddr (t := 28) (e := 24) (x := (.tmp 44)) (y := (.const (.int .i64 0))) (b := b249) (o' := p250) (n := t38.length) (cp := c40) (sz := 49) (kk := .i64) (j := (0 : Int)) (slv (by kernel_rfl) hA251) (by kernel_rfl) (by kernel_rfl) (by kernel_rfl) g247.1 g247.2 (by kernel_rfl)) rfl hC
         | 2, _, _ => exact does_run (x_load (t := 24) (x := (.tmp 45)) (p := ⟨b249, p250 + (0 : Int).toNat * 49, none⟩) (v := .agg (enc_api_Final (gt t38 (0 : Int))).toArray) (by kernel_rfl) (loads_agg (hc252.cells hC) (by kernel_rfl) (lenK (len_api_Final _) (by kernel_rfl))) (by kernel_rfl)) rfl hC
         | 3, _, _ => exact does_pure (v := .slice A39 t38.length c40) (by kernel_rfl) rfl hC
         | 4, _, _ => exact does_run (x_cutSl_sn (t := 28) (x := (.tmp 47)) (lo := (.const (.int .i64 1))) (e := 24) (sz := 49) (A := A39) (n := t38.length) (c := c40) (k := .i64) (by kernel_rfl) (by kernel_rfl) (by kernel_rfl) (by kernel_rfl) g253 hr255 (by kernel_rfl)) rfl hC
         | 5, _, hd => exact absurd hd (by decide)
         | 6, _, hd => exact absurd hd (by decide)
         | i + 7, hi, _ => exact absurd hi (by omega)
        ·intro w hC
         exact does_store (ux := ()) (t := 24) (x := (.tmp 10)) (y := (.tmp 46)) (b := b79) (o := 0) (e := 24) (cs := enc_api_Final (⟨0, (Vector.replicate 48 0)⟩ : api_Final)) (v := .agg (enc_api_Final (gt t38 (0 : Int))).toArray) (vs := enc_api_Final (gt t38 (0 : Int))) (cs' := enc_api_Final (gt t38 (0 : Int))) hC (by kernel_rfl) (by kernel_rfl) (by kernel_rfl) (by kernel_rfl) (by kernel_rfl) (lenK (len_api_Final _) (by kernel_rfl)) (one_api_Final _) (by simp only [len_api_Final, List.length_cons, List.length_nil, List.length_append]; omega) (over_all ((len_api_Final _).trans (len_api_Final _).symm)) (fun _ h => h)
        ·intro i hi hd hne _u w hC
         match i, hi, hd, hne with
         | 0, _, hd, _ => exact absurd hd (by decide)
         | 1, _, hd, _ => exact absurd hd (by decide)
         | 2, _, hd, _ => exact absurd hd (by decide)
         | 3, _, hd, _ => exact absurd hd (by decide)
         | 4, _, hd, _ => exact absurd hd (by decide)
         | 5, _, _, hne => exact absurd rfl hne
         | 6, _, _, _ => exact does_pure (v := .slice A257 ((t38.take t38.length).drop ((1 : Int).toNat)).length c258) (by kernel_rfl) rfl hC
         | i + 7, hi, _, _ => exact absurd hi (by omega)
        intro _u w260 hS261
        have hS262 := hS261.pick1
        refine Runs.fill (m := [some (.slice A257 ((t38.take t38.length).drop ((1 : Int).toNat)).length c258), some (.slice A44 t43.length c45), some (.func (.func 32) #[] #[]), none, none, none, none, none, some (.slice A49 t48.length c50), some (.int .i64 t73), some (.pointer (some ⟨b79, 0, none⟩)), none, none, none, none, none, none, none, none, none, none, none, none, none, none, none, none, none, none, none, none, none, none, none, none, none, none, none, none, none, none, none, none, none, none, none, none, none, none, none, none, none, none, none, none, none, none, none, none, none, none, none, none, none, none, none, none]) (by kernel_rfl) ?_
        exact J94 ((t38.take t38.length).drop ((1 : Int).toNat)) (gt t38 (0 : Int)) (Option.some.inj hp254) _ A257 c258 _ hS262 hs256
       ·skip
        have hp263 := ite_f hv84 h245
        refine sx_run 3 (todo' := [.code (cd31 [1, 1, 1, 0, 0, 0, 1, 0, 1, 1, 1, 1]), .inBlock 1, .inLoop (cd31 [1, 1, 1, 0, 0, 0]), .inBlock 0, .code (cd31 [1, 1, 1, 1])]) (us := []) (by kernel_rfl) ?_
        have hS264 := hS81.pick1
        refine Runs.fill (m := [some (.slice A39 t38.length c40), some (.slice A44 t43.length c45), some (.func (.func 32) #[] #[]), none, none, none, none, none, some (.slice A49 t48.length c50), some (.int .i64 t73), some (.pointer (some ⟨b79, 0, none⟩)), none, none, none, none, none, none, none, none, none, none, none, none, none, none, none, none, none, none, none, none, none, none, none, none, none, none, none, none, none, none, none, none, none, none, none, none, none, none, none, none, none, none, none, none, none, none, none, none, none, none, none, none, none, none, none, none]) (by kernel_rfl) ?_
        exact J94 t38 (⟨0, (Vector.replicate 48 0)⟩ : api_Final) (Option.some.inj hp263) _ A39 c40 _ hS264 hs42
      refine sx_split 12 (todo' := [.inRegion (opsOf (cd31 [1, 1, 1, 0, 0, 0, 1, 0, 1, 0, 0, 0])) [3], .code (cd31 [1, 1, 1, 0, 0, 0, 1, 0, 1, 0, 0, 1]), .inBlock 2, .code (cd31 [1, 1, 1, 0, 0, 0, 1, 0, 1, 1]), .inBlock 1, .inLoop (cd31 [1, 1, 1, 0, 0, 0]), .inBlock 0, .code (cd31 [1, 1, 1, 1])]) (us := [(9, .int .i64 (-1)), (28, .slice A39 t38.length c40), (29, .int .i64 (t38.length : Int))]) (d := 30) (t := ((t38.length : Int) == 0)) (by kernel_rfl) (fun h265 => ?_) (fun h266 => ?_)
      ·skip
       have hp267 := ite_t hv71 h265
       refine sx_run 7 (todo' := [.code (cd31 [1, 1, 1, 0, 0, 0, 1, 0, 1, 1]), .inBlock 1, .inLoop (cd31 [1, 1, 1, 0, 0, 0]), .inBlock 0, .code (cd31 [1, 1, 1, 1])]) (us := [(27, .bool true), (9, .int .i64 1)]) (by kernel_rfl) ?_
       refine Runs.fill (m := [some (.slice A39 t38.length c40), some (.slice A44 t43.length c45), some (.func (.func 32) #[] #[]), none, none, none, none, none, some (.slice A49 t48.length c50), some (.int .i64 1), none, none, none, none, none, none, none, none, none, none, none, none, none, none, none, none, none, none, none, none, none, none, none, none, none, none, none, none, none, none, none, none, none, none, none, none, none, none, none, none, none, none, none, none, none, none, none, none, none, none, none, none, none, none, none, none, none]) (by kernel_rfl) ?_
       exact J76 1 (Option.some.inj hp267) _ _ hS65
      ·skip
       have hp268 := ite_f hv71 h266
       refine sx_split 8 (todo' := [.inRegion (opsOf (cd31 [1, 1, 1, 0, 0, 0, 1, 0, 1, 0, 0, 1, 1, 0])) [3], .code (cd31 [1, 1, 1, 0, 0, 0, 1, 0, 1, 0, 0, 1, 1, 1]), .inBlock 2, .code (cd31 [1, 1, 1, 0, 0, 0, 1, 0, 1, 1]), .inBlock 1, .inLoop (cd31 [1, 1, 1, 0, 0, 0]), .inBlock 0, .code (cd31 [1, 1, 1, 1])]) (us := [(27, .bool false), (32, .slice A44 t43.length c45), (33, .int .i64 (t43.length : Int))]) (d := 34) (t := (decide ((t43.length : Int) > 0))) (by kernel_rfl) (fun h269 => ?_) (fun h270 => ?_)
       ·skip
        have hp271 := ite_t hp268 h269
        refine sx_run 3 (todo' := [.code (cd31 [1, 1, 1, 0, 0, 0, 1, 0, 1, 0, 0, 1, 1, 1, 0]), .inBlock 2, .code (cd31 [1, 1, 1, 0, 0, 0, 1, 0, 1, 1]), .inBlock 1, .inLoop (cd31 [1, 1, 1, 0, 0, 0]), .inBlock 0, .code (cd31 [1, 1, 1, 1])]) (us := [(31, .bool true)]) (by kernel_rfl) ?_
        refine r_quiet hS65 (c := (cd31 [1, 1, 1, 0, 0, 0, 1, 0, 1, 0, 0, 1, 1, 1, 0])) (id := 9) (by kernel_rfl) (by kernel_rfl) (by kernel_rfl) (is := [0, 1, 2, 3, 4, 5, 6, 7]) (by kernel_rfl) ?_
        refine q_run 1 (is' := [1, 2, 3, 4, 5, 6, 7]) (us := [(35, .slice A39 t38.length c40)]) (by kernel_rfl) ?_
        obtain ⟨g272, hp273⟩ := ite_some hp271
        obtain ⟨b274, p275, hA276, hc277⟩ := hs42.atF g272.1 g272.2
        refine q_indexAddr (c := (cd31 [1, 1, 1, 0, 0, 0, 1, 0, 1, 0, 0, 1, 1, 1, 0])) (i := 1) (d := (some 36)) (ty := 0) (t := 28) (e := 24) (n := t38.length) (cp := c40) (sz := 49) (kk := .i64) (x := (.tmp 35)) (y := (.const (.int .i64 0))) (b := b274) (o' := p275) (j := (0 : Int)) (by kernel_rfl) (by kernel_rfl) (slv (by kernel_rfl) hA276) (by kernel_rfl) (by kernel_rfl) (by kernel_rfl) g272.1 g272.2 ?_
        refine q_load (c := (cd31 [1, 1, 1, 0, 0, 0, 1, 0, 1, 0, 0, 1, 1, 1, 0])) (i := 2) (d := (some 37)) (ty := 24) (t := 24) (x := (.tmp 36)) (p := ⟨b274, p275 + (0 : Int).toNat * 49, none⟩) (v := .agg (enc_api_Final (gt t38 (0 : Int))).toArray) (by kernel_rfl) (by kernel_rfl) (by kernel_rfl) (fun w hC => (loads_agg (hc277.cells hC) (by kernel_rfl) (lenK (len_api_Final _) (by kernel_rfl)))) ?_
        refine q_run 1 (is' := [4, 5, 6, 7]) (us := [(38, .slice A44 t43.length c45)]) (by kernel_rfl) ?_
        obtain ⟨g278, hp279⟩ := ite_some hp273
        obtain ⟨b280, p281, hA282, hc283⟩ := hs47.atF g278.1 g278.2
        refine q_indexAddr (c := (cd31 [1, 1, 1, 0, 0, 0, 1, 0, 1, 0, 0, 1, 1, 1, 0])) (i := 4) (d := (some 39)) (ty := 0) (t := 28) (e := 24) (n := t43.length) (cp := c45) (sz := 49) (kk := .i64) (x := (.tmp 38)) (y := (.const (.int .i64 0))) (b := b280) (o' := p281) (j := (0 : Int)) (by kernel_rfl) (by kernel_rfl) (slv (by kernel_rfl) hA282) (by kernel_rfl) (by kernel_rfl) (by kernel_rfl) g278.1 g278.2 ?_
        refine q_load (c := (cd31 [1, 1, 1, 0, 0, 0, 1, 0, 1, 0, 0, 1, 1, 1, 0])) (i := 5) (d := (some 40)) (ty := 24) (t := 24) (x := (.tmp 39)) (p := ⟨b280, p281 + (0 : Int).toNat * 49, none⟩) (v := .agg (enc_api_Final (gt t43 (0 : Int))).toArray) (by kernel_rfl) (by kernel_rfl) (by kernel_rfl) (fun w hC => (loads_agg (hc283.cells hC) (by kernel_rfl) (lenK (len_api_Final _) (by kernel_rfl)))) ?_
        obtain ⟨t284, hr285, hp286⟩ := bind_some' hp279
        refine q_call1 (c := (cd31 [1, 1, 1, 0, 0, 0, 1, 0, 1, 0, 0, 1, 1, 1, 0])) (i := 6) (d := (some 41)) (v := .int .i64 t284) (g := 8) (args := #[.agg (enc_api_Final (gt t38 (0 : Int))).toArray, .agg (enc_api_Final (gt t43 (0 : Int))).toArray]) (by kernel_rfl) (by kernel_rfl) (by kernel_rfl) (by kernel_rfl) (fun w hC => by
         refine (state_Compare.ok (gt t38 (0 : Int)) (gt t43 (0 : Int)) hC hr285).mono ?_
         rintro e w2 ⟨rfl, h2⟩
         exact ⟨rfl, h2⟩) ?_
        refine q_run 1 (is' := []) (us := [(9, .int .i64 t284)]) (by kernel_rfl) ?_
        refine Qs.nil ?_
        intro w287 hS288
        refine sx_run 1 (todo' := [.code (cd31 [1, 1, 1, 0, 0, 0, 1, 0, 1, 1]), .inBlock 1, .inLoop (cd31 [1, 1, 1, 0, 0, 0]), .inBlock 0, .code (cd31 [1, 1, 1, 1])]) (us := []) (by kernel_rfl) ?_
        refine Runs.fill (m := [some (.slice A39 t38.length c40), some (.slice A44 t43.length c45), some (.func (.func 32) #[] #[]), none, none, none, none, none, some (.slice A49 t48.length c50), some (.int .i64 t284), none, none, none, none, none, none, none, none, none, none, none, none, none, none, none, none, none, none, none, none, none, none, none, none, none, none, none, none, none, none, none, none, none, none, none, none, none, none, none, none, none, none, none, none, none, none, none, none, none, none, none, none, none, none, none, none, none]) (by kernel_rfl) ?_
        exact J76 t284 (Option.some.inj hp286) _ _ hS288
       ·skip
        have hp289 := ite_f hp268 h270
        refine sx_run 5 (todo' := [.code (cd31 [1, 1, 1, 0, 0, 0, 1, 0, 1, 1]), .inBlock 1, .inLoop (cd31 [1, 1, 1, 0, 0, 0]), .inBlock 0, .code (cd31 [1, 1, 1, 1])]) (us := [(31, .bool false)]) (by kernel_rfl) ?_
        refine Runs.fill (m := [some (.slice A39 t38.length c40), some (.slice A44 t43.length c45), some (.func (.func 32) #[] #[]), none, none, none, none, none, some (.slice A49 t48.length c50), some (.int .i64 (-1)), none, none, none, none, none, none, none, none, none, none, none, none, none, none, none, none, none, none, none, none, none, none, none, none, none, none, none, none, none, none, none, none, none, none, none, none, none, none, none, none, none, none, none, none, none, none, none, none, none, none, none, none, none, none, none, none, none]) (by kernel_rfl) ?_
        exact J76 (-1) (Option.some.inj hp289) _ _ hS65
     refine sx_split 6 (todo' := [.inRegion (opsOf (cd31 [1, 1, 1, 0, 0, 0, 0, 0])) [3, 4, 5, 6, 7], .code (cd31 [1, 1, 1, 0, 0, 0, 0, 1]), .code (cd31 [1, 1, 1, 0, 0, 0, 1]), .inLoop (cd31 [1, 1, 1, 0, 0, 0]), .inBlock 0, .code (cd31 [1, 1, 1, 1])]) (us := [(19, .slice A39 t38.length c40), (20, .int .i64 (t38.length : Int))]) (d := 21) (t := (decide ((t38.length : Int) > 0))) (by kernel_rfl) (fun h290 => ?_) (fun h291 => ?_)
     ·skip
      have hp292 := ite_t hv62 h290
      refine sx_run 8 (todo' := [.code (cd31 [1, 1, 1, 0, 0, 0, 1]), .inLoop (cd31 [1, 1, 1, 0, 0, 0]), .inBlock 0, .code (cd31 [1, 1, 1, 1])]) (us := [(22, .bool true), (23, undef), (24, undef), (25, undef), (26, .bool true)]) (by kernel_rfl) ?_
      refine Runs.fill (m := [some (.slice A39 t38.length c40), some (.slice A44 t43.length c45), some (.func (.func 32) #[] #[]), none, none, none, none, none, some (.slice A49 t48.length c50), none, none, none, none, none, none, none, none, none, none, none, none, none, none, none, none, none, none, none, none, none, none, none, none, none, none, none, none, none, none, none, none, none, none, none, none, none, none, none, none, none, none, none, none, none, none, none, none, none, none, none, none, none, none, none, none, none, none]) (by kernel_rfl) ?_
      exact J67 (Option.some.inj hp292) _ _ hS53
     ·skip
      have hp293 := ite_f hv62 h291
      refine sx_split 4 (todo' := [.inRegion (opsOf (cd31 [1, 1, 1, 0, 0, 0, 0, 0])) [7], .code (cd31 [1, 1, 1, 0, 0, 0, 0, 1]), .code (cd31 [1, 1, 1, 0, 0, 0, 1]), .inLoop (cd31 [1, 1, 1, 0, 0, 0]), .inBlock 0, .code (cd31 [1, 1, 1, 1])]) (us := [(22, .bool false), (23, .slice A44 t43.length c45), (24, .int .i64 (t43.length : Int))]) (d := 25) (t := (decide ((t43.length : Int) > 0))) (by kernel_rfl) (fun h294 => ?_) (fun h295 => ?_)
      ·skip
       have hp296 := ite_t hp293 h294
       refine sx_run 4 (todo' := [.code (cd31 [1, 1, 1, 0, 0, 0, 1]), .inLoop (cd31 [1, 1, 1, 0, 0, 0]), .inBlock 0, .code (cd31 [1, 1, 1, 1])]) (us := [(26, .bool true)]) (by kernel_rfl) ?_
       refine Runs.fill (m := [some (.slice A39 t38.length c40), some (.slice A44 t43.length c45), some (.func (.func 32) #[] #[]), none, none, none, none, none, some (.slice A49 t48.length c50), none, none, none, none, none, none, none, none, none, none, none, none, none, none, none, none, none, none, none, none, none, none, none, none, none, none, none, none, none, none, none, none, none, none, none, none, none, none, none, none, none, none, none, none, none, none, none, none, none, none, none, none, none, none, none, none, none, none]) (by kernel_rfl) ?_
       exact J67 (Option.some.inj hp296) _ _ hS53
      ·skip
       have hp297 := ite_f hp293 h295
       refine sx_run 4 (todo' := [.code (cd31 [1, 1, 1, 1])]) (us := [(26, .bool false)]) (by kernel_rfl) ?_
       refine Runs.fill (m := [none, none, none, none, none, none, none, none, some (.slice A49 t48.length c50), none, none, none, none, none, none, none, none, none, none, none, none, none, none, none, none, none, none, none, none, none, none, none, none, none, none, none, none, none, none, none, none, none, none, none, none, none, none, none, none, none, none, none, none, none, none, none, none, none, none, none, none, none, none, none, none, none, none]) (by kernel_rfl) ?_
       exact J34 t48 ((hq66 _ (Option.some.inj hp297)).trans he56) _ A49 c50 _ hS53
    have hS299 := hS17.nilrow none 24 49
    refine Runs.fill (m := [some (.slice Aa0 a0.length ca0), some (.slice Aa1 a1.length ca1), some (.func (.func 32) #[] #[]), none, none, none, none, none, some (.slice none 0 0), none, none, none, none, none, none, none, none, none, none, none, none, none, none, none, none, none, none, none, none, none, none, none, none, none, none, none, none, none, none, none, none, none, none, none, none, none, none, none, none, none, none, none, none, none, none, none, none, none, none, none, none, none, none, none, none, none, none]) (by kernel_rfl) ?_
    exact L60 a0 a1 [] _ hv26 rfl _ Aa0 ca0 Aa1 ca1 none 0 _ hS299 ha0 ha1

noncomputable def cd17 (p : List Nat) : Code := sub (bodyOf Tryd.f17) p
def state_Union.f (a0 : List api_Final) (a1 : List api_Final) : Option ((List api_Final) × Int) :=
  (state_walk.f a0 a1 >>= (fun (t1, t2) => some ((t1, t2))))
set_option maxHeartbeats 16000000 in
theorem state_Union.ok (a0 : List api_Final) (a1 : List api_Final) (Aa0 : Option Addr) (ca0 : Nat) (Aa1 : Option Addr) (ca1 : Nat) {w0 : World} {Z : Zm} {fs : List XObj} {w : World} (hS0 : St w0 Z (fs) w) (ha0 : SlZ (flat enc_api_Final) 49 Z Aa0 ca0 a0) (ha1 : SlZ (flat enc_api_Final) 49 Z Aa1 ca1 a1) {q0 : List api_Final} {q1 : Int} (hp0 : state_Union.f a0 a1 = some (q0, q1)) :
    Calls Tryd.prog 17 #[.slice Aa0 a0.length ca0, .slice Aa1 a1.length ca1] w (fun e w' => ∃ (QA0 : Option Addr) (Qc0 : Nat), e = .returned (.tuple #[.slice QA0 q0.length Qc0, .int .i64 q1]) ∧ St w0 Z (xrow QA0 Qc0 24 49 (q0.flatMap enc_api_Final) :: fs) w') := by
  refine calls_abs ?_; intro R hR
  unfold state_Union.f at hp0
  refine calls_of_runs (fn := Tryd.f17) (c := cd17 []) Tryd.func17 (by kernel_rfl) (al := [.slice Aa0 a0.length ca0, .slice Aa1 a1.length ca1]) rfl (n := 9) rfl ?_
  refine sx_run 9 (todo' := [.inRegion (opsOf (cd17 [1, 0])) [2, 3, 4, 5, 6], .code (cd17 [1, 1])]) (us := [(4, .slice none 0 0), (5, .int .i64 0), (6, .slice Aa0 a0.length ca0), (7, .slice Aa1 a1.length ca1)]) (by kernel_rfl) ?_
  obtain ⟨⟨t1, t2⟩, hr5, hp6⟩ := bind_some' hp0
  try dsimp only at hp6
  refine r_call1 (c := (cd17 [1, 0])) (i := 2) (d := (some 8)) (g := 31) (args := #[.slice Aa0 a0.length ca0, .slice Aa1 a1.length ca1, .func (.func 32) #[] #[]]) (by kernel_rfl) (by kernel_rfl) (by kernel_rfl) (by kernel_rfl) (state_walk.ok a0 a1 Aa0 ca0 Aa1 ca1 hS0 ha0 ha1 hr5) ?_
  rintro _ w8 ⟨Q3, Q4, rfl, hS9⟩
  refine ⟨.tuple #[.slice Q3 t1.length Q4, .int .i64 t2], rfl, ?_⟩
  refine sx_run 5 (todo' := [.code (cd17 [1, 1])]) (us := [(9, .slice Q3 t1.length Q4), (10, .int .i64 t2), (4, .slice Q3 t1.length Q4), (5, .int .i64 t2)]) (by kernel_rfl) ?_
  refine runs_ret (fn := Tryd.f17) (v := .tuple #[.slice Q3 t1.length Q4, .int .i64 t2]) Tryd.func17 (by kernel_rfl) ?_
  have hr10 := (Option.some.inj hp6)
  cases hr10
  exact hR _ _ ⟨Q3, Q4, rfl, hS9⟩

noncomputable def cd33 (p : List Nat) : Code := sub (bodyOf Tryd.f33) p
def state_Meet_1.f (a0 : Bool) (a1 : Bool) : Option Bool :=
  (if a0 = true then some (a1) else some (false))
set_option maxHeartbeats 16000000 in
theorem state_Meet_1.ok (a0 : Bool) (a1 : Bool) {w0 : World} {Z : Zm} {fs : List XObj} {w : World} (hS0 : St w0 Z (fs) w) {q0 : Bool} (hp0 : state_Meet_1.f a0 a1 = some q0) :
    Calls Tryd.prog 33 #[.bool a0, .bool a1] w (fun e w' => e = .returned (.bool q0) ∧ St w0 Z (fs) w') := by
  refine calls_abs ?_; intro R hR
  unfold state_Meet_1.f at hp0
  refine calls_of_runs (fn := Tryd.f33) (c := cd33 []) Tryd.func33 (by kernel_rfl) (al := [.bool a0, .bool a1]) rfl (n := 7) rfl ?_
  refine sx_run 8 (todo' := [.inRegion (opsOf (cd33 [1, 0])) [2, 3, 4], .code (cd33 [1, 1])]) (us := [(4, .bool false), (5, .bool a0), (6, .bool a0)]) (by kernel_rfl) ?_
  cases a0
  ·skip
   have hp1 := ite_f hp0 rfl
   refine sx_run 4 (todo' := [.code (cd33 [1, 1])]) (us := [(7, undef), (8, .bool false), (4, .bool false)]) (by kernel_rfl) ?_
   refine runs_ret (fn := Tryd.f33) (v := .bool false) Tryd.func33 (by kernel_rfl) ?_
   have hr2 := (Option.some.inj hp1)
   cases hr2
   exact hR _ _ ⟨rfl, hS0⟩
  ·skip
   have hp3 := ite_t hp0 rfl
   refine sx_run 4 (todo' := [.code (cd33 [1, 1])]) (us := [(7, .bool a1), (8, .bool a1), (4, .bool a1)]) (by kernel_rfl) ?_
   refine runs_ret (fn := Tryd.f33) (v := .bool a1) Tryd.func33 (by kernel_rfl) ?_
   have hr4 := (Option.some.inj hp3)
   cases hr4
   exact hR _ _ ⟨rfl, hS0⟩

def state_walk_1.l0 (t38 : List api_Final) (t43 : List api_Final) (t48 : List api_Final) : Option (List api_Final) :=
  (((if (decide ((t38.length : Int) > 0)) = true then some (.inl ()) else (if (decide ((t43.length : Int) > 0)) = true then some (.inl ()) else some (.inr (t48)))) : Option (Sum Unit (List api_Final))) >>= (fun | .inl () => (((if ((t38.length : Int) == 0) = true then some (1) else (if (decide ((t43.length : Int) > 0)) = true then (if 0 ≤ (0 : Int) ∧ (0 : Int) < (t38.length : Int) then (if 0 ≤ (0 : Int) ∧ (0 : Int) < (t43.length : Int) then (state_Compare.f (gt t38 (0 : Int)) (gt t43 (0 : Int)) >>= (fun t284 => some (t284))) else none) else none) else some ((-1)))) : Option Int) >>= (fun t73 => (((if (decide (t73 ≤ 0)) = true then (if 0 ≤ (0 : Int) ∧ (0 : Int) < (t38.length : Int) then (if 0 ≤ (1 : Int) ∧ (1 : Int) ≤ (t38.length : Int) then some ((((t38.take t38.length).drop ((1 : Int).toNat)), (gt t38 (0 : Int)))) else none) else none) else some ((t38, (⟨0, (Vector.replicate 48 0)⟩ : api_Final)))) : Option ((List api_Final) × api_Final)) >>= (fun (t86, t91) => (((if (decide (t73 ≥ 0)) = true then (if 0 ≤ (0 : Int) ∧ (0 : Int) < (t43.length : Int) then (if 0 ≤ (1 : Int) ∧ (1 : Int) ≤ (t43.length : Int) then some ((((t43.take t43.length).drop ((1 : Int).toNat)), (gt t43 (0 : Int)))) else none) else none) else some ((t43, t91))) : Option ((List api_Final) × api_Final)) >>= (fun (t100, t105) => (if (decide (t73 ≤ 0)) = true then (if (decide (t73 ≥ 0)) = true then (state_Meet_1.f true true >>= (fun t117 => (if t117 = true then (if (t48.length + ([t105] : List api_Final).length) * 392 ≤ 140737488355328 then (state_walk_1.l0 t86 t100 (t48 ++ ([t105] : List api_Final))) else none) else (state_walk_1.l0 t86 t100 t48)))) else (state_Meet_1.f true false >>= (fun t143 => (if t143 = true then (if (t48.length + ([t105] : List api_Final).length) * 392 ≤ 140737488355328 then (state_walk_1.l0 t86 t100 (t48 ++ ([t105] : List api_Final))) else none) else (state_walk_1.l0 t86 t100 t48))))) else (if (decide (t73 ≥ 0)) = true then (state_Meet_1.f false true >>= (fun t172 => (if t172 = true then (if (t48.length + ([t105] : List api_Final).length) * 392 ≤ 140737488355328 then (state_walk_1.l0 t86 t100 (t48 ++ ([t105] : List api_Final))) else none) else (state_walk_1.l0 t86 t100 t48)))) else (state_Meet_1.f false false >>= (fun t198 => (if t198 = true then (if (t48.length + ([t105] : List api_Final).length) * 392 ≤ 140737488355328 then (state_walk_1.l0 t86 t100 (t48 ++ ([t105] : List api_Final))) else none) else (state_walk_1.l0 t86 t100 t48)))))))))))) | .inr e => some e))
 partial_fixpoint
def state_walk_1.f (a0 : List api_Final) (a1 : List api_Final) : Option ((List api_Final) × Int) :=
  (state_Rises.f a0 >>= (fun t1 => (if (!t1) = true then some (([], 100)) else (state_Rises.f a1 >>= (fun t13 => (if (!t13) = true then some (([], 100)) else (state_walk_1.l0 a0 a1 [] >>= (fun t28 => some ((t28, 0))))))))))
set_option maxHeartbeats 16000000 in
theorem state_walk_1.ok (a0 : List api_Final) (a1 : List api_Final) (Aa0 : Option Addr) (ca0 : Nat) (Aa1 : Option Addr) (ca1 : Nat) {w0 : World} {Z : Zm} {fs : List XObj} {w : World} (hS0 : St w0 Z (fs) w) (ha0 : SlZ (flat enc_api_Final) 49 Z Aa0 ca0 a0) (ha1 : SlZ (flat enc_api_Final) 49 Z Aa1 ca1 a1) {q0 : List api_Final} {q1 : Int} (hp0 : state_walk_1.f a0 a1 = some (q0, q1)) :
    Calls Tryd.prog 31 #[.slice Aa0 a0.length ca0, .slice Aa1 a1.length ca1, .func (.func 33) #[] #[]] w (fun e w' => ∃ (QA0 : Option Addr) (Qc0 : Nat), e = .returned (.tuple #[.slice QA0 q0.length Qc0, .int .i64 q1]) ∧ St w0 Z (xrow QA0 Qc0 24 49 (q0.flatMap enc_api_Final) :: fs) w') := by
  refine calls_abs ?_; intro R hR
  unfold state_walk_1.f at hp0
  refine calls_of_runs (fn := Tryd.f31) (c := cd31 []) Tryd.func31 (by kernel_rfl) (al := [.slice Aa0 a0.length ca0, .slice Aa1 a1.length ca1, .func (.func 33) #[] #[]]) rfl (n := 64) rfl ?_
  refine sx_run 9 (todo' := [.inRegion (opsOf (cd31 [1, 0, 0])) [1, 2, 3, 4, 5, 6, 7], .code (cd31 [1, 0, 1]), .code (cd31 [1, 1])]) (us := [(6, .slice none 0 0), (7, .int .i64 0), (11, .slice Aa0 a0.length ca0)]) (by kernel_rfl) ?_
  obtain ⟨t1, hr2, hp3⟩ := bind_some' hp0
  refine r_call1 (c := (cd31 [1, 0, 0])) (i := 1) (d := (some 12)) (g := 13) (args := #[.slice Aa0 a0.length ca0]) (by kernel_rfl) (by kernel_rfl) (by kernel_rfl) (by kernel_rfl) (state_Rises.ok a0 Aa0 ca0 hS0 ha0 hr2) ?_
  rintro _ w4 ⟨rfl, hS5⟩
  refine ⟨.bool t1, rfl, ?_⟩
  refine sx_split 1 (todo' := [.inRegion (opsOf (cd31 [1, 0, 0])) [3, 4, 5, 6, 7], .code (cd31 [1, 0, 1]), .code (cd31 [1, 1])]) (us := []) (d := 13) (t := (!t1)) (by kernel_rfl) (fun h6 => ?_) (fun h7 => ?_)
  ·skip
   have hp8 := ite_t hp3 h6
   refine sx_run 12 (todo' := [.code (cd31 [1, 0, 1, 0, 1]), .code (cd31 [1, 1])]) (us := [(14, .bool true), (15, undef), (16, undef), (17, undef), (18, .bool true), (6, .slice none 0 0), (7, .int .i64 100)]) (by kernel_rfl) ?_
   have hS10 := hS5.nilrow none 24 49
   refine runs_ret (fn := Tryd.f31) (v := .tuple #[.slice none 0 0, .int .i64 100]) Tryd.func31 (by kernel_rfl) ?_
   have hr11 := (Option.some.inj hp8)
   cases hr11
   exact hR _ _ ⟨none, 0, rfl, hS10⟩
  ·skip
   have hp12 := ite_f hp3 h7
   refine sx_run 2 (todo' := [.inRegion (opsOf (cd31 [1, 0, 0])) [5, 6, 7], .code (cd31 [1, 0, 1]), .code (cd31 [1, 1])]) (us := [(14, .bool false), (15, .slice Aa1 a1.length ca1)]) (by kernel_rfl) ?_
   obtain ⟨t13, hr14, hp15⟩ := bind_some' hp12
   refine r_call1 (c := (cd31 [1, 0, 0])) (i := 5) (d := (some 16)) (g := 13) (args := #[.slice Aa1 a1.length ca1]) (by kernel_rfl) (by kernel_rfl) (by kernel_rfl) (by kernel_rfl) (state_Rises.ok a1 Aa1 ca1 hS5 ha1 hr14) ?_
   rintro _ w16 ⟨rfl, hS17⟩
   refine ⟨.bool t13, rfl, ?_⟩
   refine sx_split 1 (todo' := [.inRegion (opsOf (cd31 [1, 0, 0])) [7], .code (cd31 [1, 0, 1]), .code (cd31 [1, 1])]) (us := []) (d := 17) (t := (!t13)) (by kernel_rfl) (fun h18 => ?_) (fun h19 => ?_)
   ·skip
    have hp20 := ite_t hp15 h18
    refine sx_run 8 (todo' := [.code (cd31 [1, 0, 1, 0, 1]), .code (cd31 [1, 1])]) (us := [(18, .bool true), (6, .slice none 0 0), (7, .int .i64 100)]) (by kernel_rfl) ?_
    have hS22 := hS17.nilrow none 24 49
    refine runs_ret (fn := Tryd.f31) (v := .tuple #[.slice none 0 0, .int .i64 100]) Tryd.func31 (by kernel_rfl) ?_
    have hr23 := (Option.some.inj hp20)
    cases hr23
    exact hR _ _ ⟨none, 0, rfl, hS22⟩
   ·skip
    have hp24 := ite_f hp15 h19
    refine sx_run 11 (todo' := [.code (cd31 [1, 1, 1, 0, 0, 0]), .inLoop (cd31 [1, 1, 1, 0, 0, 0]), .inBlock 0, .code (cd31 [1, 1, 1, 1])]) (us := [(18, .bool false), (8, .slice none 0 0)]) (by kernel_rfl) ?_
    obtain ⟨v25, hv26, hp27⟩ := bind_some' hp24
    have J34 : ∀ (t28 : List api_Final) (he36 : t28 = v25) (l35 : List Value) (A29 : Option Addr) (c30 : Nat) (w32 : World) (hS33 : St w0 Z (xrow A29 c30 24 49 (t28.flatMap enc_api_Final) :: fs) w32), Runs Tryd.prog 31 [.code (cd31 [1, 1, 1, 1])] (fill [none, none, none, none, none, none, none, none, some (.slice A29 t28.length c30), none, none, none, none, none, none, none, none, none, none, none, none, none, none, none, none, none, none, none, none, none, none, none, none, none, none, none, none, none, none, none, none, none, none, none, none, none, none, none, none, none, none, none, none, none, none, none, none, none, none, none, none, none, none, none, none, none, none] l35) w32 R := by
     intro t28 he36 l35 A29 c30 w32 hS33
     subst he36
     try dsimp only at hp27
     refine sx_run 6 (todo' := [.code (cd31 [1, 1, 1, 1, 1])]) (us := [(66, .slice A29 t28.length c30), (6, .slice A29 t28.length c30), (7, .int .i64 0)]) (by kernel_rfl) ?_
     refine runs_ret (fn := Tryd.f31) (v := .tuple #[.slice A29 t28.length c30, .int .i64 0]) Tryd.func31 (by kernel_rfl) ?_
     have hr37 := (Option.some.inj hp27)
     cases hr37
     exact hR _ _ ⟨A29, c30, rfl, hS33⟩
    have L60 : ∀ (t38 : List api_Final) (t43 : List api_Final) (t48 : List api_Final) (e55 : (List api_Final)), state_walk_1.l0 t38 t43 t48 = some e55 → e55 = v25 → ∀ (l54 : List Value) (A39 : Option Addr) (c40 : Nat) (A44 : Option Addr) (c45 : Nat) (A49 : Option Addr) (c50 : Nat) (w52 : World) (hS53 : St w0 Z (xrow A49 c50 24 49 (t48.flatMap enc_api_Final) :: fs) w52) (hs42 : SlZ (flat enc_api_Final) 49 Z A39 c40 t38) (hs47 : SlZ (flat enc_api_Final) 49 Z A44 c45 t43), Runs Tryd.prog 31 [.code (cd31 [1, 1, 1, 0, 0, 0]), .inLoop (cd31 [1, 1, 1, 0, 0, 0]), .inBlock 0, .code (cd31 [1, 1, 1, 1])] (fill [some (.slice A39 t38.length c40), some (.slice A44 t43.length c45), some (.func (.func 33) #[] #[]), none, none, none, none, none, some (.slice A49 t48.length c50), none, none, none, none, none, none, none, none, none, none, none, none, none, none, none, none, none, none, none, none, none, none, none, none, none, none, none, none, none, none, none, none, none, none, none, none, none, none, none, none, none, none, none, none, none, none, none, none, none, none, none, none, none, none, none, none, none, none] l54) w52 R := by
     refine state_walk_1.l0.partial_correctness (fun t38 t43 t48 e55 => e55 = v25 → ∀ (l54 : List Value) (A39 : Option Addr) (c40 : Nat) (A44 : Option Addr) (c45 : Nat) (A49 : Option Addr) (c50 : Nat) (w52 : World) (hS53 : St w0 Z (xrow A49 c50 24 49 (t48.flatMap enc_api_Final) :: fs) w52) (hs42 : SlZ (flat enc_api_Final) 49 Z A39 c40 t38) (hs47 : SlZ (flat enc_api_Final) 49 Z A44 c45 t43), Runs Tryd.prog 31 [.code (cd31 [1, 1, 1, 0, 0, 0]), .inLoop (cd31 [1, 1, 1, 0, 0, 0]), .inBlock 0, .code (cd31 [1, 1, 1, 1])] (fill [some (.slice A39 t38.length c40), some (.slice A44 t43.length c45), some (.func (.func 33) #[] #[]), none, none, none, none, none, some (.slice A49 t48.length c50), none, none, none, none, none, none, none, none, none, none, none, none, none, none, none, none, none, none, none, none, none, none, none, none, none, none, none, none, none, none, none, none, none, none, none, none, none, none, none, none, none, none, none, none, none, none, none, none, none, none, none, none, none, none, none, none, none, none] l54) w52 R) ?_
     intro rec59 ih58 t38 t43 t48 e55 hb57 he56 l54 A39 c40 A44 c45 A49 c50 w52 hS53 hs42 hs47
     obtain ⟨v61, hv62, hp63⟩ := bind_some' hb57
     have hq66 : ∀ x, Sum.inr x = v61 → x = e55 := by intro x hx; subst hx; simpa using hp63
     have J67 : ∀ (he69 : Sum.inl () = v61) (l68 : List Value) (w64 : World) (hS65 : St w0 Z (xrow A49 c50 24 49 (t48.flatMap enc_api_Final) :: fs) w64), Runs Tryd.prog 31 [.code (cd31 [1, 1, 1, 0, 0, 0, 1]), .inLoop (cd31 [1, 1, 1, 0, 0, 0]), .inBlock 0, .code (cd31 [1, 1, 1, 1])] (fill [some (.slice A39 t38.length c40), some (.slice A44 t43.length c45), some (.func (.func 33) #[] #[]), none, none, none, none, none, some (.slice A49 t48.length c50), none, none, none, none, none, none, none, none, none, none, none, none, none, none, none, none, none, none, none, none, none, none, none, none, none, none, none, none, none, none, none, none, none, none, none, none, none, none, none, none, none, none, none, none, none, none, none, none, none, none, none, none, none, none, none, none, none, none] l68) w64 R := by
      intro he69 l68 w64 hS65
      subst he69
      try dsimp only at hp63
      obtain ⟨v70, hv71, hp72⟩ := bind_some' hp63
      have J76 : ∀ (t73 : Int) (he78 : t73 = v70) (l77 : List Value) (w74 : World) (hS75 : St w0 Z (xrow A49 c50 24 49 (t48.flatMap enc_api_Final) :: fs) w74), Runs Tryd.prog 31 [.code (cd31 [1, 1, 1, 0, 0, 0, 1, 0, 1, 1]), .inBlock 1, .inLoop (cd31 [1, 1, 1, 0, 0, 0]), .inBlock 0, .code (cd31 [1, 1, 1, 1])] (fill [some (.slice A39 t38.length c40), some (.slice A44 t43.length c45), some (.func (.func 33) #[] #[]), none, none, none, none, none, some (.slice A49 t48.length c50), some (.int .i64 t73), none, none, none, none, none, none, none, none, none, none, none, none, none, none, none, none, none, none, none, none, none, none, none, none, none, none, none, none, none, none, none, none, none, none, none, none, none, none, none, none, none, none, none, none, none, none, none, none, none, none, none, none, none, none, none, none, none] l77) w74 R := by
       intro t73 he78 l77 w74 hS75
       subst he78
       try dsimp only at hp72
       refine sx_run 2 (todo' := [.inRegion (opsOf (cd31 [1, 1, 1, 0, 0, 0, 1, 0, 1, 1, 0])) [0], .code (cd31 [1, 1, 1, 0, 0, 0, 1, 0, 1, 1, 1]), .inBlock 1, .inLoop (cd31 [1, 1, 1, 0, 0, 0]), .inBlock 0, .code (cd31 [1, 1, 1, 1])]) (us := []) (by kernel_rfl) ?_
       refine r_alloc (c := (cd31 [1, 1, 1, 0, 0, 0, 1, 0, 1, 1, 0])) (i := 0) (d := (some 10)) (ty := 0) (z := .agg (enc_api_Final (⟨0, (Vector.replicate 48 0)⟩ : api_Final)).toArray) (t := 24) (cs := enc_api_Final (⟨0, (Vector.replicate 48 0)⟩ : api_Final)) hS75 (by kernel_rfl) (by kernel_rfl) (by kernel_rfl) (by kernel_rfl) ?_
       intro b79 w80 hS81
       obtain ⟨v83, hv84, hp85⟩ := bind_some' hp72
       have J94 : ∀ (t86 : List api_Final) (t91 : api_Final) (he96 : (t86, t91) = v83) (l95 : List Value) (A87 : Option Addr) (c88 : Nat) (w92 : World) (hS93 : St w0 Z (xrow A49 c50 24 49 (t48.flatMap enc_api_Final) :: xblk b79 24 (enc_api_Final t91) :: fs) w92) (hs90 : SlZ (flat enc_api_Final) 49 Z A87 c88 t86), Runs Tryd.prog 31 [.code (cd31 [1, 1, 1, 0, 0, 0, 1, 0, 1, 1, 1, 1]), .inBlock 1, .inLoop (cd31 [1, 1, 1, 0, 0, 0]), .inBlock 0, .code (cd31 [1, 1, 1, 1])] (fill [some (.slice A87 t86.length c88), some (.slice A44 t43.length c45), some (.func (.func 33) #[] #[]), none, none, none, none, none, some (.slice A49 t48.length c50), some (.int .i64 t73), some (.pointer (some ⟨b79, 0, none⟩)), none, none, none, none, none, none, none, none, none, none, none, none, none, none, none, none, none, none, none, none, none, none, none, none, none, none, none, none, none, none, none, none, none, none, none, none, none, none, none, none, none, none, none, none, none, none, none, none, none, none, none, none, none, none, none, none] l95) w92 R := by
        intro t86 t91 he96 l95 A87 c88 w92 hS93 hs90
        subst he96
        try dsimp only at hp85
        obtain ⟨v97, hv98, hp99⟩ := bind_some' hp85
        have J108 : ∀ (t100 : List api_Final) (t105 : api_Final) (he110 : (t100, t105) = v97) (l109 : List Value) (A101 : Option Addr) (c102 : Nat) (w106 : World) (hS107 : St w0 Z (xrow A49 c50 24 49 (t48.flatMap enc_api_Final) :: xblk b79 24 (enc_api_Final t105) :: fs) w106) (hs104 : SlZ (flat enc_api_Final) 49 Z A101 c102 t100), Runs Tryd.prog 31 [.code (cd31 [1, 1, 1, 0, 0, 0, 1, 0, 1, 1, 1, 1, 1]), .inBlock 1, .inLoop (cd31 [1, 1, 1, 0, 0, 0]), .inBlock 0, .code (cd31 [1, 1, 1, 1])] (fill [some (.slice A87 t86.length c88), some (.slice A101 t100.length c102), some (.func (.func 33) #[] #[]), none, none, none, none, none, some (.slice A49 t48.length c50), some (.int .i64 t73), some (.pointer (some ⟨b79, 0, none⟩)), none, none, none, none, none, none, none, none, none, none, none, none, none, none, none, none, none, none, none, none, none, none, none, none, none, none, none, none, none, none, none, none, none, none, none, none, none, none, none, none, none, none, none, none, none, none, none, none, none, none, none, none, none, none, none, none] l109) w106 R := by
         intro t100 t105 he110 l109 A101 c102 w106 hS107 hs104
         subst he110
         try dsimp only at hp99
         refine sx_split 5 (todo' := [.inRegion (opsOf (cd31 [1, 1, 1, 0, 0, 0, 1, 0, 1, 1, 1, 1, 1, 0])) [3, 4, 5], .code (cd31 [1, 1, 1, 0, 0, 0, 1, 0, 1, 1, 1, 1, 1, 1]), .inBlock 1, .inLoop (cd31 [1, 1, 1, 0, 0, 0]), .inBlock 0, .code (cd31 [1, 1, 1, 1])]) (us := [(56, .func (.func 33) #[] #[]), (57, .int .i64 t73)]) (d := 58) (t := (decide (t73 ≤ 0))) (by kernel_rfl) (fun h111 => ?_) (fun h112 => ?_)
         ·skip
          have hp113 := ite_t hp99 h111
          refine sx_split 2 (todo' := [.inRegion (opsOf (cd31 [1, 1, 1, 0, 0, 0, 1, 0, 1, 1, 1, 1, 1, 0])) [5], .code (cd31 [1, 1, 1, 0, 0, 0, 1, 0, 1, 1, 1, 1, 1, 1]), .inBlock 1, .inLoop (cd31 [1, 1, 1, 0, 0, 0]), .inBlock 0, .code (cd31 [1, 1, 1, 1])]) (us := [(59, .int .i64 t73)]) (d := 60) (t := (decide (t73 ≥ 0))) (by kernel_rfl) (fun h114 => ?_) (fun h115 => ?_)
          ·skip
           have hp116 := ite_t hp113 h114
           obtain ⟨t117, hr118, hp119⟩ := bind_some' hp116
           refine r_call1 (c := (cd31 [1, 1, 1, 0, 0, 0, 1, 0, 1, 1, 1, 1, 1, 0])) (i := 5) (d := (some 61)) (g := 33) (args := #[.bool true, .bool true]) (by kernel_rfl) (by kernel_rfl) (by kernel_rfl) (by kernel_rfl) (state_Meet_1.ok true true hS107 hr118) ?_
           rintro _ w120 ⟨rfl, hS121⟩
           refine ⟨.bool t117, rfl, ?_⟩
           refine sx_run 1 (todo' := [.code (cd31 [1, 1, 1, 0, 0, 0, 1, 0, 1, 1, 1, 1, 1, 1]), .inBlock 1, .inLoop (cd31 [1, 1, 1, 0, 0, 0]), .inBlock 0, .code (cd31 [1, 1, 1, 1])]) (us := []) (by kernel_rfl) ?_
           cases t117
           ·skip
            have hp122 := ite_f hp119 rfl
            refine sx_run 3 (todo' := [.inLoop (cd31 [1, 1, 1, 0, 0, 0]), .inBlock 0, .code (cd31 [1, 1, 1, 1])]) (us := []) (by kernel_rfl) ?_
            have hS123 := hS121.pick1
            have hS124 := hS123.drop
            refine sx_run 1 (todo' := [.code (cd31 [1, 1, 1, 0, 0, 0]), .inLoop (cd31 [1, 1, 1, 0, 0, 0]), .inBlock 0, .code (cd31 [1, 1, 1, 1])]) (us := []) (by kernel_rfl) ?_
            refine Runs.fill (m := [some (.slice A87 t86.length c88), some (.slice A101 t100.length c102), some (.func (.func 33) #[] #[]), none, none, none, none, none, some (.slice A49 t48.length c50), none, none, none, none, none, none, none, none, none, none, none, none, none, none, none, none, none, none, none, none, none, none, none, none, none, none, none, none, none, none, none, none, none, none, none, none, none, none, none, none, none, none, none, none, none, none, none, none, none, none, none, none, none, none, none, none, none, none]) (by kernel_rfl) ?_
            exact ih58 t86 t100 t48 _ hp122 he56 _ A87 c88 A101 c102 A49 c50 _ hS124 hs90 hs104
           ·skip
            have hp125 := ite_t hp119 rfl
            refine sx_run 3 (todo' := [.inRegion (opsOf (cd31 [1, 1, 1, 0, 0, 0, 1, 0, 1, 1, 1, 1, 1, 1, 0])) [1, 2, 3, 4], .inBlock 1, .inLoop (cd31 [1, 1, 1, 0, 0, 0]), .inBlock 0, .code (cd31 [1, 1, 1, 1])]) (us := [(62, .slice A49 t48.length c50)]) (by kernel_rfl) ?_
            refine r_load (c := (cd31 [1, 1, 1, 0, 0, 0, 1, 0, 1, 1, 1, 1, 1, 1, 0])) (i := 1) (d := (some 63)) (ty := 24) (t := 24) (x := (.tmp 10)) (p := ⟨b79, 0, none⟩) (v := .agg (enc_api_Final t105).toArray) (by kernel_rfl) (by kernel_rfl) (by kernel_rfl) (loads_agg (hS121.blk 1 rfl) (by kernel_rfl) (lenK (len_api_Final _) (by kernel_rfl))) ?_
            refine r_lit (c := (cd31 [1, 1, 1, 0, 0, 0, 1, 0, 1, 1, 1, 1, 1, 1, 0])) (i := 2) (d := (some 64)) (ty := 28) (t := 28) (e := 24) (sz := 49) (n := 1) (parts := #[(0, (.tmp 63))]) (vs := [(0, .agg (enc_api_Final t105).toArray)]) (z := zeroOf Tryd.prog 24) (cs' := ([t105] : List api_Final).flatMap enc_api_Final) hS121 (by kernel_rfl) (by kernel_rfl) (by kernel_rfl) (by kernel_rfl) (by kernel_rfl) (by decide) (by decide) (by kernel_rfl) rfl (Parts.cons (c := enc_api_Final t105) (by kernel_rfl) (len_api_Final _) Parts.nil) rfl ?_
            intro b127 w128 hS129
            have hS130 := hS129.pick1
            obtain ⟨g131, hp132⟩ := ite_some hp125
            refine r_append (c := (cd31 [1, 1, 1, 0, 0, 0, 1, 0, 1, 1, 1, 1, 1, 1, 0])) (i := 3) (d := (some 65)) (ty := 28) (enc := enc_api_Final) (e := 24) (u := 24) (t := 28) (t2 := 28) (sz := 49) (cp := c50) (A := A49) (bytes := 392) (xs := t48) (ys := ([t105] : List api_Final)) (s := (.tmp 62)) (x := (.tmp 64)) (xv := .slice (some ⟨b127, 0, none⟩) ([t105] : List api_Final).length 1) (info := infoOf Tryd.prog 24) (z := zeroOf Tryd.prog 24) (ycs := ([t105] : List api_Final).flatMap enc_api_Final) hS130 (by kernel_rfl) (by kernel_rfl) (by kernel_rfl) (by kernel_rfl) (by kernel_rfl) (.inl (by kernel_rfl)) (by kernel_rfl) (by kernel_rfl) (by kernel_rfl) (by kernel_rfl) (by kernel_rfl) (by omega) len_api_Final one_api_Final (src_row (hS130.row 1 rfl) (by omega) len_api_Final) rfl g131 (by omega) ?_
            intro A133 c134 w135 hS136
            refine sx_run 3 (todo' := [.inLoop (cd31 [1, 1, 1, 0, 0, 0]), .inBlock 0, .code (cd31 [1, 1, 1, 1])]) (us := [(8, .slice A133 (t48 ++ ([t105] : List api_Final)).length c134)]) (by kernel_rfl) ?_
            have hS138 := hS136.pick1
            have hS139 := hS138.drop
            have hS140 := hS139.pick1
            have hS141 := hS140.drop
            refine sx_run 1 (todo' := [.code (cd31 [1, 1, 1, 0, 0, 0]), .inLoop (cd31 [1, 1, 1, 0, 0, 0]), .inBlock 0, .code (cd31 [1, 1, 1, 1])]) (us := []) (by kernel_rfl) ?_
            refine Runs.fill (m := [some (.slice A87 t86.length c88), some (.slice A101 t100.length c102), some (.func (.func 33) #[] #[]), none, none, none, none, none, some (.slice A133 (t48 ++ ([t105] : List api_Final)).length c134), none, none, none, none, none, none, none, none, none, none, none, none, none, none, none, none, none, none, none, none, none, none, none, none, none, none, none, none, none, none, none, none, none, none, none, none, none, none, none, none, none, none, none, none, none, none, none, none, none, none, none, none, none, none, none, none, none, none]) (by kernel_rfl) ?_
            exact ih58 t86 t100 (t48 ++ ([t105] : List api_Final)) _ hp132 he56 _ A87 c88 A101 c102 A133 c134 _ hS141 hs90 hs104
          ·skip
           have hp142 := ite_f hp113 h115
           obtain ⟨t143, hr144, hp145⟩ := bind_some' hp142
           refine r_call1 (c := (cd31 [1, 1, 1, 0, 0, 0, 1, 0, 1, 1, 1, 1, 1, 0])) (i := 5) (d := (some 61)) (g := 33) (args := #[.bool true, .bool false]) (by kernel_rfl) (by kernel_rfl) (by kernel_rfl) (by kernel_rfl) (state_Meet_1.ok true false hS107 hr144) ?_
           rintro _ w146 ⟨rfl, hS147⟩
           refine ⟨.bool t143, rfl, ?_⟩
           refine sx_run 1 (todo' := [.code (cd31 [1, 1, 1, 0, 0, 0, 1, 0, 1, 1, 1, 1, 1, 1]), .inBlock 1, .inLoop (cd31 [1, 1, 1, 0, 0, 0]), .inBlock 0, .code (cd31 [1, 1, 1, 1])]) (us := []) (by kernel_rfl) ?_
           cases t143
           ·skip
            have hp148 := ite_f hp145 rfl
            refine sx_run 3 (todo' := [.inLoop (cd31 [1, 1, 1, 0, 0, 0]), .inBlock 0, .code (cd31 [1, 1, 1, 1])]) (us := []) (by kernel_rfl) ?_
            have hS149 := hS147.pick1
            have hS150 := hS149.drop
            refine sx_run 1 (todo' := [.code (cd31 [1, 1, 1, 0, 0, 0]), .inLoop (cd31 [1, 1, 1, 0, 0, 0]), .inBlock 0, .code (cd31 [1, 1, 1, 1])]) (us := []) (by kernel_rfl) ?_
            refine Runs.fill (m := [some (.slice A87 t86.length c88), some (.slice A101 t100.length c102), some (.func (.func 33) #[] #[]), none, none, none, none, none, some (.slice A49 t48.length c50), none, none, none, none, none, none, none, none, none, none, none, none, none, none, none, none, none, none, none, none, none, none, none, none, none, none, none, none, none, none, none, none, none, none, none, none, none, none, none, none, none, none, none, none, none, none, none, none, none, none, none, none, none, none, none, none, none, none]) (by kernel_rfl) ?_
            exact ih58 t86 t100 t48 _ hp148 he56 _ A87 c88 A101 c102 A49 c50 _ hS150 hs90 hs104
           ·skip
            have hp151 := ite_t hp145 rfl
            refine sx_run 3 (todo' := [.inRegion (opsOf (cd31 [1, 1, 1, 0, 0, 0, 1, 0, 1, 1, 1, 1, 1, 1, 0])) [1, 2, 3, 4], .inBlock 1, .inLoop (cd31 [1, 1, 1, 0, 0, 0]), .inBlock 0, .code (cd31 [1, 1, 1, 1])]) (us := [(62, .slice A49 t48.length c50)]) (by kernel_rfl) ?_
            refine r_load (c := (cd31 [1, 1, 1, 0, 0, 0, 1, 0, 1, 1, 1, 1, 1, 1, 0])) (i := 1) (d := (some 63)) (ty := 24) (t := 24) (x := (.tmp 10)) (p := ⟨b79, 0, none⟩) (v := .agg (enc_api_Final t105).toArray) (by kernel_rfl) (by kernel_rfl) (by kernel_rfl) (loads_agg (hS147.blk 1 rfl) (by kernel_rfl) (lenK (len_api_Final _) (by kernel_rfl))) ?_
            refine r_lit (c := (cd31 [1, 1, 1, 0, 0, 0, 1, 0, 1, 1, 1, 1, 1, 1, 0])) (i := 2) (d := (some 64)) (ty := 28) (t := 28) (e := 24) (sz := 49) (n := 1) (parts := #[(0, (.tmp 63))]) (vs := [(0, .agg (enc_api_Final t105).toArray)]) (z := zeroOf Tryd.prog 24) (cs' := ([t105] : List api_Final).flatMap enc_api_Final) hS147 (by kernel_rfl) (by kernel_rfl) (by kernel_rfl) (by kernel_rfl) (by kernel_rfl) (by decide) (by decide) (by kernel_rfl) rfl (Parts.cons (c := enc_api_Final t105) (by kernel_rfl) (len_api_Final _) Parts.nil) rfl ?_
            intro b153 w154 hS155
            have hS156 := hS155.pick1
            obtain ⟨g157, hp158⟩ := ite_some hp151
            refine r_append (c := (cd31 [1, 1, 1, 0, 0, 0, 1, 0, 1, 1, 1, 1, 1, 1, 0])) (i := 3) (d := (some 65)) (ty := 28) (enc := enc_api_Final) (e := 24) (u := 24) (t := 28) (t2 := 28) (sz := 49) (cp := c50) (A := A49) (bytes := 392) (xs := t48) (ys := ([t105] : List api_Final)) (s := (.tmp 62)) (x := (.tmp 64)) (xv := .slice (some ⟨b153, 0, none⟩) ([t105] : List api_Final).length 1) (info := infoOf Tryd.prog 24) (z := zeroOf Tryd.prog 24) (ycs := ([t105] : List api_Final).flatMap enc_api_Final) hS156 (by kernel_rfl) (by kernel_rfl) (by kernel_rfl) (by kernel_rfl) (by kernel_rfl) (.inl (by kernel_rfl)) (by kernel_rfl) (by kernel_rfl) (by kernel_rfl) (by kernel_rfl) (by kernel_rfl) (by omega) len_api_Final one_api_Final (src_row (hS156.row 1 rfl) (by omega) len_api_Final) rfl g157 (by omega) ?_
            intro A159 c160 w161 hS162
            refine sx_run 3 (todo' := [.inLoop (cd31 [1, 1, 1, 0, 0, 0]), .inBlock 0, .code (cd31 [1, 1, 1, 1])]) (us := [(8, .slice A159 (t48 ++ ([t105] : List api_Final)).length c160)]) (by kernel_rfl) ?_
            have hS164 := hS162.pick1
            have hS165 := hS164.drop
            have hS166 := hS165.pick1
            have hS167 := hS166.drop
            refine sx_run 1 (todo' := [.code (cd31 [1, 1, 1, 0, 0, 0]), .inLoop (cd31 [1, 1, 1, 0, 0, 0]), .inBlock 0, .code (cd31 [1, 1, 1, 1])]) (us := []) (by kernel_rfl) ?_
            refine Runs.fill (m := [some (.slice A87 t86.length c88), some (.slice A101 t100.length c102), some (.func (.func 33) #[] #[]), none, none, none, none, none, some (.slice A159 (t48 ++ ([t105] : List api_Final)).length c160), none, none, none, none, none, none, none, none, none, none, none, none, none, none, none, none, none, none, none, none, none, none, none, none, none, none, none, none, none, none, none, none, none, none, none, none, none, none, none, none, none, none, none, none, none, none, none, none, none, none, none, none, none, none, none, none, none, none]) (by kernel_rfl) ?_
            exact ih58 t86 t100 (t48 ++ ([t105] : List api_Final)) _ hp158 he56 _ A87 c88 A101 c102 A159 c160 _ hS167 hs90 hs104
         ·skip
          have hp168 := ite_f hp99 h112
          refine sx_split 2 (todo' := [.inRegion (opsOf (cd31 [1, 1, 1, 0, 0, 0, 1, 0, 1, 1, 1, 1, 1, 0])) [5], .code (cd31 [1, 1, 1, 0, 0, 0, 1, 0, 1, 1, 1, 1, 1, 1]), .inBlock 1, .inLoop (cd31 [1, 1, 1, 0, 0, 0]), .inBlock 0, .code (cd31 [1, 1, 1, 1])]) (us := [(59, .int .i64 t73)]) (d := 60) (t := (decide (t73 ≥ 0))) (by kernel_rfl) (fun h169 => ?_) (fun h170 => ?_)
          ·skip
           have hp171 := ite_t hp168 h169
           obtain ⟨t172, hr173, hp174⟩ := bind_some' hp171
           refine r_call1 (c := (cd31 [1, 1, 1, 0, 0, 0, 1, 0, 1, 1, 1, 1, 1, 0])) (i := 5) (d := (some 61)) (g := 33) (args := #[.bool false, .bool true]) (by kernel_rfl) (by kernel_rfl) (by kernel_rfl) (by kernel_rfl) (state_Meet_1.ok false true hS107 hr173) ?_
           rintro _ w175 ⟨rfl, hS176⟩
           refine ⟨.bool t172, rfl, ?_⟩
           refine sx_run 1 (todo' := [.code (cd31 [1, 1, 1, 0, 0, 0, 1, 0, 1, 1, 1, 1, 1, 1]), .inBlock 1, .inLoop (cd31 [1, 1, 1, 0, 0, 0]), .inBlock 0, .code (cd31 [1, 1, 1, 1])]) (us := []) (by kernel_rfl) ?_
           cases t172
           ·skip
            have hp177 := ite_f hp174 rfl
            refine sx_run 3 (todo' := [.inLoop (cd31 [1, 1, 1, 0, 0, 0]), .inBlock 0, .code (cd31 [1, 1, 1, 1])]) (us := []) (by kernel_rfl) ?_
            have hS178 := hS176.pick1
            have hS179 := hS178.drop
            refine sx_run 1 (todo' := [.code (cd31 [1, 1, 1, 0, 0, 0]), .inLoop (cd31 [1, 1, 1, 0, 0, 0]), .inBlock 0, .code (cd31 [1, 1, 1, 1])]) (us := []) (by kernel_rfl) ?_
            refine Runs.fill (m := [some (.slice A87 t86.length c88), some (.slice A101 t100.length c102), some (.func (.func 33) #[] #[]), none, none, none, none, none, some (.slice A49 t48.length c50), none, none, none, none, none, none, none, none, none, none, none, none, none, none, none, none, none, none, none, none, none, none, none, none, none, none, none, none, none, none, none, none, none, none, none, none, none, none, none, none, none, none, none, none, none, none, none, none, none, none, none, none, none, none, none, none, none, none]) (by kernel_rfl) ?_
            exact ih58 t86 t100 t48 _ hp177 he56 _ A87 c88 A101 c102 A49 c50 _ hS179 hs90 hs104
           ·skip
            have hp180 := ite_t hp174 rfl
            refine sx_run 3 (todo' := [.inRegion (opsOf (cd31 [1, 1, 1, 0, 0, 0, 1, 0, 1, 1, 1, 1, 1, 1, 0])) [1, 2, 3, 4], .inBlock 1, .inLoop (cd31 [1, 1, 1, 0, 0, 0]), .inBlock 0, .code (cd31 [1, 1, 1, 1])]) (us := [(62, .slice A49 t48.length c50)]) (by kernel_rfl) ?_
            refine r_load (c := (cd31 [1, 1, 1, 0, 0, 0, 1, 0, 1, 1, 1, 1, 1, 1, 0])) (i := 1) (d := (some 63)) (ty := 24) (t := 24) (x := (.tmp 10)) (p := ⟨b79, 0, none⟩) (v := .agg (enc_api_Final t105).toArray) (by kernel_rfl) (by kernel_rfl) (by kernel_rfl) (loads_agg (hS176.blk 1 rfl) (by kernel_rfl) (lenK (len_api_Final _) (by kernel_rfl))) ?_
            refine r_lit (c := (cd31 [1, 1, 1, 0, 0, 0, 1, 0, 1, 1, 1, 1, 1, 1, 0])) (i := 2) (d := (some 64)) (ty := 28) (t := 28) (e := 24) (sz := 49) (n := 1) (parts := #[(0, (.tmp 63))]) (vs := [(0, .agg (enc_api_Final t105).toArray)]) (z := zeroOf Tryd.prog 24) (cs' := ([t105] : List api_Final).flatMap enc_api_Final) hS176 (by kernel_rfl) (by kernel_rfl) (by kernel_rfl) (by kernel_rfl) (by kernel_rfl) (by decide) (by decide) (by kernel_rfl) rfl (Parts.cons (c := enc_api_Final t105) (by kernel_rfl) (len_api_Final _) Parts.nil) rfl ?_
            intro b182 w183 hS184
            have hS185 := hS184.pick1
            obtain ⟨g186, hp187⟩ := ite_some hp180
            refine r_append (c := (cd31 [1, 1, 1, 0, 0, 0, 1, 0, 1, 1, 1, 1, 1, 1, 0])) (i := 3) (d := (some 65)) (ty := 28) (enc := enc_api_Final) (e := 24) (u := 24) (t := 28) (t2 := 28) (sz := 49) (cp := c50) (A := A49) (bytes := 392) (xs := t48) (ys := ([t105] : List api_Final)) (s := (.tmp 62)) (x := (.tmp 64)) (xv := .slice (some ⟨b182, 0, none⟩) ([t105] : List api_Final).length 1) (info := infoOf Tryd.prog 24) (z := zeroOf Tryd.prog 24) (ycs := ([t105] : List api_Final).flatMap enc_api_Final) hS185 (by kernel_rfl) (by kernel_rfl) (by kernel_rfl) (by kernel_rfl) (by kernel_rfl) (.inl (by kernel_rfl)) (by kernel_rfl) (by kernel_rfl) (by kernel_rfl) (by kernel_rfl) (by kernel_rfl) (by omega) len_api_Final one_api_Final (src_row (hS185.row 1 rfl) (by omega) len_api_Final) rfl g186 (by omega) ?_
            intro A188 c189 w190 hS191
            refine sx_run 3 (todo' := [.inLoop (cd31 [1, 1, 1, 0, 0, 0]), .inBlock 0, .code (cd31 [1, 1, 1, 1])]) (us := [(8, .slice A188 (t48 ++ ([t105] : List api_Final)).length c189)]) (by kernel_rfl) ?_
            have hS193 := hS191.pick1
            have hS194 := hS193.drop
            have hS195 := hS194.pick1
            have hS196 := hS195.drop
            refine sx_run 1 (todo' := [.code (cd31 [1, 1, 1, 0, 0, 0]), .inLoop (cd31 [1, 1, 1, 0, 0, 0]), .inBlock 0, .code (cd31 [1, 1, 1, 1])]) (us := []) (by kernel_rfl) ?_
            refine Runs.fill (m := [some (.slice A87 t86.length c88), some (.slice A101 t100.length c102), some (.func (.func 33) #[] #[]), none, none, none, none, none, some (.slice A188 (t48 ++ ([t105] : List api_Final)).length c189), none, none, none, none, none, none, none, none, none, none, none, none, none, none, none, none, none, none, none, none, none, none, none, none, none, none, none, none, none, none, none, none, none, none, none, none, none, none, none, none, none, none, none, none, none, none, none, none, none, none, none, none, none, none, none, none, none, none]) (by kernel_rfl) ?_
            exact ih58 t86 t100 (t48 ++ ([t105] : List api_Final)) _ hp187 he56 _ A87 c88 A101 c102 A188 c189 _ hS196 hs90 hs104
          ·skip
           have hp197 := ite_f hp168 h170
           obtain ⟨t198, hr199, hp200⟩ := bind_some' hp197
           refine r_call1 (c := (cd31 [1, 1, 1, 0, 0, 0, 1, 0, 1, 1, 1, 1, 1, 0])) (i := 5) (d := (some 61)) (g := 33) (args := #[.bool false, .bool false]) (by kernel_rfl) (by kernel_rfl) (by kernel_rfl) (by kernel_rfl) (state_Meet_1.ok false false hS107 hr199) ?_
           rintro _ w201 ⟨rfl, hS202⟩
           refine ⟨.bool t198, rfl, ?_⟩
           refine sx_run 1 (todo' := [.code (cd31 [1, 1, 1, 0, 0, 0, 1, 0, 1, 1, 1, 1, 1, 1]), .inBlock 1, .inLoop (cd31 [1, 1, 1, 0, 0, 0]), .inBlock 0, .code (cd31 [1, 1, 1, 1])]) (us := []) (by kernel_rfl) ?_
           cases t198
           ·skip
            have hp203 := ite_f hp200 rfl
            refine sx_run 3 (todo' := [.inLoop (cd31 [1, 1, 1, 0, 0, 0]), .inBlock 0, .code (cd31 [1, 1, 1, 1])]) (us := []) (by kernel_rfl) ?_
            have hS204 := hS202.pick1
            have hS205 := hS204.drop
            refine sx_run 1 (todo' := [.code (cd31 [1, 1, 1, 0, 0, 0]), .inLoop (cd31 [1, 1, 1, 0, 0, 0]), .inBlock 0, .code (cd31 [1, 1, 1, 1])]) (us := []) (by kernel_rfl) ?_
            refine Runs.fill (m := [some (.slice A87 t86.length c88), some (.slice A101 t100.length c102), some (.func (.func 33) #[] #[]), none, none, none, none, none, some (.slice A49 t48.length c50), none, none, none, none, none, none, none, none, none, none, none, none, none, none, none, none, none, none, none, none, none, none, none, none, none, none, none, none, none, none, none, none, none, none, none, none, none, none, none, none, none, none, none, none, none, none, none, none, none, none, none, none, none, none, none, none, none, none]) (by kernel_rfl) ?_
            exact ih58 t86 t100 t48 _ hp203 he56 _ A87 c88 A101 c102 A49 c50 _ hS205 hs90 hs104
           ·skip
            have hp206 := ite_t hp200 rfl
            refine sx_run 3 (todo' := [.inRegion (opsOf (cd31 [1, 1, 1, 0, 0, 0, 1, 0, 1, 1, 1, 1, 1, 1, 0])) [1, 2, 3, 4], .inBlock 1, .inLoop (cd31 [1, 1, 1, 0, 0, 0]), .inBlock 0, .code (cd31 [1, 1, 1, 1])]) (us := [(62, .slice A49 t48.length c50)]) (by kernel_rfl) ?_
            refine r_load (c := (cd31 [1, 1, 1, 0, 0, 0, 1, 0, 1, 1, 1, 1, 1, 1, 0])) (i := 1) (d := (some 63)) (ty := 24) (t := 24) (x := (.tmp 10)) (p := ⟨b79, 0, none⟩) (v := .agg (enc_api_Final t105).toArray) (by kernel_rfl) (by kernel_rfl) (by kernel_rfl) (loads_agg (hS202.blk 1 rfl) (by kernel_rfl) (lenK (len_api_Final _) (by kernel_rfl))) ?_
            refine r_lit (c := (cd31 [1, 1, 1, 0, 0, 0, 1, 0, 1, 1, 1, 1, 1, 1, 0])) (i := 2) (d := (some 64)) (ty := 28) (t := 28) (e := 24) (sz := 49) (n := 1) (parts := #[(0, (.tmp 63))]) (vs := [(0, .agg (enc_api_Final t105).toArray)]) (z := zeroOf Tryd.prog 24) (cs' := ([t105] : List api_Final).flatMap enc_api_Final) hS202 (by kernel_rfl) (by kernel_rfl) (by kernel_rfl) (by kernel_rfl) (by kernel_rfl) (by decide) (by decide) (by kernel_rfl) rfl (Parts.cons (c := enc_api_Final t105) (by kernel_rfl) (len_api_Final _) Parts.nil) rfl ?_
            intro b208 w209 hS210
            have hS211 := hS210.pick1
            obtain ⟨g212, hp213⟩ := ite_some hp206
            refine r_append (c := (cd31 [1, 1, 1, 0, 0, 0, 1, 0, 1, 1, 1, 1, 1, 1, 0])) (i := 3) (d := (some 65)) (ty := 28) (enc := enc_api_Final) (e := 24) (u := 24) (t := 28) (t2 := 28) (sz := 49) (cp := c50) (A := A49) (bytes := 392) (xs := t48) (ys := ([t105] : List api_Final)) (s := (.tmp 62)) (x := (.tmp 64)) (xv := .slice (some ⟨b208, 0, none⟩) ([t105] : List api_Final).length 1) (info := infoOf Tryd.prog 24) (z := zeroOf Tryd.prog 24) (ycs := ([t105] : List api_Final).flatMap enc_api_Final) hS211 (by kernel_rfl) (by kernel_rfl) (by kernel_rfl) (by kernel_rfl) (by kernel_rfl) (.inl (by kernel_rfl)) (by kernel_rfl) (by kernel_rfl) (by kernel_rfl) (by kernel_rfl) (by kernel_rfl) (by omega) len_api_Final one_api_Final (src_row (hS211.row 1 rfl) (by omega) len_api_Final) rfl g212 (by omega) ?_
            intro A214 c215 w216 hS217
            refine sx_run 3 (todo' := [.inLoop (cd31 [1, 1, 1, 0, 0, 0]), .inBlock 0, .code (cd31 [1, 1, 1, 1])]) (us := [(8, .slice A214 (t48 ++ ([t105] : List api_Final)).length c215)]) (by kernel_rfl) ?_
            have hS219 := hS217.pick1
            have hS220 := hS219.drop
            have hS221 := hS220.pick1
            have hS222 := hS221.drop
            refine sx_run 1 (todo' := [.code (cd31 [1, 1, 1, 0, 0, 0]), .inLoop (cd31 [1, 1, 1, 0, 0, 0]), .inBlock 0, .code (cd31 [1, 1, 1, 1])]) (us := []) (by kernel_rfl) ?_
            refine Runs.fill (m := [some (.slice A87 t86.length c88), some (.slice A101 t100.length c102), some (.func (.func 33) #[] #[]), none, none, none, none, none, some (.slice A214 (t48 ++ ([t105] : List api_Final)).length c215), none, none, none, none, none, none, none, none, none, none, none, none, none, none, none, none, none, none, none, none, none, none, none, none, none, none, none, none, none, none, none, none, none, none, none, none, none, none, none, none, none, none, none, none, none, none, none, none, none, none, none, none, none, none, none, none, none, none]) (by kernel_rfl) ?_
            exact ih58 t86 t100 (t48 ++ ([t105] : List api_Final)) _ hp213 he56 _ A87 c88 A101 c102 A214 c215 _ hS222 hs90 hs104
        refine sx_split 5 (todo' := [.inRegion (opsOf (cd31 [1, 1, 1, 0, 0, 0, 1, 0, 1, 1, 1, 1, 0, 0])) [], .code (cd31 [1, 1, 1, 0, 0, 0, 1, 0, 1, 1, 1, 1, 0, 1]), .code (cd31 [1, 1, 1, 0, 0, 0, 1, 0, 1, 1, 1, 1, 1]), .inBlock 1, .inLoop (cd31 [1, 1, 1, 0, 0, 0]), .inBlock 0, .code (cd31 [1, 1, 1, 1])]) (us := [(49, .int .i64 t73)]) (d := 50) (t := (decide (t73 ≥ 0))) (by kernel_rfl) (fun h223 => ?_) (fun h224 => ?_)
        ·skip
         have hp225 := ite_t hv98 h223
         refine sx_run 2 (todo' := [.code (cd31 [1, 1, 1, 0, 0, 0, 1, 0, 1, 1, 1, 1, 0, 1, 0]), .code (cd31 [1, 1, 1, 0, 0, 0, 1, 0, 1, 1, 1, 1, 1]), .inBlock 1, .inLoop (cd31 [1, 1, 1, 0, 0, 0]), .inBlock 0, .code (cd31 [1, 1, 1, 1])]) (us := []) (by kernel_rfl) ?_
         obtain ⟨g226, hp227⟩ := ite_some hp225
         obtain ⟨b228, p229, hA230, hc231⟩ := hs47.atF g226.1 g226.2
         obtain ⟨g232, hp233⟩ := ite_some hp227
         obtain ⟨A236, c237, hr234, hs235⟩ := cutSlZ hs47 ((1 : Int).toNat) (t43.length) (by omega) (by omega)
         have hS239 := hS93.pick1
         refine r_drawnF (X := Unit) (c := (cd31 [1, 1, 1, 0, 0, 0, 1, 0, 1, 1, 1, 1, 0, 1, 0])) (id := 14) (C0 := fun w' => St w0 Z (xblk b79 24 (enc_api_Final t91) :: xrow A49 c50 24 49 (t48.flatMap enc_api_Final) :: fs) w') (C1 := fun _ w' => St w0 Z (xblk b79 24 (enc_api_Final (gt t43 (0 : Int))) :: xrow A49 c50 24 49 (t48.flatMap enc_api_Final) :: fs) w') (vs := [.slice A44 t43.length c45, .pointer (some ⟨b228, p229 + (0 : Int).toNat * 49, none⟩), .agg (enc_api_Final (gt t43 (0 : Int))).toArray, .slice A44 t43.length c45, .slice A236 ((t43.take t43.length).drop ((1 : Int).toNat)).length c237, undef, undef]) (vx := fun _ => [.slice A44 t43.length c45, .pointer (some ⟨b228, p229 + (0 : Int).toNat * 49, none⟩), .agg (enc_api_Final (gt t43 (0 : Int))).toArray, .slice A44 t43.length c45, .slice A236 ((t43.take t43.length).drop ((1 : Int).toNat)).length c237, undef, .slice A236 ((t43.take t43.length).drop ((1 : Int).toNat)).length c237]) 5 7 [5, 6] [6] (by kernel_rfl) (by kernel_rfl) (by kernel_rfl) (by decide) (by kernel_rfl) (by kernel_rfl) (by kernel_rfl) rfl ?_ (fun _ => ⟨rfl, rfl⟩) hS239.drew ?_ ?_ ?_ ?_ ?_
         ·intro _u i hi hd
          match i, hi, hd with
          | 0, _, _ => exact rfl
          | 1, _, _ => exact rfl
          | 2, _, _ => exact rfl
          | 3, _, _ => exact rfl
          | 4, _, _ => exact rfl
          | 5, _, hd => exact absurd hd (by decide)
          | 6, _, hd => exact absurd hd (by decide)
          | i + 7, hi, _ => exact absurd hi (by omega)
         ·intro i hi hd w hC
          match i, hi, hd with
          | 0, _, _ => exact does_pure (v := .slice A44 t43.length c45) (by kernel_rfl) rfl hC
          | 1, _, _ => exact does_run (x_indexAddr (t := 28) (e := 24) (x := (.tmp 51)) (y := (.const (.int .i64 0))) (b := b228) (o' := p229) (n := t43.length) (cp := c45) (sz := 49) (kk := .i64) (j := (0 : Int)) (slv (by kernel_rfl) hA230) (by kernel_rfl) (by kernel_rfl) (by kernel_rfl) g226.1 g226.2 (by kernel_rfl)) rfl hC
          | 2, _, _ => exact does_run (x_load (t := 24) (x := (.tmp 52)) (p := ⟨b228, p229 + (0 : Int).toNat * 49, none⟩) (v := .agg (enc_api_Final (gt t43 (0 : Int))).toArray) (by kernel_rfl) (loads_agg (hc231.cells hC) (by kernel_rfl) (lenK (len_api_Final _) (by kernel_rfl))) (by kernel_rfl)) rfl hC
          | 3, _, _ => exact does_pure (v := .slice A44 t43.length c45) (by kernel_rfl) rfl hC
          | 4, _, _ => exact does_run (x_cutSl_sn (t := 28) (x := (.tmp 54)) (lo := (.const (.int .i64 1))) (e := 24) (sz := 49) (A := A44) (n := t43.length) (c := c45) (k := .i64) (by kernel_rfl) (by kernel_rfl) (by kernel_rfl) (by kernel_rfl) g232 hr234 (by kernel_rfl)) rfl hC
          | 5, _, hd => exact absurd hd (by decide)
          | 6, _, hd => exact absurd hd (by decide)
          | i + 7, hi, _ => exact absurd hi (by omega)
         ·intro i hi hd _u w hC
          match i, hi, hd with
          | 0, _, _ => exact does_pure (v := .slice A44 t43.length c45) (by kernel_rfl) rfl hC
          | 1, _, _ => exact does_run (x_indexAddr (t := 28) (e := 24) (x := (.tmp 51)) (y := (.const (.int .i64 0))) (b := b228) (o' := p229) (n := t43.length) (cp := c45) (sz := 49) (kk := .i64) (j := (0 : Int)) (slv (by kernel_rfl) hA230) (by kernel_rfl) (by kernel_rfl) (by kernel_rfl) g226.1 g226.2 (by kernel_rfl)) rfl hC
          | 2, _, _ => exact does_run (x_load (t := 24) (x := (.tmp 52)) (p := ⟨b228, p229 + (0 : Int).toNat * 49, none⟩) (v := .agg (enc_api_Final (gt t43 (0 : Int))).toArray) (by kernel_rfl) (loads_agg (hc231.cells hC) (by kernel_rfl) (lenK (len_api_Final _) (by kernel_rfl))) (by kernel_rfl)) rfl hC
          | 3, _, _ => exact does_pure (v := .slice A44 t43.length c45) (by kernel_rfl) rfl hC
          | 4, _, _ => exact does_run (x_cutSl_sn (t := 28) (x := (.tmp 54)) (lo := (.const (.int .i64 1))) (e := 24) (sz := 49) (A := A44) (n := t43.length) (c := c45) (k := .i64) (by kernel_rfl) (by kernel_rfl) (by kernel_rfl) (by kernel_rfl) g232 hr234 (by kernel_rfl)) rfl hC
          | 5, _, hd => exact absurd hd (by decide)
          | 6, _, hd => exact absurd hd (by decide)
          | i + 7, hi, _ => exact absurd hi (by omega)
         ·intro w hC
          exact does_store (ux := ()) (t := 24) (x := (.tmp 10)) (y := (.tmp 53)) (b := b79) (o := 0) (e := 24) (cs := enc_api_Final t91) (v := .agg (enc_api_Final (gt t43 (0 : Int))).toArray) (vs := enc_api_Final (gt t43 (0 : Int))) (cs' := enc_api_Final (gt t43 (0 : Int))) hC (by kernel_rfl) (by kernel_rfl) (by kernel_rfl) (by kernel_rfl) (by kernel_rfl) (lenK (len_api_Final _) (by kernel_rfl)) (one_api_Final _) (by simp only [len_api_Final, List.length_cons, List.length_nil, List.length_append]; omega) (over_all ((len_api_Final _).trans (len_api_Final _).symm)) (fun _ h => h)
         ·intro i hi hd hne _u w hC
          match i, hi, hd, hne with
          | 0, _, hd, _ => exact absurd hd (by decide)
          | 1, _, hd, _ => exact absurd hd (by decide)
          | 2, _, hd, _ => exact absurd hd (by decide)
          | 3, _, hd, _ => exact absurd hd (by decide)
          | 4, _, hd, _ => exact absurd hd (by decide)
          | 5, _, _, hne => exact absurd rfl hne
          | 6, _, _, _ => exact does_pure (v := .slice A236 ((t43.take t43.length).drop ((1 : Int).toNat)).length c237) (by kernel_rfl) rfl hC
          | i + 7, hi, _, _ => exact absurd hi (by omega)
         intro _u w240 hS241
         have hS242 := hS241.pick1
         refine Runs.fill (m := [some (.slice A87 t86.length c88), some (.slice A236 ((t43.take t43.length).drop ((1 : Int).toNat)).length c237), some (.func (.func 33) #[] #[]), none, none, none, none, none, some (.slice A49 t48.length c50), some (.int .i64 t73), some (.pointer (some ⟨b79, 0, none⟩)), none, none, none, none, none, none, none, none, none, none, none, none, none, none, none, none, none, none, none, none, none, none, none, none, none, none, none, none, none, none, none, none, none, none, none, none, none, none, none, none, none, none, none, none, none, none, none, none, none, none, none, none, none, none, none, none]) (by kernel_rfl) ?_
         exact J108 ((t43.take t43.length).drop ((1 : Int).toNat)) (gt t43 (0 : Int)) (Option.some.inj hp233) _ A236 c237 _ hS242 hs235
        ·skip
         have hp243 := ite_f hv98 h224
         refine sx_run 3 (todo' := [.code (cd31 [1, 1, 1, 0, 0, 0, 1, 0, 1, 1, 1, 1, 1]), .inBlock 1, .inLoop (cd31 [1, 1, 1, 0, 0, 0]), .inBlock 0, .code (cd31 [1, 1, 1, 1])]) (us := []) (by kernel_rfl) ?_
         refine Runs.fill (m := [some (.slice A87 t86.length c88), some (.slice A44 t43.length c45), some (.func (.func 33) #[] #[]), none, none, none, none, none, some (.slice A49 t48.length c50), some (.int .i64 t73), some (.pointer (some ⟨b79, 0, none⟩)), none, none, none, none, none, none, none, none, none, none, none, none, none, none, none, none, none, none, none, none, none, none, none, none, none, none, none, none, none, none, none, none, none, none, none, none, none, none, none, none, none, none, none, none, none, none, none, none, none, none, none, none, none, none, none, none]) (by kernel_rfl) ?_
         exact J108 t43 t91 (Option.some.inj hp243) _ A44 c45 _ hS93 hs47
       refine sx_split 6 (todo' := [.inRegion (opsOf (cd31 [1, 1, 1, 0, 0, 0, 1, 0, 1, 1, 1, 0, 0])) [], .code (cd31 [1, 1, 1, 0, 0, 0, 1, 0, 1, 1, 1, 0, 1]), .code (cd31 [1, 1, 1, 0, 0, 0, 1, 0, 1, 1, 1, 1]), .inBlock 1, .inLoop (cd31 [1, 1, 1, 0, 0, 0]), .inBlock 0, .code (cd31 [1, 1, 1, 1])]) (us := [(42, .int .i64 t73)]) (d := 43) (t := (decide (t73 ≤ 0))) (by kernel_rfl) (fun h244 => ?_) (fun h245 => ?_)
       ·skip
        have hp246 := ite_t hv84 h244
        refine sx_run 2 (todo' := [.code (cd31 [1, 1, 1, 0, 0, 0, 1, 0, 1, 1, 1, 0, 1, 0]), .code (cd31 [1, 1, 1, 0, 0, 0, 1, 0, 1, 1, 1, 1]), .inBlock 1, .inLoop (cd31 [1, 1, 1, 0, 0, 0]), .inBlock 0, .code (cd31 [1, 1, 1, 1])]) (us := []) (by kernel_rfl) ?_
        obtain ⟨g247, hp248⟩ := ite_some hp246
        obtain ⟨b249, p250, hA251, hc252⟩ := hs42.atF g247.1 g247.2
        obtain ⟨g253, hp254⟩ := ite_some hp248
        obtain ⟨A257, c258, hr255, hs256⟩ := cutSlZ hs42 ((1 : Int).toNat) (t38.length) (by omega) (by omega)
        refine r_drawnF (X := Unit) (c := (cd31 [1, 1, 1, 0, 0, 0, 1, 0, 1, 1, 1, 0, 1, 0])) (id := 12) (C0 := fun w' => St w0 Z (xblk b79 24 (enc_api_Final (⟨0, (Vector.replicate 48 0)⟩ : api_Final)) :: xrow A49 c50 24 49 (t48.flatMap enc_api_Final) :: fs) w') (C1 := fun _ w' => St w0 Z (xblk b79 24 (enc_api_Final (gt t38 (0 : Int))) :: xrow A49 c50 24 49 (t48.flatMap enc_api_Final) :: fs) w') (vs := [.slice A39 t38.length c40, .pointer (some ⟨b249, p250 + (0 : Int).toNat * 49, none⟩), .agg (enc_api_Final (gt t38 (0 : Int))).toArray, .slice A39 t38.length c40, .slice A257 ((t38.take t38.length).drop ((1 : Int).toNat)).length c258, undef, undef]) (vx := fun _ => [.slice A39 t38.length c40, .pointer (some ⟨b249, p250 + (0 : Int).toNat * 49, none⟩), .agg (enc_api_Final (gt t38 (0 : Int))).toArray, .slice A39 t38.length c40, .slice A257 ((t38.take t38.length).drop ((1 : Int).toNat)).length c258, undef, .slice A257 ((t38.take t38.length).drop ((1 : Int).toNat)).length c258]) 5 7 [5, 6] [6] (by kernel_rfl) (by kernel_rfl) (by kernel_rfl) (by decide) (by kernel_rfl) (by kernel_rfl) (by kernel_rfl) rfl ?_ (fun _ => ⟨rfl, rfl⟩) hS81.drew ?_ ?_ ?_ ?_ ?_
        ·intro _u i hi hd
         match i, hi, hd with
         | 0, _, _ => exact rfl
         | 1, _, _ => exact rfl
         | 2, _, _ => exact rfl
         | 3, _, _ => exact rfl
         | 4, _, _ => exact rfl
         | 5, _, hd => exact absurd hd (by decide)
         | 6, _, hd => exact absurd hd (by decide)
         | i + 7, hi, _ => exact absurd hi (by omega)
        ·intro i hi hd w hC
         match i, hi, hd with
         | 0, _, _ => exact does_pure (v := .slice A39 t38.length c40) (by kernel_rfl) rfl hC
         | 1, _, _ => exact does_run (x_indexAddr (t := 28) (e := 24) (x := (.tmp 44)) (y := (.const (.int .i64 0))) (b := b249) (o' := p250) (n := t38.length) (cp := c40) (sz := 49) (kk := .i64) (j := (0 : Int)) (slv (by kernel_rfl) hA251) (by kernel_rfl) (by kernel_rfl) (by kernel_rfl) g247.1 g247.2 (by kernel_rfl)) rfl hC
         | 2, _, _ => exact does_run (x_load (t := 24) (x := (.tmp 45)) (p := ⟨b249, p250 + (0 : Int).toNat * 49, none⟩) (v := .agg (enc_api_Final (gt t38 (0 : Int))).toArray) (by kernel_rfl) (loads_agg (hc252.cells hC) (by kernel_rfl) (lenK (len_api_Final _) (by kernel_rfl))) (by kernel_rfl)) rfl hC
         | 3, _, _ => exact does_pure (v := .slice A39 t38.length c40) (by kernel_rfl) rfl hC
         | 4, _, _ => exact does_run (x_cutSl_sn (t := 28) (x := (.tmp 47)) (lo := (.const (.int .i64 1))) (e := 24) (sz := 49) (A := A39) (n := t38.length) (c := c40) (k := .i64) (by kernel_rfl) (by kernel_rfl) (by kernel_rfl) (by kernel_rfl) g253 hr255 (by kernel_rfl)) rfl hC
         | 5, _, hd => exact absurd hd (by decide)
         | 6, _, hd => exact absurd hd (by decide)
         | i + 7, hi, _ => exact absurd hi (by omega)
        ·intro i hi hd _u w hC
         match i, hi, hd with
         | 0, _, _ => exact does_pure (v := .slice A39 t38.length c40) (by kernel_rfl) rfl hC
         | 1, _, _ => exact does_run (x_indexAddr (t := 28) (e := 24) (x := (.tmp 44)) (y := (.const (.int .i64 0))) (b := b249) (o' := p250) (n := t38.length) (cp := c40) (sz := 49) (kk := .i64) (j := (0 : Int)) (slv (by kernel_rfl) hA251) (by kernel_rfl) (by kernel_rfl) (by kernel_rfl) g247.1 g247.2 (by kernel_rfl)) rfl hC
         | 2, _, _ => exact does_run (x_load (t := 24) (x := (.tmp 45)) (p := ⟨b249, p250 + (0 : Int).toNat * 49, none⟩) (v := .agg (enc_api_Final (gt t38 (0 : Int))).toArray) (by kernel_rfl) (loads_agg (hc252.cells hC) (by kernel_rfl) (lenK (len_api_Final _) (by kernel_rfl))) (by kernel_rfl)) rfl hC
         | 3, _, _ => exact does_pure (v := .slice A39 t38.length c40) (by kernel_rfl) rfl hC
         | 4, _, _ => exact does_run (x_cutSl_sn (t := 28) (x := (.tmp 47)) (lo := (.const (.int .i64 1))) (e := 24) (sz := 49) (A := A39) (n := t38.length) (c := c40) (k := .i64) (by kernel_rfl) (by kernel_rfl) (by kernel_rfl) (by kernel_rfl) g253 hr255 (by kernel_rfl)) rfl hC
         | 5, _, hd => exact absurd hd (by decide)
         | 6, _, hd => exact absurd hd (by decide)
         | i + 7, hi, _ => exact absurd hi (by omega)
        ·intro w hC
         exact does_store (ux := ()) (t := 24) (x := (.tmp 10)) (y := (.tmp 46)) (b := b79) (o := 0) (e := 24) (cs := enc_api_Final (⟨0, (Vector.replicate 48 0)⟩ : api_Final)) (v := .agg (enc_api_Final (gt t38 (0 : Int))).toArray) (vs := enc_api_Final (gt t38 (0 : Int))) (cs' := enc_api_Final (gt t38 (0 : Int))) hC (by kernel_rfl) (by kernel_rfl) (by kernel_rfl) (by kernel_rfl) (by kernel_rfl) (lenK (len_api_Final _) (by kernel_rfl)) (one_api_Final _) (by simp only [len_api_Final, List.length_cons, List.length_nil, List.length_append]; omega) (over_all ((len_api_Final _).trans (len_api_Final _).symm)) (fun _ h => h)
        ·intro i hi hd hne _u w hC
         match i, hi, hd, hne with
         | 0, _, hd, _ => exact absurd hd (by decide)
         | 1, _, hd, _ => exact absurd hd (by decide)
         | 2, _, hd, _ => exact absurd hd (by decide)
         | 3, _, hd, _ => exact absurd hd (by decide)
         | 4, _, hd, _ => exact absurd hd (by decide)
         | 5, _, _, hne => exact absurd rfl hne
         | 6, _, _, _ => exact does_pure (v := .slice A257 ((t38.take t38.length).drop ((1 : Int).toNat)).length c258) (by kernel_rfl) rfl hC
         | i + 7, hi, _, _ => exact absurd hi (by omega)
        intro _u w260 hS261
        have hS262 := hS261.pick1
        refine Runs.fill (m := [some (.slice A257 ((t38.take t38.length).drop ((1 : Int).toNat)).length c258), some (.slice A44 t43.length c45), some (.func (.func 33) #[] #[]), none, none, none, none, none, some (.slice A49 t48.length c50), some (.int .i64 t73), some (.pointer (some ⟨b79, 0, none⟩)), none, none, none, none, none, none, none, none, none, none, none, none, none, none, none, none, none, none, none, none, none, none, none, none, none, none, none, none, none, none, none, none, none, none, none, none, none, none, none, none, none, none, none, none, none, none, none, none, none, none, none, none, none, none, none, none]) (by kernel_rfl) ?_
        exact J94 ((t38.take t38.length).drop ((1 : Int).toNat)) (gt t38 (0 : Int)) (Option.some.inj hp254) _ A257 c258 _ hS262 hs256
       ·skip
        have hp263 := ite_f hv84 h245
        refine sx_run 3 (todo' := [.code (cd31 [1, 1, 1, 0, 0, 0, 1, 0, 1, 1, 1, 1]), .inBlock 1, .inLoop (cd31 [1, 1, 1, 0, 0, 0]), .inBlock 0, .code (cd31 [1, 1, 1, 1])]) (us := []) (by kernel_rfl) ?_
        have hS264 := hS81.pick1
        refine Runs.fill (m := [some (.slice A39 t38.length c40), some (.slice A44 t43.length c45), some (.func (.func 33) #[] #[]), none, none, none, none, none, some (.slice A49 t48.length c50), some (.int .i64 t73), some (.pointer (some ⟨b79, 0, none⟩)), none, none, none, none, none, none, none, none, none, none, none, none, none, none, none, none, none, none, none, none, none, none, none, none, none, none, none, none, none, none, none, none, none, none, none, none, none, none, none, none, none, none, none, none, none, none, none, none, none, none, none, none, none, none, none, none]) (by kernel_rfl) ?_
        exact J94 t38 (⟨0, (Vector.replicate 48 0)⟩ : api_Final) (Option.some.inj hp263) _ A39 c40 _ hS264 hs42
      refine sx_split 12 (todo' := [.inRegion (opsOf (cd31 [1, 1, 1, 0, 0, 0, 1, 0, 1, 0, 0, 0])) [3], .code (cd31 [1, 1, 1, 0, 0, 0, 1, 0, 1, 0, 0, 1]), .inBlock 2, .code (cd31 [1, 1, 1, 0, 0, 0, 1, 0, 1, 1]), .inBlock 1, .inLoop (cd31 [1, 1, 1, 0, 0, 0]), .inBlock 0, .code (cd31 [1, 1, 1, 1])]) (us := [(9, .int .i64 (-1)), (28, .slice A39 t38.length c40), (29, .int .i64 (t38.length : Int))]) (d := 30) (t := ((t38.length : Int) == 0)) (by kernel_rfl) (fun h265 => ?_) (fun h266 => ?_)
      ·skip
       have hp267 := ite_t hv71 h265
       refine sx_run 7 (todo' := [.code (cd31 [1, 1, 1, 0, 0, 0, 1, 0, 1, 1]), .inBlock 1, .inLoop (cd31 [1, 1, 1, 0, 0, 0]), .inBlock 0, .code (cd31 [1, 1, 1, 1])]) (us := [(27, .bool true), (9, .int .i64 1)]) (by kernel_rfl) ?_
       refine Runs.fill (m := [some (.slice A39 t38.length c40), some (.slice A44 t43.length c45), some (.func (.func 33) #[] #[]), none, none, none, none, none, some (.slice A49 t48.length c50), some (.int .i64 1), none, none, none, none, none, none, none, none, none, none, none, none, none, none, none, none, none, none, none, none, none, none, none, none, none, none, none, none, none, none, none, none, none, none, none, none, none, none, none, none, none, none, none, none, none, none, none, none, none, none, none, none, none, none, none, none, none]) (by kernel_rfl) ?_
       exact J76 1 (Option.some.inj hp267) _ _ hS65
      ·skip
       have hp268 := ite_f hv71 h266
       refine sx_split 8 (todo' := [.inRegion (opsOf (cd31 [1, 1, 1, 0, 0, 0, 1, 0, 1, 0, 0, 1, 1, 0])) [3], .code (cd31 [1, 1, 1, 0, 0, 0, 1, 0, 1, 0, 0, 1, 1, 1]), .inBlock 2, .code (cd31 [1, 1, 1, 0, 0, 0, 1, 0, 1, 1]), .inBlock 1, .inLoop (cd31 [1, 1, 1, 0, 0, 0]), .inBlock 0, .code (cd31 [1, 1, 1, 1])]) (us := [(27, .bool false), (32, .slice A44 t43.length c45), (33, .int .i64 (t43.length : Int))]) (d := 34) (t := (decide ((t43.length : Int) > 0))) (by kernel_rfl) (fun h269 => ?_) (fun h270 => ?_)
       ·skip
        have hp271 := ite_t hp268 h269
        refine sx_run 3 (todo' := [.code (cd31 [1, 1, 1, 0, 0, 0, 1, 0, 1, 0, 0, 1, 1, 1, 0]), .inBlock 2, .code (cd31 [1, 1, 1, 0, 0, 0, 1, 0, 1, 1]), .inBlock 1, .inLoop (cd31 [1, 1, 1, 0, 0, 0]), .inBlock 0, .code (cd31 [1, 1, 1, 1])]) (us := [(31, .bool true)]) (by kernel_rfl) ?_
        refine r_quiet hS65 (c := (cd31 [1, 1, 1, 0, 0, 0, 1, 0, 1, 0, 0, 1, 1, 1, 0])) (id := 9) (by kernel_rfl) (by kernel_rfl) (by kernel_rfl) (is := [0, 1, 2, 3, 4, 5, 6, 7]) (by kernel_rfl) ?_
        refine q_run 1 (is' := [1, 2, 3, 4, 5, 6, 7]) (us := [(35, .slice A39 t38.length c40)]) (by kernel_rfl) ?_
        obtain ⟨g272, hp273⟩ := ite_some hp271
        obtain ⟨b274, p275, hA276, hc277⟩ := hs42.atF g272.1 g272.2
        refine q_indexAddr (c := (cd31 [1, 1, 1, 0, 0, 0, 1, 0, 1, 0, 0, 1, 1, 1, 0])) (i := 1) (d := (some 36)) (ty := 0) (t := 28) (e := 24) (n := t38.length) (cp := c40) (sz := 49) (kk := .i64) (x := (.tmp 35)) (y := (.const (.int .i64 0))) (b := b274) (o' := p275) (j := (0 : Int)) (by kernel_rfl) (by kernel_rfl) (slv (by kernel_rfl) hA276) (by kernel_rfl) (by kernel_rfl) (by kernel_rfl) g272.1 g272.2 ?_
        refine q_load (c := (cd31 [1, 1, 1, 0, 0, 0, 1, 0, 1, 0, 0, 1, 1, 1, 0])) (i := 2) (d := (some 37)) (ty := 24) (t := 24) (x := (.tmp 36)) (p := ⟨b274, p275 + (0 : Int).toNat * 49, none⟩) (v := .agg (enc_api_Final (gt t38 (0 : Int))).toArray) (by kernel_rfl) (by kernel_rfl) (by kernel_rfl) (fun w hC => (loads_agg (hc277.cells hC) (by kernel_rfl) (lenK (len_api_Final _) (by kernel_rfl)))) ?_
        refine q_run 1 (is' := [4, 5, 6, 7]) (us := [(38, .slice A44 t43.length c45)]) (by kernel_rfl) ?_
        obtain ⟨g278, hp279⟩ := ite_some hp273
        obtain ⟨b280, p281, hA282, hc283⟩ := hs47.atF g278.1 g278.2
        refine q_indexAddr (c := (cd31 [1, 1, 1, 0, 0, 0, 1, 0, 1, 0, 0, 1, 1, 1, 0])) (i := 4) (d := (some 39)) (ty := 0) (t := 28) (e := 24) (n := t43.length) (cp := c45) (sz := 49) (kk := .i64) (x := (.tmp 38)) (y := (.const (.int .i64 0))) (b := b280) (o' := p281) (j := (0 : Int)) (by kernel_rfl) (by kernel_rfl) (slv (by kernel_rfl) hA282) (by kernel_rfl) (by kernel_rfl) (by kernel_rfl) g278.1 g278.2 ?_
        refine q_load (c := (cd31 [1, 1, 1, 0, 0, 0, 1, 0, 1, 0, 0, 1, 1, 1, 0])) (i := 5) (d := (some 40)) (ty := 24) (t := 24) (x := (.tmp 39)) (p := ⟨b280, p281 + (0 : Int).toNat * 49, none⟩) (v := .agg (enc_api_Final (gt t43 (0 : Int))).toArray) (by kernel_rfl) (by kernel_rfl) (by kernel_rfl) (fun w hC => (loads_agg (hc283.cells hC) (by kernel_rfl) (lenK (len_api_Final _) (by kernel_rfl)))) ?_
        obtain ⟨t284, hr285, hp286⟩ := bind_some' hp279
        refine q_call1 (c := (cd31 [1, 1, 1, 0, 0, 0, 1, 0, 1, 0, 0, 1, 1, 1, 0])) (i := 6) (d := (some 41)) (v := .int .i64 t284) (g := 8) (args := #[.agg (enc_api_Final (gt t38 (0 : Int))).toArray, .agg (enc_api_Final (gt t43 (0 : Int))).toArray]) (by kernel_rfl) (by kernel_rfl) (by kernel_rfl) (by kernel_rfl) (fun w hC => by
         refine (state_Compare.ok (gt t38 (0 : Int)) (gt t43 (0 : Int)) hC hr285).mono ?_
         rintro e w2 ⟨rfl, h2⟩
         exact ⟨rfl, h2⟩) ?_
        refine q_run 1 (is' := []) (us := [(9, .int .i64 t284)]) (by kernel_rfl) ?_
        refine Qs.nil ?_
        intro w287 hS288
        refine sx_run 1 (todo' := [.code (cd31 [1, 1, 1, 0, 0, 0, 1, 0, 1, 1]), .inBlock 1, .inLoop (cd31 [1, 1, 1, 0, 0, 0]), .inBlock 0, .code (cd31 [1, 1, 1, 1])]) (us := []) (by kernel_rfl) ?_
        refine Runs.fill (m := [some (.slice A39 t38.length c40), some (.slice A44 t43.length c45), some (.func (.func 33) #[] #[]), none, none, none, none, none, some (.slice A49 t48.length c50), some (.int .i64 t284), none, none, none, none, none, none, none, none, none, none, none, none, none, none, none, none, none, none, none, none, none, none, none, none, none, none, none, none, none, none, none, none, none, none, none, none, none, none, none, none, none, none, none, none, none, none, none, none, none, none, none, none, none, none, none, none, none]) (by kernel_rfl) ?_
        exact J76 t284 (Option.some.inj hp286) _ _ hS288
       ·skip
        have hp289 := ite_f hp268 h270
        refine sx_run 5 (todo' := [.code (cd31 [1, 1, 1, 0, 0, 0, 1, 0, 1, 1]), .inBlock 1, .inLoop (cd31 [1, 1, 1, 0, 0, 0]), .inBlock 0, .code (cd31 [1, 1, 1, 1])]) (us := [(31, .bool false)]) (by kernel_rfl) ?_
        refine Runs.fill (m := [some (.slice A39 t38.length c40), some (.slice A44 t43.length c45), some (.func (.func 33) #[] #[]), none, none, none, none, none, some (.slice A49 t48.length c50), some (.int .i64 (-1)), none, none, none, none, none, none, none, none, none, none, none, none, none, none, none, none, none, none, none, none, none, none, none, none, none, none, none, none, none, none, none, none, none, none, none, none, none, none, none, none, none, none, none, none, none, none, none, none, none, none, none, none, none, none, none, none, none]) (by kernel_rfl) ?_
        exact J76 (-1) (Option.some.inj hp289) _ _ hS65
     refine sx_split 6 (todo' := [.inRegion (opsOf (cd31 [1, 1, 1, 0, 0, 0, 0, 0])) [3, 4, 5, 6, 7], .code (cd31 [1, 1, 1, 0, 0, 0, 0, 1]), .code (cd31 [1, 1, 1, 0, 0, 0, 1]), .inLoop (cd31 [1, 1, 1, 0, 0, 0]), .inBlock 0, .code (cd31 [1, 1, 1, 1])]) (us := [(19, .slice A39 t38.length c40), (20, .int .i64 (t38.length : Int))]) (d := 21) (t := (decide ((t38.length : Int) > 0))) (by kernel_rfl) (fun h290 => ?_) (fun h291 => ?_)
     ·skip
      have hp292 := ite_t hv62 h290
      refine sx_run 8 (todo' := [.code (cd31 [1, 1, 1, 0, 0, 0, 1]), .inLoop (cd31 [1, 1, 1, 0, 0, 0]), .inBlock 0, .code (cd31 [1, 1, 1, 1])]) (us := [(22, .bool true), (23, undef), (24, undef), (25, undef), (26, .bool true)]) (by kernel_rfl) ?_
      refine Runs.fill (m := [some (.slice A39 t38.length c40), some (.slice A44 t43.length c45), some (.func (.func 33) #[] #[]), none, none, none, none, none, some (.slice A49 t48.length c50), none, none, none, none, none, none, none, none, none, none, none, none, none, none, none, none, none, none, none, none, none, none, none, none, none, none, none, none, none, none, none, none, none, none, none, none, none, none, none, none, none, none, none, none, none, none, none, none, none, none, none, none, none, none, none, none, none, none]) (by kernel_rfl) ?_
      exact J67 (Option.some.inj hp292) _ _ hS53
     ·skip
      have hp293 := ite_f hv62 h291
      refine sx_split 4 (todo' := [.inRegion (opsOf (cd31 [1, 1, 1, 0, 0, 0, 0, 0])) [7], .code (cd31 [1, 1, 1, 0, 0, 0, 0, 1]), .code (cd31 [1, 1, 1, 0, 0, 0, 1]), .inLoop (cd31 [1, 1, 1, 0, 0, 0]), .inBlock 0, .code (cd31 [1, 1, 1, 1])]) (us := [(22, .bool false), (23, .slice A44 t43.length c45), (24, .int .i64 (t43.length : Int))]) (d := 25) (t := (decide ((t43.length : Int) > 0))) (by kernel_rfl) (fun h294 => ?_) (fun h295 => ?_)
      ·skip
       have hp296 := ite_t hp293 h294
       refine sx_run 4 (todo' := [.code (cd31 [1, 1, 1, 0, 0, 0, 1]), .inLoop (cd31 [1, 1, 1, 0, 0, 0]), .inBlock 0, .code (cd31 [1, 1, 1, 1])]) (us := [(26, .bool true)]) (by kernel_rfl) ?_
       refine Runs.fill (m := [some (.slice A39 t38.length c40), some (.slice A44 t43.length c45), some (.func (.func 33) #[] #[]), none, none, none, none, none, some (.slice A49 t48.length c50), none, none, none, none, none, none, none, none, none, none, none, none, none, none, none, none, none, none, none, none, none, none, none, none, none, none, none, none, none, none, none, none, none, none, none, none, none, none, none, none, none, none, none, none, none, none, none, none, none, none, none, none, none, none, none, none, none, none]) (by kernel_rfl) ?_
       exact J67 (Option.some.inj hp296) _ _ hS53
      ·skip
       have hp297 := ite_f hp293 h295
       refine sx_run 4 (todo' := [.code (cd31 [1, 1, 1, 1])]) (us := [(26, .bool false)]) (by kernel_rfl) ?_
       refine Runs.fill (m := [none, none, none, none, none, none, none, none, some (.slice A49 t48.length c50), none, none, none, none, none, none, none, none, none, none, none, none, none, none, none, none, none, none, none, none, none, none, none, none, none, none, none, none, none, none, none, none, none, none, none, none, none, none, none, none, none, none, none, none, none, none, none, none, none, none, none, none, none, none, none, none, none, none]) (by kernel_rfl) ?_
       exact J34 t48 ((hq66 _ (Option.some.inj hp297)).trans he56) _ A49 c50 _ hS53
    have hS299 := hS17.nilrow none 24 49
    refine Runs.fill (m := [some (.slice Aa0 a0.length ca0), some (.slice Aa1 a1.length ca1), some (.func (.func 33) #[] #[]), none, none, none, none, none, some (.slice none 0 0), none, none, none, none, none, none, none, none, none, none, none, none, none, none, none, none, none, none, none, none, none, none, none, none, none, none, none, none, none, none, none, none, none, none, none, none, none, none, none, none, none, none, none, none, none, none, none, none, none, none, none, none, none, none, none, none, none, none]) (by kernel_rfl) ?_
    exact L60 a0 a1 [] _ hv26 rfl _ Aa0 ca0 Aa1 ca1 none 0 _ hS299 ha0 ha1

noncomputable def cd18 (p : List Nat) : Code := sub (bodyOf Tryd.f18) p
def state_Meet.f (a0 : List api_Final) (a1 : List api_Final) : Option ((List api_Final) × Int) :=
  (state_walk_1.f a0 a1 >>= (fun (t1, t2) => some ((t1, t2))))
set_option maxHeartbeats 16000000 in
theorem state_Meet.ok (a0 : List api_Final) (a1 : List api_Final) (Aa0 : Option Addr) (ca0 : Nat) (Aa1 : Option Addr) (ca1 : Nat) {w0 : World} {Z : Zm} {fs : List XObj} {w : World} (hS0 : St w0 Z (fs) w) (ha0 : SlZ (flat enc_api_Final) 49 Z Aa0 ca0 a0) (ha1 : SlZ (flat enc_api_Final) 49 Z Aa1 ca1 a1) {q0 : List api_Final} {q1 : Int} (hp0 : state_Meet.f a0 a1 = some (q0, q1)) :
    Calls Tryd.prog 18 #[.slice Aa0 a0.length ca0, .slice Aa1 a1.length ca1] w (fun e w' => ∃ (QA0 : Option Addr) (Qc0 : Nat), e = .returned (.tuple #[.slice QA0 q0.length Qc0, .int .i64 q1]) ∧ St w0 Z (xrow QA0 Qc0 24 49 (q0.flatMap enc_api_Final) :: fs) w') := by
  refine calls_abs ?_; intro R hR
  unfold state_Meet.f at hp0
  refine calls_of_runs (fn := Tryd.f18) (c := cd18 []) Tryd.func18 (by kernel_rfl) (al := [.slice Aa0 a0.length ca0, .slice Aa1 a1.length ca1]) rfl (n := 9) rfl ?_
  refine sx_run 9 (todo' := [.inRegion (opsOf (cd18 [1, 0])) [2, 3, 4, 5, 6], .code (cd18 [1, 1])]) (us := [(4, .slice none 0 0), (5, .int .i64 0), (6, .slice Aa0 a0.length ca0), (7, .slice Aa1 a1.length ca1)]) (by kernel_rfl) ?_
  obtain ⟨⟨t1, t2⟩, hr5, hp6⟩ := bind_some' hp0
  try dsimp only at hp6
  refine r_call1 (c := (cd18 [1, 0])) (i := 2) (d := (some 8)) (g := 31) (args := #[.slice Aa0 a0.length ca0, .slice Aa1 a1.length ca1, .func (.func 33) #[] #[]]) (by kernel_rfl) (by kernel_rfl) (by kernel_rfl) (by kernel_rfl) (state_walk_1.ok a0 a1 Aa0 ca0 Aa1 ca1 hS0 ha0 ha1 hr5) ?_
  rintro _ w8 ⟨Q3, Q4, rfl, hS9⟩
  refine ⟨.tuple #[.slice Q3 t1.length Q4, .int .i64 t2], rfl, ?_⟩
  refine sx_run 5 (todo' := [.code (cd18 [1, 1])]) (us := [(9, .slice Q3 t1.length Q4), (10, .int .i64 t2), (4, .slice Q3 t1.length Q4), (5, .int .i64 t2)]) (by kernel_rfl) ?_
  refine runs_ret (fn := Tryd.f18) (v := .tuple #[.slice Q3 t1.length Q4, .int .i64 t2]) Tryd.func18 (by kernel_rfl) ?_
  have hr10 := (Option.some.inj hp6)
  cases hr10
  exact hR _ _ ⟨Q3, Q4, rfl, hS9⟩

noncomputable def cd34 (p : List Nat) : Code := sub (bodyOf Tryd.f34) p
def state_Minus_1.f (a0 : Bool) (a1 : Bool) : Option Bool :=
  (if (!a1) = true then some (true) else some (false))
set_option maxHeartbeats 16000000 in
theorem state_Minus_1.ok (a0 : Bool) (a1 : Bool) {w0 : World} {Z : Zm} {fs : List XObj} {w : World} (hS0 : St w0 Z (fs) w) {q0 : Bool} (hp0 : state_Minus_1.f a0 a1 = some q0) :
    Calls Tryd.prog 34 #[.bool a0, .bool a1] w (fun e w' => e = .returned (.bool q0) ∧ St w0 Z (fs) w') := by
  refine calls_abs ?_; intro R hR
  unfold state_Minus_1.f at hp0
  refine calls_of_runs (fn := Tryd.f34) (c := cd34 []) Tryd.func34 (by kernel_rfl) (al := [.bool a0, .bool a1]) rfl (n := 5) rfl ?_
  refine sx_split 8 (todo' := [.inRegion (opsOf (cd34 [1, 0])) [2], .code (cd34 [1, 1])]) (us := [(4, .bool false), (5, .bool a1)]) (d := 6) (t := (!a1)) (by kernel_rfl) (fun h1 => ?_) (fun h2 => ?_)
  ·skip
   have hp3 := ite_t hp0 h1
   refine sx_run 2 (todo' := [.code (cd34 [1, 1])]) (us := [(4, .bool true)]) (by kernel_rfl) ?_
   refine runs_ret (fn := Tryd.f34) (v := .bool true) Tryd.func34 (by kernel_rfl) ?_
   have hr4 := (Option.some.inj hp3)
   cases hr4
   exact hR _ _ ⟨rfl, hS0⟩
  ·skip
   have hp5 := ite_f hp0 h2
   refine sx_run 2 (todo' := [.code (cd34 [1, 1])]) (us := [(4, .bool false)]) (by kernel_rfl) ?_
   refine runs_ret (fn := Tryd.f34) (v := .bool false) Tryd.func34 (by kernel_rfl) ?_
   have hr6 := (Option.some.inj hp5)
   cases hr6
   exact hR _ _ ⟨rfl, hS0⟩

def state_walk_2.l0 (t38 : List api_Final) (t43 : List api_Final) (t48 : List api_Final) : Option (List api_Final) :=
  (((if (decide ((t38.length : Int) > 0)) = true then some (.inl ()) else (if (decide ((t43.length : Int) > 0)) = true then some (.inl ()) else some (.inr (t48)))) : Option (Sum Unit (List api_Final))) >>= (fun | .inl () => (((if ((t38.length : Int) == 0) = true then some (1) else (if (decide ((t43.length : Int) > 0)) = true then (if 0 ≤ (0 : Int) ∧ (0 : Int) < (t38.length : Int) then (if 0 ≤ (0 : Int) ∧ (0 : Int) < (t43.length : Int) then (state_Compare.f (gt t38 (0 : Int)) (gt t43 (0 : Int)) >>= (fun t284 => some (t284))) else none) else none) else some ((-1)))) : Option Int) >>= (fun t73 => (((if (decide (t73 ≤ 0)) = true then (if 0 ≤ (0 : Int) ∧ (0 : Int) < (t38.length : Int) then (if 0 ≤ (1 : Int) ∧ (1 : Int) ≤ (t38.length : Int) then some ((((t38.take t38.length).drop ((1 : Int).toNat)), (gt t38 (0 : Int)))) else none) else none) else some ((t38, (⟨0, (Vector.replicate 48 0)⟩ : api_Final)))) : Option ((List api_Final) × api_Final)) >>= (fun (t86, t91) => (((if (decide (t73 ≥ 0)) = true then (if 0 ≤ (0 : Int) ∧ (0 : Int) < (t43.length : Int) then (if 0 ≤ (1 : Int) ∧ (1 : Int) ≤ (t43.length : Int) then some ((((t43.take t43.length).drop ((1 : Int).toNat)), (gt t43 (0 : Int)))) else none) else none) else some ((t43, t91))) : Option ((List api_Final) × api_Final)) >>= (fun (t100, t105) => (if (decide (t73 ≤ 0)) = true then (if (decide (t73 ≥ 0)) = true then (state_Minus_1.f true true >>= (fun t117 => (if t117 = true then (if (t48.length + ([t105] : List api_Final).length) * 392 ≤ 140737488355328 then (state_walk_2.l0 t86 t100 (t48 ++ ([t105] : List api_Final))) else none) else (state_walk_2.l0 t86 t100 t48)))) else (state_Minus_1.f true false >>= (fun t143 => (if t143 = true then (if (t48.length + ([t105] : List api_Final).length) * 392 ≤ 140737488355328 then (state_walk_2.l0 t86 t100 (t48 ++ ([t105] : List api_Final))) else none) else (state_walk_2.l0 t86 t100 t48))))) else (if (decide (t73 ≥ 0)) = true then (state_Minus_1.f false true >>= (fun t172 => (if t172 = true then (if (t48.length + ([t105] : List api_Final).length) * 392 ≤ 140737488355328 then (state_walk_2.l0 t86 t100 (t48 ++ ([t105] : List api_Final))) else none) else (state_walk_2.l0 t86 t100 t48)))) else (state_Minus_1.f false false >>= (fun t198 => (if t198 = true then (if (t48.length + ([t105] : List api_Final).length) * 392 ≤ 140737488355328 then (state_walk_2.l0 t86 t100 (t48 ++ ([t105] : List api_Final))) else none) else (state_walk_2.l0 t86 t100 t48)))))))))))) | .inr e => some e))
 partial_fixpoint
def state_walk_2.f (a0 : List api_Final) (a1 : List api_Final) : Option ((List api_Final) × Int) :=
  (state_Rises.f a0 >>= (fun t1 => (if (!t1) = true then some (([], 100)) else (state_Rises.f a1 >>= (fun t13 => (if (!t13) = true then some (([], 100)) else (state_walk_2.l0 a0 a1 [] >>= (fun t28 => some ((t28, 0))))))))))
set_option maxHeartbeats 16000000 in
theorem state_walk_2.ok (a0 : List api_Final) (a1 : List api_Final) (Aa0 : Option Addr) (ca0 : Nat) (Aa1 : Option Addr) (ca1 : Nat) {w0 : World} {Z : Zm} {fs : List XObj} {w : World} (hS0 : St w0 Z (fs) w) (ha0 : SlZ (flat enc_api_Final) 49 Z Aa0 ca0 a0) (ha1 : SlZ (flat enc_api_Final) 49 Z Aa1 ca1 a1) {q0 : List api_Final} {q1 : Int} (hp0 : state_walk_2.f a0 a1 = some (q0, q1)) :
    Calls Tryd.prog 31 #[.slice Aa0 a0.length ca0, .slice Aa1 a1.length ca1, .func (.func 34) #[] #[]] w (fun e w' => ∃ (QA0 : Option Addr) (Qc0 : Nat), e = .returned (.tuple #[.slice QA0 q0.length Qc0, .int .i64 q1]) ∧ St w0 Z (xrow QA0 Qc0 24 49 (q0.flatMap enc_api_Final) :: fs) w') := by
  refine calls_abs ?_; intro R hR
  unfold state_walk_2.f at hp0
  refine calls_of_runs (fn := Tryd.f31) (c := cd31 []) Tryd.func31 (by kernel_rfl) (al := [.slice Aa0 a0.length ca0, .slice Aa1 a1.length ca1, .func (.func 34) #[] #[]]) rfl (n := 64) rfl ?_
  refine sx_run 9 (todo' := [.inRegion (opsOf (cd31 [1, 0, 0])) [1, 2, 3, 4, 5, 6, 7], .code (cd31 [1, 0, 1]), .code (cd31 [1, 1])]) (us := [(6, .slice none 0 0), (7, .int .i64 0), (11, .slice Aa0 a0.length ca0)]) (by kernel_rfl) ?_
  obtain ⟨t1, hr2, hp3⟩ := bind_some' hp0
  refine r_call1 (c := (cd31 [1, 0, 0])) (i := 1) (d := (some 12)) (g := 13) (args := #[.slice Aa0 a0.length ca0]) (by kernel_rfl) (by kernel_rfl) (by kernel_rfl) (by kernel_rfl) (state_Rises.ok a0 Aa0 ca0 hS0 ha0 hr2) ?_
  rintro _ w4 ⟨rfl, hS5⟩
  refine ⟨.bool t1, rfl, ?_⟩
  refine sx_split 1 (todo' := [.inRegion (opsOf (cd31 [1, 0, 0])) [3, 4, 5, 6, 7], .code (cd31 [1, 0, 1]), .code (cd31 [1, 1])]) (us := []) (d := 13) (t := (!t1)) (by kernel_rfl) (fun h6 => ?_) (fun h7 => ?_)
  ·skip
   have hp8 := ite_t hp3 h6
   refine sx_run 12 (todo' := [.code (cd31 [1, 0, 1, 0, 1]), .code (cd31 [1, 1])]) (us := [(14, .bool true), (15, undef), (16, undef), (17, undef), (18, .bool true), (6, .slice none 0 0), (7, .int .i64 100)]) (by kernel_rfl) ?_
   have hS10 := hS5.nilrow none 24 49
   refine runs_ret (fn := Tryd.f31) (v := .tuple #[.slice none 0 0, .int .i64 100]) Tryd.func31 (by kernel_rfl) ?_
   have hr11 := (Option.some.inj hp8)
   cases hr11
   exact hR _ _ ⟨none, 0, rfl, hS10⟩
  ·skip
   have hp12 := ite_f hp3 h7
   refine sx_run 2 (todo' := [.inRegion (opsOf (cd31 [1, 0, 0])) [5, 6, 7], .code (cd31 [1, 0, 1]), .code (cd31 [1, 1])]) (us := [(14, .bool false), (15, .slice Aa1 a1.length ca1)]) (by kernel_rfl) ?_
   obtain ⟨t13, hr14, hp15⟩ := bind_some' hp12
   refine r_call1 (c := (cd31 [1, 0, 0])) (i := 5) (d := (some 16)) (g := 13) (args := #[.slice Aa1 a1.length ca1]) (by kernel_rfl) (by kernel_rfl) (by kernel_rfl) (by kernel_rfl) (state_Rises.ok a1 Aa1 ca1 hS5 ha1 hr14) ?_
   rintro _ w16 ⟨rfl, hS17⟩
   refine ⟨.bool t13, rfl, ?_⟩
   refine sx_split 1 (todo' := [.inRegion (opsOf (cd31 [1, 0, 0])) [7], .code (cd31 [1, 0, 1]), .code (cd31 [1, 1])]) (us := []) (d := 17) (t := (!t13)) (by kernel_rfl) (fun h18 => ?_) (fun h19 => ?_)
   ·skip
    have hp20 := ite_t hp15 h18
    refine sx_run 8 (todo' := [.code (cd31 [1, 0, 1, 0, 1]), .code (cd31 [1, 1])]) (us := [(18, .bool true), (6, .slice none 0 0), (7, .int .i64 100)]) (by kernel_rfl) ?_
    have hS22 := hS17.nilrow none 24 49
    refine runs_ret (fn := Tryd.f31) (v := .tuple #[.slice none 0 0, .int .i64 100]) Tryd.func31 (by kernel_rfl) ?_
    have hr23 := (Option.some.inj hp20)
    cases hr23
    exact hR _ _ ⟨none, 0, rfl, hS22⟩
   ·skip
    have hp24 := ite_f hp15 h19
    refine sx_run 11 (todo' := [.code (cd31 [1, 1, 1, 0, 0, 0]), .inLoop (cd31 [1, 1, 1, 0, 0, 0]), .inBlock 0, .code (cd31 [1, 1, 1, 1])]) (us := [(18, .bool false), (8, .slice none 0 0)]) (by kernel_rfl) ?_
    obtain ⟨v25, hv26, hp27⟩ := bind_some' hp24
    have J34 : ∀ (t28 : List api_Final) (he36 : t28 = v25) (l35 : List Value) (A29 : Option Addr) (c30 : Nat) (w32 : World) (hS33 : St w0 Z (xrow A29 c30 24 49 (t28.flatMap enc_api_Final) :: fs) w32), Runs Tryd.prog 31 [.code (cd31 [1, 1, 1, 1])] (fill [none, none, none, none, none, none, none, none, some (.slice A29 t28.length c30), none, none, none, none, none, none, none, none, none, none, none, none, none, none, none, none, none, none, none, none, none, none, none, none, none, none, none, none, none, none, none, none, none, none, none, none, none, none, none, none, none, none, none, none, none, none, none, none, none, none, none, none, none, none, none, none, none, none] l35) w32 R := by
     intro t28 he36 l35 A29 c30 w32 hS33
     subst he36
     try dsimp only at hp27
     refine sx_run 6 (todo' := [.code (cd31 [1, 1, 1, 1, 1])]) (us := [(66, .slice A29 t28.length c30), (6, .slice A29 t28.length c30), (7, .int .i64 0)]) (by kernel_rfl) ?_
     refine runs_ret (fn := Tryd.f31) (v := .tuple #[.slice A29 t28.length c30, .int .i64 0]) Tryd.func31 (by kernel_rfl) ?_
     have hr37 := (Option.some.inj hp27)
     cases hr37
     exact hR _ _ ⟨A29, c30, rfl, hS33⟩
    have L60 : ∀ (t38 : List api_Final) (t43 : List api_Final) (t48 : List api_Final) (e55 : (List api_Final)), state_walk_2.l0 t38 t43 t48 = some e55 → e55 = v25 → ∀ (l54 : List Value) (A39 : Option Addr) (c40 : Nat) (A44 : Option Addr) (c45 : Nat) (A49 : Option Addr) (c50 : Nat) (w52 : World) (hS53 : St w0 Z (xrow A49 c50 24 49 (t48.flatMap enc_api_Final) :: fs) w52) (hs42 : SlZ (flat enc_api_Final) 49 Z A39 c40 t38) (hs47 : SlZ (flat enc_api_Final) 49 Z A44 c45 t43), Runs Tryd.prog 31 [.code (cd31 [1, 1, 1, 0, 0, 0]), .inLoop (cd31 [1, 1, 1, 0, 0, 0]), .inBlock 0, .code (cd31 [1, 1, 1, 1])] (fill [some (.slice A39 t38.length c40), some (.slice A44 t43.length c45), some (.func (.func 34) #[] #[]), none, none, none, none, none, some (.slice A49 t48.length c50), none, none, none, none, none, none, none, none, none, none, none, none, none, none, none, none, none, none, none, none, none, none, none, none, none, none, none, none, none, none, none, none, none, none, none, none, none, none, none, none, none, none, none, none, none, none, none, none, none, none, none, none, none, none, none, none, none, none] l54) w52 R := by
     refine state_walk_2.l0.partial_correctness (fun t38 t43 t48 e55 => e55 = v25 → ∀ (l54 : List Value) (A39 : Option Addr) (c40 : Nat) (A44 : Option Addr) (c45 : Nat) (A49 : Option Addr) (c50 : Nat) (w52 : World) (hS53 : St w0 Z (xrow A49 c50 24 49 (t48.flatMap enc_api_Final) :: fs) w52) (hs42 : SlZ (flat enc_api_Final) 49 Z A39 c40 t38) (hs47 : SlZ (flat enc_api_Final) 49 Z A44 c45 t43), Runs Tryd.prog 31 [.code (cd31 [1, 1, 1, 0, 0, 0]), .inLoop (cd31 [1, 1, 1, 0, 0, 0]), .inBlock 0, .code (cd31 [1, 1, 1, 1])] (fill [some (.slice A39 t38.length c40), some (.slice A44 t43.length c45), some (.func (.func 34) #[] #[]), none, none, none, none, none, some (.slice A49 t48.length c50), none, none, none, none, none, none, none, none, none, none, none, none, none, none, none, none, none, none, none, none, none, none, none, none, none, none, none, none, none, none, none, none, none, none, none, none, none, none, none, none, none, none, none, none, none, none, none, none, none, none, none, none, none, none, none, none, none, none] l54) w52 R) ?_
     intro rec59 ih58 t38 t43 t48 e55 hb57 he56 l54 A39 c40 A44 c45 A49 c50 w52 hS53 hs42 hs47
     obtain ⟨v61, hv62, hp63⟩ := bind_some' hb57
     have hq66 : ∀ x, Sum.inr x = v61 → x = e55 := by intro x hx; subst hx; simpa using hp63
     have J67 : ∀ (he69 : Sum.inl () = v61) (l68 : List Value) (w64 : World) (hS65 : St w0 Z (xrow A49 c50 24 49 (t48.flatMap enc_api_Final) :: fs) w64), Runs Tryd.prog 31 [.code (cd31 [1, 1, 1, 0, 0, 0, 1]), .inLoop (cd31 [1, 1, 1, 0, 0, 0]), .inBlock 0, .code (cd31 [1, 1, 1, 1])] (fill [some (.slice A39 t38.length c40), some (.slice A44 t43.length c45), some (.func (.func 34) #[] #[]), none, none, none, none, none, some (.slice A49 t48.length c50), none, none, none, none, none, none, none, none, none, none, none, none, none, none, none, none, none, none, none, none, none, none, none, none, none, none, none, none, none, none, none, none, none, none, none, none, none, none, none, none, none, none, none, none, none, none, none, none, none, none, none, none, none, none, none, none, none, none] l68) w64 R := by
      intro he69 l68 w64 hS65
      subst he69
      try dsimp only at hp63
      obtain ⟨v70, hv71, hp72⟩ := bind_some' hp63
      have J76 : ∀ (t73 : Int) (he78 : t73 = v70) (l77 : List Value) (w74 : World) (hS75 : St w0 Z (xrow A49 c50 24 49 (t48.flatMap enc_api_Final) :: fs) w74), Runs Tryd.prog 31 [.code (cd31 [1, 1, 1, 0, 0, 0, 1, 0, 1, 1]), .inBlock 1, .inLoop (cd31 [1, 1, 1, 0, 0, 0]), .inBlock 0, .code (cd31 [1, 1, 1, 1])] (fill [some (.slice A39 t38.length c40), some (.slice A44 t43.length c45), some (.func (.func 34) #[] #[]), none, none, none, none, none, some (.slice A49 t48.length c50), some (.int .i64 t73), none, none, none, none, none, none, none, none, none, none, none, none, none, none, none, none, none, none, none, none, none, none, none, none, none, none, none, none, none, none, none, none, none, none, none, none, none, none, none, none, none, none, none, none, none, none, none, none, none, none, none, none, none, none, none, none, none] l77) w74 R := by
       intro t73 he78 l77 w74 hS75
       subst he78
       try dsimp only at hp72
       refine sx_run 2 (todo' := [.inRegion (opsOf (cd31 [1, 1, 1, 0, 0, 0, 1, 0, 1, 1, 0])) [0], .code (cd31 [1, 1, 1, 0, 0, 0, 1, 0, 1, 1, 1]), .inBlock 1, .inLoop (cd31 [1, 1, 1, 0, 0, 0]), .inBlock 0, .code (cd31 [1, 1, 1, 1])]) (us := []) (by kernel_rfl) ?_
       refine r_alloc (c := (cd31 [1, 1, 1, 0, 0, 0, 1, 0, 1, 1, 0])) (i := 0) (d := (some 10)) (ty := 0) (z := .agg (enc_api_Final (⟨0, (Vector.replicate 48 0)⟩ : api_Final)).toArray) (t := 24) (cs := enc_api_Final (⟨0, (Vector.replicate 48 0)⟩ : api_Final)) hS75 (by kernel_rfl) (by kernel_rfl) (by kernel_rfl) (by kernel_rfl) ?_
       intro b79 w80 hS81
       obtain ⟨v83, hv84, hp85⟩ := bind_some' hp72
       have J94 : ∀ (t86 : List api_Final) (t91 : api_Final) (he96 : (t86, t91) = v83) (l95 : List Value) (A87 : Option Addr) (c88 : Nat) (w92 : World) (hS93 : St w0 Z (xrow A49 c50 24 49 (t48.flatMap enc_api_Final) :: xblk b79 24 (enc_api_Final t91) :: fs) w92) (hs90 : SlZ (flat enc_api_Final) 49 Z A87 c88 t86), Runs Tryd.prog 31 [.code (cd31 [1, 1, 1, 0, 0, 0, 1, 0, 1, 1, 1, 1]), .inBlock 1, .inLoop (cd31 [1, 1, 1, 0, 0, 0]), .inBlock 0, .code (cd31 [1, 1, 1, 1])] (fill [some (.slice A87 t86.length c88), some (.slice A44 t43.length c45), some (.func (.func 34) #[] #[]), none, none, none, none, none, some (.slice A49 t48.length c50), some (.int .i64 t73), some (.pointer (some ⟨b79, 0, none⟩)), none, none, none, none, none, none, none, none, none, none, none, none, none, none, none, none, none, none, none, none, none, none, none, none, none, none, none, none, none, none, none, none, none, none, none, none, none, none, none, none, none, none, none, none, none, none, none, none, none, none, none, none, none, none, none, none] l95) w92 R := by
        intro t86 t91 he96 l95 A87 c88 w92 hS93 hs90
        subst he96
        try dsimp only at hp85
        obtain ⟨v97, hv98, hp99⟩ := bind_some' hp85
        have J108 : ∀ (t100 : List api_Final) (t105 : api_Final) (he110 : (t100, t105) = v97) (l109 : List Value) (A101 : Option Addr) (c102 : Nat) (w106 : World) (hS107 : St w0 Z (xrow A49 c50 24 49 (t48.flatMap enc_api_Final) :: xblk b79 24 (enc_api_Final t105) :: fs) w106) (hs104 : SlZ (flat enc_api_Final) 49 Z A101 c102 t100), Runs Tryd.prog 31 [.code (cd31 [1, 1, 1, 0, 0, 0, 1, 0, 1, 1, 1, 1, 1]), .inBlock 1, .inLoop (cd31 [1, 1, 1, 0, 0, 0]), .inBlock 0, .code (cd31 [1, 1, 1, 1])] (fill [some (.slice A87 t86.length c88), some (.slice A101 t100.length c102), some (.func (.func 34) #[] #[]), none, none, none, none, none, some (.slice A49 t48.length c50), some (.int .i64 t73), some (.pointer (some ⟨b79, 0, none⟩)), none, none, none, none, none, none, none, none, none, none, none, none, none, none, none, none, none, none, none, none, none, none, none, none, none, none, none, none, none, none, none, none, none, none, none, none, none, none, none, none, none, none, none, none, none, none, none, none, none, none, none, none, none, none, none, none] l109) w106 R := by
         intro t100 t105 he110 l109 A101 c102 w106 hS107 hs104
         subst he110
         try dsimp only at hp99
         refine sx_split 5 (todo' := [.inRegion (opsOf (cd31 [1, 1, 1, 0, 0, 0, 1, 0, 1, 1, 1, 1, 1, 0])) [3, 4, 5], .code (cd31 [1, 1, 1, 0, 0, 0, 1, 0, 1, 1, 1, 1, 1, 1]), .inBlock 1, .inLoop (cd31 [1, 1, 1, 0, 0, 0]), .inBlock 0, .code (cd31 [1, 1, 1, 1])]) (us := [(56, .func (.func 34) #[] #[]), (57, .int .i64 t73)]) (d := 58) (t := (decide (t73 ≤ 0))) (by kernel_rfl) (fun h111 => ?_) (fun h112 => ?_)
         ·skip
          have hp113 := ite_t hp99 h111
          refine sx_split 2 (todo' := [.inRegion (opsOf (cd31 [1, 1, 1, 0, 0, 0, 1, 0, 1, 1, 1, 1, 1, 0])) [5], .code (cd31 [1, 1, 1, 0, 0, 0, 1, 0, 1, 1, 1, 1, 1, 1]), .inBlock 1, .inLoop (cd31 [1, 1, 1, 0, 0, 0]), .inBlock 0, .code (cd31 [1, 1, 1, 1])]) (us := [(59, .int .i64 t73)]) (d := 60) (t := (decide (t73 ≥ 0))) (by kernel_rfl) (fun h114 => ?_) (fun h115 => ?_)
          ·skip
           have hp116 := ite_t hp113 h114
           obtain ⟨t117, hr118, hp119⟩ := bind_some' hp116
           refine r_call1 (c := (cd31 [1, 1, 1, 0, 0, 0, 1, 0, 1, 1, 1, 1, 1, 0])) (i := 5) (d := (some 61)) (g := 34) (args := #[.bool true, .bool true]) (by kernel_rfl) (by kernel_rfl) (by kernel_rfl) (by kernel_rfl) (state_Minus_1.ok true true hS107 hr118) ?_
           rintro _ w120 ⟨rfl, hS121⟩
           refine ⟨.bool t117, rfl, ?_⟩
           refine sx_run 1 (todo' := [.code (cd31 [1, 1, 1, 0, 0, 0, 1, 0, 1, 1, 1, 1, 1, 1]), .inBlock 1, .inLoop (cd31 [1, 1, 1, 0, 0, 0]), .inBlock 0, .code (cd31 [1, 1, 1, 1])]) (us := []) (by kernel_rfl) ?_
           cases t117
           ·skip
            have hp122 := ite_f hp119 rfl
            refine sx_run 3 (todo' := [.inLoop (cd31 [1, 1, 1, 0, 0, 0]), .inBlock 0, .code (cd31 [1, 1, 1, 1])]) (us := []) (by kernel_rfl) ?_
            have hS123 := hS121.pick1
            have hS124 := hS123.drop
            refine sx_run 1 (todo' := [.code (cd31 [1, 1, 1, 0, 0, 0]), .inLoop (cd31 [1, 1, 1, 0, 0, 0]), .inBlock 0, .code (cd31 [1, 1, 1, 1])]) (us := []) (by kernel_rfl) ?_
            refine Runs.fill (m := [some (.slice A87 t86.length c88), some (.slice A101 t100.length c102), some (.func (.func 34) #[] #[]), none, none, none, none, none, some (.slice A49 t48.length c50), none, none, none, none, none, none, none, none, none, none, none, none, none, none, none, none, none, none, none, none, none, none, none, none, none, none, none, none, none, none, none, none, none, none, none, none, none, none, none, none, none, none, none, none, none, none, none, none, none, none, none, none, none, none, none, none, none, none]) (by kernel_rfl) ?_
            exact ih58 t86 t100 t48 _ hp122 he56 _ A87 c88 A101 c102 A49 c50 _ hS124 hs90 hs104
           ·skip
            have hp125 := ite_t hp119 rfl
            refine sx_run 3 (todo' := [.inRegion (opsOf (cd31 [1, 1, 1, 0, 0, 0, 1, 0, 1, 1, 1, 1, 1, 1, 0])) [1, 2, 3, 4], .inBlock 1, .inLoop (cd31 [1, 1, 1, 0, 0, 0]), .inBlock 0, .code (cd31 [1, 1, 1, 1])]) (us := [(62, .slice A49 t48.length c50)]) (by kernel_rfl) ?_
            refine r_load (c := (cd31 [1, 1, 1, 0, 0, 0, 1, 0, 1, 1, 1, 1, 1, 1, 0])) (i := 1) (d := (some 63)) (ty := 24) (t := 24) (x := (.tmp 10)) (p := ⟨b79, 0, none⟩) (v := .agg (enc_api_Final t105).toArray) (by kernel_rfl) (by kernel_rfl) (by kernel_rfl) (loads_agg (hS121.blk 1 rfl) (by kernel_rfl) (lenK (len_api_Final _) (by kernel_rfl))) ?_
            refine r_lit (c := (cd31 [1, 1, 1, 0, 0, 0, 1, 0, 1, 1, 1, 1, 1, 1, 0])) (i := 2) (d := (some 64)) (ty := 28) (t := 28) (e := 24) (sz := 49) (n := 1) (parts := #[(0, (.tmp 63))]) (vs := [(0, .agg (enc_api_Final t105).toArray)]) (z := zeroOf Tryd.prog 24) (cs' := ([t105] : List api_Final).flatMap enc_api_Final) hS121 (by kernel_rfl) (by kernel_rfl) (by kernel_rfl) (by kernel_rfl) (by kernel_rfl) (by decide) (by decide) (by kernel_rfl) rfl (Parts.cons (c := enc_api_Final t105) (by kernel_rfl) (len_api_Final _) Parts.nil) rfl ?_
            intro b127 w128 hS129
            have hS130 := hS129.pick1
            obtain ⟨g131, hp132⟩ := ite_some hp125
            refine r_append (c := (cd31 [1, 1, 1, 0, 0, 0, 1, 0, 1, 1, 1, 1, 1, 1, 0])) (i := 3) (d := (some 65)) (ty := 28) (enc := enc_api_Final) (e := 24) (u := 24) (t := 28) (t2 := 28) (sz := 49) (cp := c50) (A := A49) (bytes := 392) (xs := t48) (ys := ([t105] : List api_Final)) (s := (.tmp 62)) (x := (.tmp 64)) (xv := .slice (some ⟨b127, 0, none⟩) ([t105] : List api_Final).length 1) (info := infoOf Tryd.prog 24) (z := zeroOf Tryd.prog 24) (ycs := ([t105] : List api_Final).flatMap enc_api_Final) hS130 (by kernel_rfl) (by kernel_rfl) (by kernel_rfl) (by kernel_rfl) (by kernel_rfl) (.inl (by kernel_rfl)) (by kernel_rfl) (by kernel_rfl) (by kernel_rfl) (by kernel_rfl) (by kernel_rfl) (by omega) len_api_Final one_api_Final (src_row (hS130.row 1 rfl) (by omega) len_api_Final) rfl g131 (by omega) ?_
            intro A133 c134 w135 hS136
            refine sx_run 3 (todo' := [.inLoop (cd31 [1, 1, 1, 0, 0, 0]), .inBlock 0, .code (cd31 [1, 1, 1, 1])]) (us := [(8, .slice A133 (t48 ++ ([t105] : List api_Final)).length c134)]) (by kernel_rfl) ?_
            have hS138 := hS136.pick1
            have hS139 := hS138.drop
            have hS140 := hS139.pick1
            have hS141 := hS140.drop
            refine sx_run 1 (todo' := [.code (cd31 [1, 1, 1, 0, 0, 0]), .inLoop (cd31 [1, 1, 1, 0, 0, 0]), .inBlock 0, .code (cd31 [1, 1, 1, 1])]) (us := []) (by kernel_rfl) ?_
            refine Runs.fill (m := [some (.slice A87 t86.length c88), some (.slice A101 t100.length c102), some (.func (.func 34) #[] #[]), none, none, none, none, none, some (.slice A133 (t48 ++ ([t105] : List api_Final)).length c134), none, none, none, none, none, none, none, none, none, none, none, none, none, none, none, none, none, none, none, none, none, none, none, none, none, none, none, none, none, none, none, none, none, none, none, none, none, none, none, none, none, none, none, none, none, none, none, none, none, none, none, none, none, none, none, none, none, none]) (by kernel_rfl) ?_
            exact ih58 t86 t100 (t48 ++ ([t105] : List api_Final)) _ hp132 he56 _ A87 c88 A101 c102 A133 c134 _ hS141 hs90 hs104
          ·skip
           have hp142 := ite_f hp113 h115
           obtain ⟨t143, hr144, hp145⟩ := bind_some' hp142
           refine r_call1 (c := (cd31 [1, 1, 1, 0, 0, 0, 1, 0, 1, 1, 1, 1, 1, 0])) (i := 5) (d := (some 61)) (g := 34) (args := #[.bool true, .bool false]) (by kernel_rfl) (by kernel_rfl) (by kernel_rfl) (by kernel_rfl) (state_Minus_1.ok true false hS107 hr144) ?_
           rintro _ w146 ⟨rfl, hS147⟩
           refine ⟨.bool t143, rfl, ?_⟩
           refine sx_run 1 (todo' := [.code (cd31 [1, 1, 1, 0, 0, 0, 1, 0, 1, 1, 1, 1, 1, 1]), .inBlock 1, .inLoop (cd31 [1, 1, 1, 0, 0, 0]), .inBlock 0, .code (cd31 [1, 1, 1, 1])]) (us := []) (by kernel_rfl) ?_
           cases t143
           ·skip
            have hp148 := ite_f hp145 rfl
            refine sx_run 3 (todo' := [.inLoop (cd31 [1, 1, 1, 0, 0, 0]), .inBlock 0, .code (cd31 [1, 1, 1, 1])]) (us := []) (by kernel_rfl) ?_
            have hS149 := hS147.pick1
            have hS150 := hS149.drop
            refine sx_run 1 (todo' := [.code (cd31 [1, 1, 1, 0, 0, 0]), .inLoop (cd31 [1, 1, 1, 0, 0, 0]), .inBlock 0, .code (cd31 [1, 1, 1, 1])]) (us := []) (by kernel_rfl) ?_
            refine Runs.fill (m := [some (.slice A87 t86.length c88), some (.slice A101 t100.length c102), some (.func (.func 34) #[] #[]), none, none, none, none, none, some (.slice A49 t48.length c50), none, none, none, none, none, none, none, none, none, none, none, none, none, none, none, none, none, none, none, none, none, none, none, none, none, none, none, none, none, none, none, none, none, none, none, none, none, none, none, none, none, none, none, none, none, none, none, none, none, none, none, none, none, none, none, none, none, none]) (by kernel_rfl) ?_
            exact ih58 t86 t100 t48 _ hp148 he56 _ A87 c88 A101 c102 A49 c50 _ hS150 hs90 hs104
           ·skip
            have hp151 := ite_t hp145 rfl
            refine sx_run 3 (todo' := [.inRegion (opsOf (cd31 [1, 1, 1, 0, 0, 0, 1, 0, 1, 1, 1, 1, 1, 1, 0])) [1, 2, 3, 4], .inBlock 1, .inLoop (cd31 [1, 1, 1, 0, 0, 0]), .inBlock 0, .code (cd31 [1, 1, 1, 1])]) (us := [(62, .slice A49 t48.length c50)]) (by kernel_rfl) ?_
            refine r_load (c := (cd31 [1, 1, 1, 0, 0, 0, 1, 0, 1, 1, 1, 1, 1, 1, 0])) (i := 1) (d := (some 63)) (ty := 24) (t := 24) (x := (.tmp 10)) (p := ⟨b79, 0, none⟩) (v := .agg (enc_api_Final t105).toArray) (by kernel_rfl) (by kernel_rfl) (by kernel_rfl) (loads_agg (hS147.blk 1 rfl) (by kernel_rfl) (lenK (len_api_Final _) (by kernel_rfl))) ?_
            refine r_lit (c := (cd31 [1, 1, 1, 0, 0, 0, 1, 0, 1, 1, 1, 1, 1, 1, 0])) (i := 2) (d := (some 64)) (ty := 28) (t := 28) (e := 24) (sz := 49) (n := 1) (parts := #[(0, (.tmp 63))]) (vs := [(0, .agg (enc_api_Final t105).toArray)]) (z := zeroOf Tryd.prog 24) (cs' := ([t105] : List api_Final).flatMap enc_api_Final) hS147 (by kernel_rfl) (by kernel_rfl) (by kernel_rfl) (by kernel_rfl) (by kernel_rfl) (by decide) (by decide) (by kernel_rfl) rfl (Parts.cons (c := enc_api_Final t105) (by kernel_rfl) (len_api_Final _) Parts.nil) rfl ?_
            intro b153 w154 hS155
            have hS156 := hS155.pick1
            obtain ⟨g157, hp158⟩ := ite_some hp151
            refine r_append (c := (cd31 [1, 1, 1, 0, 0, 0, 1, 0, 1, 1, 1, 1, 1, 1, 0])) (i := 3) (d := (some 65)) (ty := 28) (enc := enc_api_Final) (e := 24) (u := 24) (t := 28) (t2 := 28) (sz := 49) (cp := c50) (A := A49) (bytes := 392) (xs := t48) (ys := ([t105] : List api_Final)) (s := (.tmp 62)) (x := (.tmp 64)) (xv := .slice (some ⟨b153, 0, none⟩) ([t105] : List api_Final).length 1) (info := infoOf Tryd.prog 24) (z := zeroOf Tryd.prog 24) (ycs := ([t105] : List api_Final).flatMap enc_api_Final) hS156 (by kernel_rfl) (by kernel_rfl) (by kernel_rfl) (by kernel_rfl) (by kernel_rfl) (.inl (by kernel_rfl)) (by kernel_rfl) (by kernel_rfl) (by kernel_rfl) (by kernel_rfl) (by kernel_rfl) (by omega) len_api_Final one_api_Final (src_row (hS156.row 1 rfl) (by omega) len_api_Final) rfl g157 (by omega) ?_
            intro A159 c160 w161 hS162
            refine sx_run 3 (todo' := [.inLoop (cd31 [1, 1, 1, 0, 0, 0]), .inBlock 0, .code (cd31 [1, 1, 1, 1])]) (us := [(8, .slice A159 (t48 ++ ([t105] : List api_Final)).length c160)]) (by kernel_rfl) ?_
            have hS164 := hS162.pick1
            have hS165 := hS164.drop
            have hS166 := hS165.pick1
            have hS167 := hS166.drop
            refine sx_run 1 (todo' := [.code (cd31 [1, 1, 1, 0, 0, 0]), .inLoop (cd31 [1, 1, 1, 0, 0, 0]), .inBlock 0, .code (cd31 [1, 1, 1, 1])]) (us := []) (by kernel_rfl) ?_
            refine Runs.fill (m := [some (.slice A87 t86.length c88), some (.slice A101 t100.length c102), some (.func (.func 34) #[] #[]), none, none, none, none, none, some (.slice A159 (t48 ++ ([t105] : List api_Final)).length c160), none, none, none, none, none, none, none, none, none, none, none, none, none, none, none, none, none, none, none, none, none, none, none, none, none, none, none, none, none, none, none, none, none, none, none, none, none, none, none, none, none, none, none, none, none, none, none, none, none, none, none, none, none, none, none, none, none, none]) (by kernel_rfl) ?_
            exact ih58 t86 t100 (t48 ++ ([t105] : List api_Final)) _ hp158 he56 _ A87 c88 A101 c102 A159 c160 _ hS167 hs90 hs104
         ·skip
          have hp168 := ite_f hp99 h112
          refine sx_split 2 (todo' := [.inRegion (opsOf (cd31 [1, 1, 1, 0, 0, 0, 1, 0, 1, 1, 1, 1, 1, 0])) [5], .code (cd31 [1, 1, 1, 0, 0, 0, 1, 0, 1, 1, 1, 1, 1, 1]), .inBlock 1, .inLoop (cd31 [1, 1, 1, 0, 0, 0]), .inBlock 0, .code (cd31 [1, 1, 1, 1])]) (us := [(59, .int .i64 t73)]) (d := 60) (t := (decide (t73 ≥ 0))) (by kernel_rfl) (fun h169 => ?_) (fun h170 => ?_)
          ·skip
           have hp171 := ite_t hp168 h169
           obtain ⟨t172, hr173, hp174⟩ := bind_some' hp171
           refine r_call1 (c := (cd31 [1, 1, 1, 0, 0, 0, 1, 0, 1, 1, 1, 1, 1, 0])) (i := 5) (d := (some 61)) (g := 34) (args := #[.bool false, .bool true]) (by kernel_rfl) (by kernel_rfl) (by kernel_rfl) (by kernel_rfl) (state_Minus_1.ok false true hS107 hr173) ?_
           rintro _ w175 ⟨rfl, hS176⟩
           refine ⟨.bool t172, rfl, ?_⟩
           refine sx_run 1 (todo' := [.code (cd31 [1, 1, 1, 0, 0, 0, 1, 0, 1, 1, 1, 1, 1, 1]), .inBlock 1, .inLoop (cd31 [1, 1, 1, 0, 0, 0]), .inBlock 0, .code (cd31 [1, 1, 1, 1])]) (us := []) (by kernel_rfl) ?_
           cases t172
           ·skip
            have hp177 := ite_f hp174 rfl
            refine sx_run 3 (todo' := [.inLoop (cd31 [1, 1, 1, 0, 0, 0]), .inBlock 0, .code (cd31 [1, 1, 1, 1])]) (us := []) (by kernel_rfl) ?_
            have hS178 := hS176.pick1
            have hS179 := hS178.drop
            refine sx_run 1 (todo' := [.code (cd31 [1, 1, 1, 0, 0, 0]), .inLoop (cd31 [1, 1, 1, 0, 0, 0]), .inBlock 0, .code (cd31 [1, 1, 1, 1])]) (us := []) (by kernel_rfl) ?_
            refine Runs.fill (m := [some (.slice A87 t86.length c88), some (.slice A101 t100.length c102), some (.func (.func 34) #[] #[]), none, none, none, none, none, some (.slice A49 t48.length c50), none, none, none, none, none, none, none, none, none, none, none, none, none, none, none, none, none, none, none, none, none, none, none, none, none, none, none, none, none, none, none, none, none, none, none, none, none, none, none, none, none, none, none, none, none, none, none, none, none, none, none, none, none, none, none, none, none, none]) (by kernel_rfl) ?_
            exact ih58 t86 t100 t48 _ hp177 he56 _ A87 c88 A101 c102 A49 c50 _ hS179 hs90 hs104
           ·skip
            have hp180 := ite_t hp174 rfl
            refine sx_run 3 (todo' := [.inRegion (opsOf (cd31 [1, 1, 1, 0, 0, 0, 1, 0, 1, 1, 1, 1, 1, 1, 0])) [1, 2, 3, 4], .inBlock 1, .inLoop (cd31 [1, 1, 1, 0, 0, 0]), .inBlock 0, .code (cd31 [1, 1, 1, 1])]) (us := [(62, .slice A49 t48.length c50)]) (by kernel_rfl) ?_
            refine r_load (c := (cd31 [1, 1, 1, 0, 0, 0, 1, 0, 1, 1, 1, 1, 1, 1, 0])) (i := 1) (d := (some 63)) (ty := 24) (t := 24) (x := (.tmp 10)) (p := ⟨b79, 0, none⟩) (v := .agg (enc_api_Final t105).toArray) (by kernel_rfl) (by kernel_rfl) (by kernel_rfl) (loads_agg (hS176.blk 1 rfl) (by kernel_rfl) (lenK (len_api_Final _) (by kernel_rfl))) ?_
            refine r_lit (c := (cd31 [1, 1, 1, 0, 0, 0, 1, 0, 1, 1, 1, 1, 1, 1, 0])) (i := 2) (d := (some 64)) (ty := 28) (t := 28) (e := 24) (sz := 49) (n := 1) (parts := #[(0, (.tmp 63))]) (vs := [(0, .agg (enc_api_Final t105).toArray)]) (z := zeroOf Tryd.prog 24) (cs' := ([t105] : List api_Final).flatMap enc_api_Final) hS176 (by kernel_rfl) (by kernel_rfl) (by kernel_rfl) (by kernel_rfl) (by kernel_rfl) (by decide) (by decide) (by kernel_rfl) rfl (Parts.cons (c := enc_api_Final t105) (by kernel_rfl) (len_api_Final _) Parts.nil) rfl ?_
            intro b182 w183 hS184
            have hS185 := hS184.pick1
            obtain ⟨g186, hp187⟩ := ite_some hp180
            refine r_append (c := (cd31 [1, 1, 1, 0, 0, 0, 1, 0, 1, 1, 1, 1, 1, 1, 0])) (i := 3) (d := (some 65)) (ty := 28) (enc := enc_api_Final) (e := 24) (u := 24) (t := 28) (t2 := 28) (sz := 49) (cp := c50) (A := A49) (bytes := 392) (xs := t48) (ys := ([t105] : List api_Final)) (s := (.tmp 62)) (x := (.tmp 64)) (xv := .slice (some ⟨b182, 0, none⟩) ([t105] : List api_Final).length 1) (info := infoOf Tryd.prog 24) (z := zeroOf Tryd.prog 24) (ycs := ([t105] : List api_Final).flatMap enc_api_Final) hS185 (by kernel_rfl) (by kernel_rfl) (by kernel_rfl) (by kernel_rfl) (by kernel_rfl) (.inl (by kernel_rfl)) (by kernel_rfl) (by kernel_rfl) (by kernel_rfl) (by kernel_rfl) (by kernel_rfl) (by omega) len_api_Final one_api_Final (src_row (hS185.row 1 rfl) (by omega) len_api_Final) rfl g186 (by omega) ?_
            intro A188 c189 w190 hS191
            refine sx_run 3 (todo' := [.inLoop (cd31 [1, 1, 1, 0, 0, 0]), .inBlock 0, .code (cd31 [1, 1, 1, 1])]) (us := [(8, .slice A188 (t48 ++ ([t105] : List api_Final)).length c189)]) (by kernel_rfl) ?_
            have hS193 := hS191.pick1
            have hS194 := hS193.drop
            have hS195 := hS194.pick1
            have hS196 := hS195.drop
            refine sx_run 1 (todo' := [.code (cd31 [1, 1, 1, 0, 0, 0]), .inLoop (cd31 [1, 1, 1, 0, 0, 0]), .inBlock 0, .code (cd31 [1, 1, 1, 1])]) (us := []) (by kernel_rfl) ?_
            refine Runs.fill (m := [some (.slice A87 t86.length c88), some (.slice A101 t100.length c102), some (.func (.func 34) #[] #[]), none, none, none, none, none, some (.slice A188 (t48 ++ ([t105] : List api_Final)).length c189), none, none, none, none, none, none, none, none, none, none, none, none, none, none, none, none, none, none, none, none, none, none, none, none, none, none, none, none, none, none, none, none, none, none, none, none, none, none, none, none, none, none, none, none, none, none, none, none, none, none, none, none, none, none, none, none, none, none]) (by kernel_rfl) ?_
            exact ih58 t86 t100 (t48 ++ ([t105] : List api_Final)) _ hp187 he56 _ A87 c88 A101 c102 A188 c189 _ hS196 hs90 hs104
          ·skip
           have hp197 := ite_f hp168 h170
           obtain ⟨t198, hr199, hp200⟩ := bind_some' hp197
           refine r_call1 (c := (cd31 [1, 1, 1, 0, 0, 0, 1, 0, 1, 1, 1, 1, 1, 0])) (i := 5) (d := (some 61)) (g := 34) (args := #[.bool false, .bool false]) (by kernel_rfl) (by kernel_rfl) (by kernel_rfl) (by kernel_rfl) (state_Minus_1.ok false false hS107 hr199) ?_
           rintro _ w201 ⟨rfl, hS202⟩
           refine ⟨.bool t198, rfl, ?_⟩
           refine sx_run 1 (todo' := [.code (cd31 [1, 1, 1, 0, 0, 0, 1, 0, 1, 1, 1, 1, 1, 1]), .inBlock 1, .inLoop (cd31 [1, 1, 1, 0, 0, 0]), .inBlock 0, .code (cd31 [1, 1, 1, 1])]) (us := []) (by kernel_rfl) ?_
           cases t198
           ·skip
            have hp203 := ite_f hp200 rfl
            refine sx_run 3 (todo' := [.inLoop (cd31 [1, 1, 1, 0, 0, 0]), .inBlock 0, .code (cd31 [1, 1, 1, 1])]) (us := []) (by kernel_rfl) ?_
            have hS204 := hS202.pick1
            have hS205 := hS204.drop
            refine sx_run 1 (todo' := [.code (cd31 [1, 1, 1, 0, 0, 0]), .inLoop (cd31 [1, 1, 1, 0, 0, 0]), .inBlock 0, .code (cd31 [1, 1, 1, 1])]) (us := []) (by kernel_rfl) ?_
            refine Runs.fill (m := [some (.slice A87 t86.length c88), some (.slice A101 t100.length c102), some (.func (.func 34) #[] #[]), none, none, none, none, none, some (.slice A49 t48.length c50), none, none, none, none, none, none, none, none, none, none, none, none, none, none, none, none, none, none, none, none, none, none, none, none, none, none, none, none, none, none, none, none, none, none, none, none, none, none, none, none, none, none, none, none, none, none, none, none, none, none, none, none, none, none, none, none, none, none]) (by kernel_rfl) ?_
            exact ih58 t86 t100 t48 _ hp203 he56 _ A87 c88 A101 c102 A49 c50 _ hS205 hs90 hs104
           ·skip
            have hp206 := ite_t hp200 rfl
            refine sx_run 3 (todo' := [.inRegion (opsOf (cd31 [1, 1, 1, 0, 0, 0, 1, 0, 1, 1, 1, 1, 1, 1, 0])) [1, 2, 3, 4], .inBlock 1, .inLoop (cd31 [1, 1, 1, 0, 0, 0]), .inBlock 0, .code (cd31 [1, 1, 1, 1])]) (us := [(62, .slice A49 t48.length c50)]) (by kernel_rfl) ?_
            refine r_load (c := (cd31 [1, 1, 1, 0, 0, 0, 1, 0, 1, 1, 1, 1, 1, 1, 0])) (i := 1) (d := (some 63)) (ty := 24) (t := 24) (x := (.tmp 10)) (p := ⟨b79, 0, none⟩) (v := .agg (enc_api_Final t105).toArray) (by kernel_rfl) (by kernel_rfl) (by kernel_rfl) (loads_agg (hS202.blk 1 rfl) (by kernel_rfl) (lenK (len_api_Final _) (by kernel_rfl))) ?_
            refine r_lit (c := (cd31 [1, 1, 1, 0, 0, 0, 1, 0, 1, 1, 1, 1, 1, 1, 0])) (i := 2) (d := (some 64)) (ty := 28) (t := 28) (e := 24) (sz := 49) (n := 1) (parts := #[(0, (.tmp 63))]) (vs := [(0, .agg (enc_api_Final t105).toArray)]) (z := zeroOf Tryd.prog 24) (cs' := ([t105] : List api_Final).flatMap enc_api_Final) hS202 (by kernel_rfl) (by kernel_rfl) (by kernel_rfl) (by kernel_rfl) (by kernel_rfl) (by decide) (by decide) (by kernel_rfl) rfl (Parts.cons (c := enc_api_Final t105) (by kernel_rfl) (len_api_Final _) Parts.nil) rfl ?_
            intro b208 w209 hS210
            have hS211 := hS210.pick1
            obtain ⟨g212, hp213⟩ := ite_some hp206
            refine r_append (c := (cd31 [1, 1, 1, 0, 0, 0, 1, 0, 1, 1, 1, 1, 1, 1, 0])) (i := 3) (d := (some 65)) (ty := 28) (enc := enc_api_Final) (e := 24) (u := 24) (t := 28) (t2 := 28) (sz := 49) (cp := c50) (A := A49) (bytes := 392) (xs := t48) (ys := ([t105] : List api_Final)) (s := (.tmp 62)) (x := (.tmp 64)) (xv := .slice (some ⟨b208, 0, none⟩) ([t105] : List api_Final).length 1) (info := infoOf Tryd.prog 24) (z := zeroOf Tryd.prog 24) (ycs := ([t105] : List api_Final).flatMap enc_api_Final) hS211 (by kernel_rfl) (by kernel_rfl) (by kernel_rfl) (by kernel_rfl) (by kernel_rfl) (.inl (by kernel_rfl)) (by kernel_rfl) (by kernel_rfl) (by kernel_rfl) (by kernel_rfl) (by kernel_rfl) (by omega) len_api_Final one_api_Final (src_row (hS211.row 1 rfl) (by omega) len_api_Final) rfl g212 (by omega) ?_
            intro A214 c215 w216 hS217
            refine sx_run 3 (todo' := [.inLoop (cd31 [1, 1, 1, 0, 0, 0]), .inBlock 0, .code (cd31 [1, 1, 1, 1])]) (us := [(8, .slice A214 (t48 ++ ([t105] : List api_Final)).length c215)]) (by kernel_rfl) ?_
            have hS219 := hS217.pick1
            have hS220 := hS219.drop
            have hS221 := hS220.pick1
            have hS222 := hS221.drop
            refine sx_run 1 (todo' := [.code (cd31 [1, 1, 1, 0, 0, 0]), .inLoop (cd31 [1, 1, 1, 0, 0, 0]), .inBlock 0, .code (cd31 [1, 1, 1, 1])]) (us := []) (by kernel_rfl) ?_
            refine Runs.fill (m := [some (.slice A87 t86.length c88), some (.slice A101 t100.length c102), some (.func (.func 34) #[] #[]), none, none, none, none, none, some (.slice A214 (t48 ++ ([t105] : List api_Final)).length c215), none, none, none, none, none, none, none, none, none, none, none, none, none, none, none, none, none, none, none, none, none, none, none, none, none, none, none, none, none, none, none, none, none, none, none, none, none, none, none, none, none, none, none, none, none, none, none, none, none, none, none, none, none, none, none, none, none, none]) (by kernel_rfl) ?_
            exact ih58 t86 t100 (t48 ++ ([t105] : List api_Final)) _ hp213 he56 _ A87 c88 A101 c102 A214 c215 _ hS222 hs90 hs104
        refine sx_split 5 (todo' := [.inRegion (opsOf (cd31 [1, 1, 1, 0, 0, 0, 1, 0, 1, 1, 1, 1, 0, 0])) [], .code (cd31 [1, 1, 1, 0, 0, 0, 1, 0, 1, 1, 1, 1, 0, 1]), .code (cd31 [1, 1, 1, 0, 0, 0, 1, 0, 1, 1, 1, 1, 1]), .inBlock 1, .inLoop (cd31 [1, 1, 1, 0, 0, 0]), .inBlock 0, .code (cd31 [1, 1, 1, 1])]) (us := [(49, .int .i64 t73)]) (d := 50) (t := (decide (t73 ≥ 0))) (by kernel_rfl) (fun h223 => ?_) (fun h224 => ?_)
        ·skip
         have hp225 := ite_t hv98 h223
         refine sx_run 2 (todo' := [.code (cd31 [1, 1, 1, 0, 0, 0, 1, 0, 1, 1, 1, 1, 0, 1, 0]), .code (cd31 [1, 1, 1, 0, 0, 0, 1, 0, 1, 1, 1, 1, 1]), .inBlock 1, .inLoop (cd31 [1, 1, 1, 0, 0, 0]), .inBlock 0, .code (cd31 [1, 1, 1, 1])]) (us := []) (by kernel_rfl) ?_
         obtain ⟨g226, hp227⟩ := ite_some hp225
         obtain ⟨b228, p229, hA230, hc231⟩ := hs47.atF g226.1 g226.2
         obtain ⟨g232, hp233⟩ := ite_some hp227
         obtain ⟨A236, c237, hr234, hs235⟩ := cutSlZ hs47 ((1 : Int).toNat) (t43.length) (by omega) (by omega)
         have hS239 := hS93.pick1
         refine r_drawnF (X := Unit) (c := (cd31 [1, 1, 1, 0, 0, 0, 1, 0, 1, 1, 1, 1, 0, 1, 0])) (id := 14) (C0 := fun w' => St w0 Z (xblk b79 24 (enc_api_Final t91) :: xrow A49 c50 24 49 (t48.flatMap enc_api_Final) :: fs) w') (C1 := fun _ w' => St w0 Z (xblk b79 24 (enc_api_Final (gt t43 (0 : Int))) :: xrow A49 c50 24 49 (t48.flatMap enc_api_Final) :: fs) w') (vs := [.slice A44 t43.length c45, .pointer (some ⟨b228, p229 + (0 : Int).toNat * 49, none⟩), .agg (enc_api_Final (gt t43 (0 : Int))).toArray, .slice A44 t43.length c45, .slice A236 ((t43.take t43.length).drop ((1 : Int).toNat)).length c237, undef, undef]) (vx := fun _ => [.slice A44 t43.length c45, .pointer (some ⟨b228, p229 + (0 : Int).toNat * 49, none⟩), .agg (enc_api_Final (gt t43 (0 : Int))).toArray, .slice A44 t43.length c45, .slice A236 ((t43.take t43.length).drop ((1 : Int).toNat)).length c237, undef, .slice A236 ((t43.take t43.length).drop ((1 : Int).toNat)).length c237]) 5 7 [5, 6] [6] (by kernel_rfl) (by kernel_rfl) (by kernel_rfl) (by decide) (by kernel_rfl) (by kernel_rfl) (by kernel_rfl) rfl ?_ (fun _ => ⟨rfl, rfl⟩) hS239.drew ?_ ?_ ?_ ?_ ?_
         ·intro _u i hi hd
          match i, hi, hd with
          | 0, _, _ => exact rfl
          | 1, _, _ => exact rfl
          | 2, _, _ => exact rfl
          | 3, _, _ => exact rfl
          | 4, _, _ => exact rfl
          | 5, _, hd => exact absurd hd (by decide)
          | 6, _, hd => exact absurd hd (by decide)
          | i + 7, hi, _ => exact absurd hi (by omega)
         ·intro i hi hd w hC
          match i, hi, hd with
          | 0, _, _ => exact does_pure (v := .slice A44 t43.length c45) (by kernel_rfl) rfl hC
          | 1, _, _ => exact does_run (x_indexAddr (t := 28) (e := 24) (x := (.tmp 51)) (y := (.const (.int .i64 0))) (b := b228) (o' := p229) (n := t43.length) (cp := c45) (sz := 49) (kk := .i64) (j := (0 : Int)) (slv (by kernel_rfl) hA230) (by kernel_rfl) (by kernel_rfl) (by kernel_rfl) g226.1 g226.2 (by kernel_rfl)) rfl hC
          | 2, _, _ => exact does_run (x_load (t := 24) (x := (.tmp 52)) (p := ⟨b228, p229 + (0 : Int).toNat * 49, none⟩) (v := .agg (enc_api_Final (gt t43 (0 : Int))).toArray) (by kernel_rfl) (loads_agg (hc231.cells hC) (by kernel_rfl) (lenK (len_api_Final _) (by kernel_rfl))) (by kernel_rfl)) rfl hC
          | 3, _, _ => exact does_pure (v := .slice A44 t43.length c45) (by kernel_rfl) rfl hC
          | 4, _, _ => exact does_run (x_cutSl_sn (t := 28) (x := (.tmp 54)) (lo := (.const (.int .i64 1))) (e := 24) (sz := 49) (A := A44) (n := t43.length) (c := c45) (k := .i64) (by kernel_rfl) (by kernel_rfl) (by kernel_rfl) (by kernel_rfl) g232 hr234 (by kernel_rfl)) rfl hC
          | 5, _, hd => exact absurd hd (by decide)
          | 6, _, hd => exact absurd hd (by decide)
          | i + 7, hi, _ => exact absurd hi (by omega)
         ·intro i hi hd _u w hC
          match i, hi, hd with
          | 0, _, _ => exact does_pure (v := .slice A44 t43.length c45) (by kernel_rfl) rfl hC
          | 1, _, _ => exact does_run (x_indexAddr (t := 28) (e := 24) (x := (.tmp 51)) (y := (.const (.int .i64 0))) (b := b228) (o' := p229) (n := t43.length) (cp := c45) (sz := 49) (kk := .i64) (j := (0 : Int)) (slv (by kernel_rfl) hA230) (by kernel_rfl) (by kernel_rfl) (by kernel_rfl) g226.1 g226.2 (by kernel_rfl)) rfl hC
          | 2, _, _ => exact does_run (x_load (t := 24) (x := (.tmp 52)) (p := ⟨b228, p229 + (0 : Int).toNat * 49, none⟩) (v := .agg (enc_api_Final (gt t43 (0 : Int))).toArray) (by kernel_rfl) (loads_agg (hc231.cells hC) (by kernel_rfl) (lenK (len_api_Final _) (by kernel_rfl))) (by kernel_rfl)) rfl hC
          | 3, _, _ => exact does_pure (v := .slice A44 t43.length c45) (by kernel_rfl) rfl hC
          | 4, _, _ => exact does_run (x_cutSl_sn (t := 28) (x := (.tmp 54)) (lo := (.const (.int .i64 1))) (e := 24) (sz := 49) (A := A44) (n := t43.length) (c := c45) (k := .i64) (by kernel_rfl) (by kernel_rfl) (by kernel_rfl) (by kernel_rfl) g232 hr234 (by kernel_rfl)) rfl hC
          | 5, _, hd => exact absurd hd (by decide)
          | 6, _, hd => exact absurd hd (by decide)
          | i + 7, hi, _ => exact absurd hi (by omega)
         ·intro w hC
          exact does_store (ux := ()) (t := 24) (x := (.tmp 10)) (y := (.tmp 53)) (b := b79) (o := 0) (e := 24) (cs := enc_api_Final t91) (v := .agg (enc_api_Final (gt t43 (0 : Int))).toArray) (vs := enc_api_Final (gt t43 (0 : Int))) (cs' := enc_api_Final (gt t43 (0 : Int))) hC (by kernel_rfl) (by kernel_rfl) (by kernel_rfl) (by kernel_rfl) (by kernel_rfl) (lenK (len_api_Final _) (by kernel_rfl)) (one_api_Final _) (by simp only [len_api_Final, List.length_cons, List.length_nil, List.length_append]; omega) (over_all ((len_api_Final _).trans (len_api_Final _).symm)) (fun _ h => h)
         ·intro i hi hd hne _u w hC
          match i, hi, hd, hne with
          | 0, _, hd, _ => exact absurd hd (by decide)
          | 1, _, hd, _ => exact absurd hd (by decide)
          | 2, _, hd, _ => exact absurd hd (by decide)
          | 3, _, hd, _ => exact absurd hd (by decide)
          | 4, _, hd, _ => exact absurd hd (by decide)
          | 5, _, _, hne => exact absurd rfl hne
          | 6, _, _, _ => exact does_pure (v := .slice A236 ((t43.take t43.length).drop ((1 : Int).toNat)).length c237) (by kernel_rfl) rfl hC
          | i + 7, hi, _, _ => exact absurd hi (by omega)
         intro _u w240 hS241
         have hS242 := hS241.pick1
         refine Runs.fill (m := [some (.slice A87 t86.length c88), some (.slice A236 ((t43.take t43.length).drop ((1 : Int).toNat)).length c237), some (.func (.func 34) #[] #[]), none, none, none, none, none, some (.slice A49 t48.length c50), some (.int .i64 t73), some (.pointer (some ⟨b79, 0, none⟩)), none, none, none, none, none, none, none, none, none, none, none, none, none, none, none, none, none, none, none, none, none, none, none, none, none, none, none, none, none, none, none, none, none, none, none, none, none, none, none, none, none, none, none, none, none, none, none, none, none, none, none, none, none, none, none, none]) (by kernel_rfl) ?_
         exact J108 ((t43.take t43.length).drop ((1 : Int).toNat)) (gt t43 (0 : Int)) (Option.some.inj hp233) _ A236 c237 _ hS242 hs235
        ·skip
         have hp243 := ite_f hv98 h224
         refine sx_run 3 (todo' := [.code (cd31 [1, 1, 1, 0, 0, 0, 1, 0, 1, 1, 1, 1, 1]), .inBlock 1, .inLoop (cd31 [1, 1, 1, 0, 0, 0]), .inBlock 0, .code (cd31 [1, 1, 1, 1])]) (us := []) (by kernel_rfl) ?_
         refine Runs.fill (m := [some (.slice A87 t86.length c88), some (.slice A44 t43.length c45), some (.func (.func 34) #[] #[]), none, none, none, none, none, some (.slice A49 t48.length c50), some (.int .i64 t73), some (.pointer (some ⟨b79, 0, none⟩)), none, none, none, none, none, none, none, none, none, none, none, none, none, none, none, none, none, none, none, none, none, none, none, none, none, none, none, none, none, none, none, none, none, none, none, none, none, none, none, none, none, none, none, none, none, none, none, none, none, none, none, none, none, none, none, none]) (by kernel_rfl) ?_
         exact J108 t43 t91 (Option.some.inj hp243) _ A44 c45 _ hS93 hs47
       refine sx_split 6 (todo' := [.inRegion (opsOf (cd31 [1, 1, 1, 0, 0, 0, 1, 0, 1, 1, 1, 0, 0])) [], .code (cd31 [1, 1, 1, 0, 0, 0, 1, 0, 1, 1, 1, 0, 1]), .code (cd31 [1, 1, 1, 0, 0, 0, 1, 0, 1, 1, 1, 1]), .inBlock 1, .inLoop (cd31 [1, 1, 1, 0, 0, 0]), .inBlock 0, .code (cd31 [1, 1, 1, 1])]) (us := [(42, .int .i64 t73)]) (d := 43) (t := (decide (t73 ≤ 0))) (by kernel_rfl) (fun h244 => ?_) (fun h245 => ?_)
       ·skip
        have hp246 := ite_t hv84 h244
        refine sx_run 2 (todo' := [.code (cd31 [1, 1, 1, 0, 0, 0, 1, 0, 1, 1, 1, 0, 1, 0]), .code (cd31 [1, 1, 1, 0, 0, 0, 1, 0, 1, 1, 1, 1]), .inBlock 1, .inLoop (cd31 [1, 1, 1, 0, 0, 0]), .inBlock 0, .code (cd31 [1, 1, 1, 1])]) (us := []) (by kernel_rfl) ?_
        obtain ⟨g247, hp248⟩ := ite_some hp246
        obtain ⟨b249, p250, hA251, hc252⟩ := hs42.atF g247.1 g247.2
        obtain ⟨g253, hp254⟩ := ite_some hp248
        obtain ⟨A257, c258, hr255, hs256⟩ := cutSlZ hs42 ((1 : Int).toNat) (t38.length) (by omega) (by omega)
        refine r_drawnF (X := Unit) (c := (cd31 [1, 1, 1, 0, 0, 0, 1, 0, 1, 1, 1, 0, 1, 0])) (id := 12) (C0 := fun w' => St w0 Z (xblk b79 24 (enc_api_Final (⟨0, (Vector.replicate 48 0)⟩ : api_Final)) :: xrow A49 c50 24 49 (t48.flatMap enc_api_Final) :: fs) w') (C1 := fun _ w' => St w0 Z (xblk b79 24 (enc_api_Final (gt t38 (0 : Int))) :: xrow A49 c50 24 49 (t48.flatMap enc_api_Final) :: fs) w') (vs := [.slice A39 t38.length c40, .pointer (some ⟨b249, p250 + (0 : Int).toNat * 49, none⟩), .agg (enc_api_Final (gt t38 (0 : Int))).toArray, .slice A39 t38.length c40, .slice A257 ((t38.take t38.length).drop ((1 : Int).toNat)).length c258, undef, undef]) (vx := fun _ => [.slice A39 t38.length c40, .pointer (some ⟨b249, p250 + (0 : Int).toNat * 49, none⟩), .agg (enc_api_Final (gt t38 (0 : Int))).toArray, .slice A39 t38.length c40, .slice A257 ((t38.take t38.length).drop ((1 : Int).toNat)).length c258, undef, .slice A257 ((t38.take t38.length).drop ((1 : Int).toNat)).length c258]) 5 7 [5, 6] [6] (by kernel_rfl) (by kernel_rfl) (by kernel_rfl) (by decide) (by kernel_rfl) (by kernel_rfl) (by kernel_rfl) rfl ?_ (fun _ => ⟨rfl, rfl⟩) hS81.drew ?_ ?_ ?_ ?_ ?_
        ·intro _u i hi hd
         match i, hi, hd with
         | 0, _, _ => exact rfl
         | 1, _, _ => exact rfl
         | 2, _, _ => exact rfl
         | 3, _, _ => exact rfl
         | 4, _, _ => exact rfl
         | 5, _, hd => exact absurd hd (by decide)
         | 6, _, hd => exact absurd hd (by decide)
         | i + 7, hi, _ => exact absurd hi (by omega)
        ·intro i hi hd w hC
         match i, hi, hd with
         | 0, _, _ => exact does_pure (v := .slice A39 t38.length c40) (by kernel_rfl) rfl hC
         | 1, _, _ => exact does_run (x_indexAddr (t := 28) (e := 24) (x := (.tmp 44)) (y := (.const (.int .i64 0))) (b := b249) (o' := p250) (n := t38.length) (cp := c40) (sz := 49) (kk := .i64) (j := (0 : Int)) (slv (by kernel_rfl) hA251) (by kernel_rfl) (by kernel_rfl) (by kernel_rfl) g247.1 g247.2 (by kernel_rfl)) rfl hC
         | 2, _, _ => exact does_run (x_load (t := 24) (x := (.tmp 45)) (p := ⟨b249, p250 + (0 : Int).toNat * 49, none⟩) (v := .agg (enc_api_Final (gt t38 (0 : Int))).toArray) (by kernel_rfl) (loads_agg (hc252.cells hC) (by kernel_rfl) (lenK (len_api_Final _) (by kernel_rfl))) (by kernel_rfl)) rfl hC
         | 3, _, _ => exact does_pure (v := .slice A39 t38.length c40) (by kernel_rfl) rfl hC
         | 4, _, _ => exact does_run (x_cutSl_sn (t := 28) (x := (.tmp 47)) (lo := (.const (.int .i64 1))) (e := 24) (sz := 49) (A := A39) (n := t38.length) (c := c40) (k := .i64) (by kernel_rfl) (by kernel_rfl) (by kernel_rfl) (by kernel_rfl) g253 hr255 (by kernel_rfl)) rfl hC
         | 5, _, hd => exact absurd hd (by decide)
         | 6, _, hd => exact absurd hd (by decide)
         | i + 7, hi, _ => exact absurd hi (by omega)
        ·intro i hi hd _u w hC
         match i, hi, hd with
         | 0, _, _ => exact does_pure (v := .slice A39 t38.length c40) (by kernel_rfl) rfl hC
         | 1, _, _ => exact does_run (x_indexAddr (t := 28) (e := 24) (x := (.tmp 44)) (y := (.const (.int .i64 0))) (b := b249) (o' := p250) (n := t38.length) (cp := c40) (sz := 49) (kk := .i64) (j := (0 : Int)) (slv (by kernel_rfl) hA251) (by kernel_rfl) (by kernel_rfl) (by kernel_rfl) g247.1 g247.2 (by kernel_rfl)) rfl hC
         | 2, _, _ => exact does_run (x_load (t := 24) (x := (.tmp 45)) (p := ⟨b249, p250 + (0 : Int).toNat * 49, none⟩) (v := .agg (enc_api_Final (gt t38 (0 : Int))).toArray) (by kernel_rfl) (loads_agg (hc252.cells hC) (by kernel_rfl) (lenK (len_api_Final _) (by kernel_rfl))) (by kernel_rfl)) rfl hC
         | 3, _, _ => exact does_pure (v := .slice A39 t38.length c40) (by kernel_rfl) rfl hC
         | 4, _, _ => exact does_run (x_cutSl_sn (t := 28) (x := (.tmp 47)) (lo := (.const (.int .i64 1))) (e := 24) (sz := 49) (A := A39) (n := t38.length) (c := c40) (k := .i64) (by kernel_rfl) (by kernel_rfl) (by kernel_rfl) (by kernel_rfl) g253 hr255 (by kernel_rfl)) rfl hC
         | 5, _, hd => exact absurd hd (by decide)
         | 6, _, hd => exact absurd hd (by decide)
         | i + 7, hi, _ => exact absurd hi (by omega)
        ·intro w hC
         exact does_store (ux := ()) (t := 24) (x := (.tmp 10)) (y := (.tmp 46)) (b := b79) (o := 0) (e := 24) (cs := enc_api_Final (⟨0, (Vector.replicate 48 0)⟩ : api_Final)) (v := .agg (enc_api_Final (gt t38 (0 : Int))).toArray) (vs := enc_api_Final (gt t38 (0 : Int))) (cs' := enc_api_Final (gt t38 (0 : Int))) hC (by kernel_rfl) (by kernel_rfl) (by kernel_rfl) (by kernel_rfl) (by kernel_rfl) (lenK (len_api_Final _) (by kernel_rfl)) (one_api_Final _) (by simp only [len_api_Final, List.length_cons, List.length_nil, List.length_append]; omega) (over_all ((len_api_Final _).trans (len_api_Final _).symm)) (fun _ h => h)
        ·intro i hi hd hne _u w hC
         match i, hi, hd, hne with
         | 0, _, hd, _ => exact absurd hd (by decide)
         | 1, _, hd, _ => exact absurd hd (by decide)
         | 2, _, hd, _ => exact absurd hd (by decide)
         | 3, _, hd, _ => exact absurd hd (by decide)
         | 4, _, hd, _ => exact absurd hd (by decide)
         | 5, _, _, hne => exact absurd rfl hne
         | 6, _, _, _ => exact does_pure (v := .slice A257 ((t38.take t38.length).drop ((1 : Int).toNat)).length c258) (by kernel_rfl) rfl hC
         | i + 7, hi, _, _ => exact absurd hi (by omega)
        intro _u w260 hS261
        have hS262 := hS261.pick1
        refine Runs.fill (m := [some (.slice A257 ((t38.take t38.length).drop ((1 : Int).toNat)).length c258), some (.slice A44 t43.length c45), some (.func (.func 34) #[] #[]), none, none, none, none, none, some (.slice A49 t48.length c50), some (.int .i64 t73), some (.pointer (some ⟨b79, 0, none⟩)), none, none, none, none, none, none, none, none, none, none, none, none, none, none, none, none, none, none, none, none, none, none, none, none, none, none, none, none, none, none, none, none, none, none, none, none, none, none, none, none, none, none, none, none, none, none, none, none, none, none, none, none, none, none, none, none]) (by kernel_rfl) ?_
        exact J94 ((t38.take t38.length).drop ((1 : Int).toNat)) (gt t38 (0 : Int)) (Option.some.inj hp254) _ A257 c258 _ hS262 hs256
       ·skip
        have hp263 := ite_f hv84 h245
        refine sx_run 3 (todo' := [.code (cd31 [1, 1, 1, 0, 0, 0, 1, 0, 1, 1, 1, 1]), .inBlock 1, .inLoop (cd31 [1, 1, 1, 0, 0, 0]), .inBlock 0, .code (cd31 [1, 1, 1, 1])]) (us := []) (by kernel_rfl) ?_
        have hS264 := hS81.pick1
        refine Runs.fill (m := [some (.slice A39 t38.length c40), some (.slice A44 t43.length c45), some (.func (.func 34) #[] #[]), none, none, none, none, none, some (.slice A49 t48.length c50), some (.int .i64 t73), some (.pointer (some ⟨b79, 0, none⟩)), none, none, none, none, none, none, none, none, none, none, none, none, none, none, none, none, none, none, none, none, none, none, none, none, none, none, none, none, none, none, none, none, none, none, none, none, none, none, none, none, none, none, none, none, none, none, none, none, none, none, none, none, none, none, none, none]) (by kernel_rfl) ?_
        exact J94 t38 (⟨0, (Vector.replicate 48 0)⟩ : api_Final) (Option.some.inj hp263) _ A39 c40 _ hS264 hs42
      refine sx_split 12 (todo' := [.inRegion (opsOf (cd31 [1, 1, 1, 0, 0, 0, 1, 0, 1, 0, 0, 0])) [3], .code (cd31 [1, 1, 1, 0, 0, 0, 1, 0, 1, 0, 0, 1]), .inBlock 2, .code (cd31 [1, 1, 1, 0, 0, 0, 1, 0, 1, 1]), .inBlock 1, .inLoop (cd31 [1, 1, 1, 0, 0, 0]), .inBlock 0, .code (cd31 [1, 1, 1, 1])]) (us := [(9, .int .i64 (-1)), (28, .slice A39 t38.length c40), (29, .int .i64 (t38.length : Int))]) (d := 30) (t := ((t38.length : Int) == 0)) (by kernel_rfl) (fun h265 => ?_) (fun h266 => ?_)
      ·skip
       have hp267 := ite_t hv71 h265
       refine sx_run 7 (todo' := [.code (cd31 [1, 1, 1, 0, 0, 0, 1, 0, 1, 1]), .inBlock 1, .inLoop (cd31 [1, 1, 1, 0, 0, 0]), .inBlock 0, .code (cd31 [1, 1, 1, 1])]) (us := [(27, .bool true), (9, .int .i64 1)]) (by kernel_rfl) ?_
       refine Runs.fill (m := [some (.slice A39 t38.length c40), some (.slice A44 t43.length c45), some (.func (.func 34) #[] #[]), none, none, none, none, none, some (.slice A49 t48.length c50), some (.int .i64 1), none, none, none, none, none, none, none, none, none, none, none, none, none, none, none, none, none, none, none, none, none, none, none, none, none, none, none, none, none, none, none, none, none, none, none, none, none, none, none, none, none, none, none, none, none, none, none, none, none, none, none, none, none, none, none, none, none]) (by kernel_rfl) ?_
       exact J76 1 (Option.some.inj hp267) _ _ hS65
      ·skip
       have hp268 := ite_f hv71 h266
       refine sx_split 8 (todo' := [.inRegion (opsOf (cd31 [1, 1, 1, 0, 0, 0, 1, 0, 1, 0, 0, 1, 1, 0])) [3], .code (cd31 [1, 1, 1, 0, 0, 0, 1, 0, 1, 0, 0, 1, 1, 1]), .inBlock 2, .code (cd31 [1, 1, 1, 0, 0, 0, 1, 0, 1, 1]), .inBlock 1, .inLoop (cd31 [1, 1, 1, 0, 0, 0]), .inBlock 0, .code (cd31 [1, 1, 1, 1])]) (us := [(27, .bool false), (32, .slice A44 t43.length c45), (33, .int .i64 (t43.length : Int))]) (d := 34) (t := (decide ((t43.length : Int) > 0))) (by kernel_rfl) (fun h269 => ?_) (fun h270 => ?_)
       ·skip
        have hp271 := ite_t hp268 h269
        refine sx_run 3 (todo' := [.code (cd31 [1, 1, 1, 0, 0, 0, 1, 0, 1, 0, 0, 1, 1, 1, 0]), .inBlock 2, .code (cd31 [1, 1, 1, 0, 0, 0, 1, 0, 1, 1]), .inBlock 1, .inLoop (cd31 [1, 1, 1, 0, 0, 0]), .inBlock 0, .code (cd31 [1, 1, 1, 1])]) (us := [(31, .bool true)]) (by kernel_rfl) ?_
        refine r_quiet hS65 (c := (cd31 [1, 1, 1, 0, 0, 0, 1, 0, 1, 0, 0, 1, 1, 1, 0])) (id := 9) (by kernel_rfl) (by kernel_rfl) (by kernel_rfl) (is := [0, 1, 2, 3, 4, 5, 6, 7]) (by kernel_rfl) ?_
        refine q_run 1 (is' := [1, 2, 3, 4, 5, 6, 7]) (us := [(35, .slice A39 t38.length c40)]) (by kernel_rfl) ?_
        obtain ⟨g272, hp273⟩ := ite_some hp271
        obtain ⟨b274, p275, hA276, hc277⟩ := hs42.atF g272.1 g272.2
        refine q_indexAddr (c := (cd31 [1, 1, 1, 0, 0, 0, 1, 0, 1, 0, 0, 1, 1, 1, 0])) (i := 1) (d := (some 36)) (ty := 0) (t := 28) (e := 24) (n := t38.length) (cp := c40) (sz := 49) (kk := .i64) (x := (.tmp 35)) (y := (.const (.int .i64 0))) (b := b274) (o' := p275) (j := (0 : Int)) (by kernel_rfl) (by kernel_rfl) (slv (by kernel_rfl) hA276) (by kernel_rfl) (by kernel_rfl) (by kernel_rfl) g272.1 g272.2 ?_
        refine q_load (c := (cd31 [1, 1, 1, 0, 0, 0, 1, 0, 1, 0, 0, 1, 1, 1, 0])) (i := 2) (d := (some 37)) (ty := 24) (t := 24) (x := (.tmp 36)) (p := ⟨b274, p275 + (0 : Int).toNat * 49, none⟩) (v := .agg (enc_api_Final (gt t38 (0 : Int))).toArray) (by kernel_rfl) (by kernel_rfl) (by kernel_rfl) (fun w hC => (loads_agg (hc277.cells hC) (by kernel_rfl) (lenK (len_api_Final _) (by kernel_rfl)))) ?_
        refine q_run 1 (is' := [4, 5, 6, 7]) (us := [(38, .slice A44 t43.length c45)]) (by kernel_rfl) ?_
        obtain ⟨g278, hp279⟩ := ite_some hp273
        obtain ⟨b280, p281, hA282, hc283⟩ := hs47.atF g278.1 g278.2
        refine q_indexAddr (c := (cd31 [1, 1, 1, 0, 0, 0, 1, 0, 1, 0, 0, 1, 1, 1, 0])) (i := 4) (d := (some 39)) (ty := 0) (t := 28) (e := 24) (n := t43.length) (cp := c45) (sz := 49) (kk := .i64) (x := (.tmp 38)) (y := (.const (.int .i64 0))) (b := b280) (o' := p281) (j := (0 : Int)) (by kernel_rfl) (by kernel_rfl) (slv (by kernel_rfl) hA282) (by kernel_rfl) (by kernel_rfl) (by kernel_rfl) g278.1 g278.2 ?_
        refine q_load (c := (cd31 [1, 1, 1, 0, 0, 0, 1, 0, 1, 0, 0, 1, 1, 1, 0])) (i := 5) (d := (some 40)) (ty := 24) (t := 24) (x := (.tmp 39)) (p := ⟨b280, p281 + (0 : Int).toNat * 49, none⟩) (v := .agg (enc_api_Final (gt t43 (0 : Int))).toArray) (by kernel_rfl) (by kernel_rfl) (by kernel_rfl) (fun w hC => (loads_agg (hc283.cells hC) (by kernel_rfl) (lenK (len_api_Final _) (by kernel_rfl)))) ?_
        obtain ⟨t284, hr285, hp286⟩ := bind_some' hp279
        refine q_call1 (c := (cd31 [1, 1, 1, 0, 0, 0, 1, 0, 1, 0, 0, 1, 1, 1, 0])) (i := 6) (d := (some 41)) (v := .int .i64 t284) (g := 8) (args := #[.agg (enc_api_Final (gt t38 (0 : Int))).toArray, .agg (enc_api_Final (gt t43 (0 : Int))).toArray]) (by kernel_rfl) (by kernel_rfl) (by kernel_rfl) (by kernel_rfl) (fun w hC => by
         refine (state_Compare.ok (gt t38 (0 : Int)) (gt t43 (0 : Int)) hC hr285).mono ?_
         rintro e w2 ⟨rfl, h2⟩
         exact ⟨rfl, h2⟩) ?_
        refine q_run 1 (is' := []) (us := [(9, .int .i64 t284)]) (by kernel_rfl) ?_
        refine Qs.nil ?_
        intro w287 hS288
        refine sx_run 1 (todo' := [.code (cd31 [1, 1, 1, 0, 0, 0, 1, 0, 1, 1]), .inBlock 1, .inLoop (cd31 [1, 1, 1, 0, 0, 0]), .inBlock 0, .code (cd31 [1, 1, 1, 1])]) (us := []) (by kernel_rfl) ?_
        refine Runs.fill (m := [some (.slice A39 t38.length c40), some (.slice A44 t43.length c45), some (.func (.func 34) #[] #[]), none, none, none, none, none, some (.slice A49 t48.length c50), some (.int .i64 t284), none, none, none, none, none, none, none, none, none, none, none, none, none, none, none, none, none, none, none, none, none, none, none, none, none, none, none, none, none, none, none, none, none, none, none, none, none, none, none, none, none, none, none, none, none, none, none, none, none, none, none, none, none, none, none, none, none]) (by kernel_rfl) ?_
        exact J76 t284 (Option.some.inj hp286) _ _ hS288
       ·skip
        have hp289 := ite_f hp268 h270
        refine sx_run 5 (todo' := [.code (cd31 [1, 1, 1, 0, 0, 0, 1, 0, 1, 1]), .inBlock 1, .inLoop (cd31 [1, 1, 1, 0, 0, 0]), .inBlock 0, .code (cd31 [1, 1, 1, 1])]) (us := [(31, .bool false)]) (by kernel_rfl) ?_
        refine Runs.fill (m := [some (.slice A39 t38.length c40), some (.slice A44 t43.length c45), some (.func (.func 34) #[] #[]), none, none, none, none, none, some (.slice A49 t48.length c50), some (.int .i64 (-1)), none, none, none, none, none, none, none, none, none, none, none, none, none, none, none, none, none, none, none, none, none, none, none, none, none, none, none, none, none, none, none, none, none, none, none, none, none, none, none, none, none, none, none, none, none, none, none, none, none, none, none, none, none, none, none, none, none]) (by kernel_rfl) ?_
        exact J76 (-1) (Option.some.inj hp289) _ _ hS65
     refine sx_split 6 (todo' := [.inRegion (opsOf (cd31 [1, 1, 1, 0, 0, 0, 0, 0])) [3, 4, 5, 6, 7], .code (cd31 [1, 1, 1, 0, 0, 0, 0, 1]), .code (cd31 [1, 1, 1, 0, 0, 0, 1]), .inLoop (cd31 [1, 1, 1, 0, 0, 0]), .inBlock 0, .code (cd31 [1, 1, 1, 1])]) (us := [(19, .slice A39 t38.length c40), (20, .int .i64 (t38.length : Int))]) (d := 21) (t := (decide ((t38.length : Int) > 0))) (by kernel_rfl) (fun h290 => ?_) (fun h291 => ?_)
     ·skip
      have hp292 := ite_t hv62 h290
      refine sx_run 8 (todo' := [.code (cd31 [1, 1, 1, 0, 0, 0, 1]), .inLoop (cd31 [1, 1, 1, 0, 0, 0]), .inBlock 0, .code (cd31 [1, 1, 1, 1])]) (us := [(22, .bool true), (23, undef), (24, undef), (25, undef), (26, .bool true)]) (by kernel_rfl) ?_
      refine Runs.fill (m := [some (.slice A39 t38.length c40), some (.slice A44 t43.length c45), some (.func (.func 34) #[] #[]), none, none, none, none, none, some (.slice A49 t48.length c50), none, none, none, none, none, none, none, none, none, none, none, none, none, none, none, none, none, none, none, none, none, none, none, none, none, none, none, none, none, none, none, none, none, none, none, none, none, none, none, none, none, none, none, none, none, none, none, none, none, none, none, none, none, none, none, none, none, none]) (by kernel_rfl) ?_
      exact J67 (Option.some.inj hp292) _ _ hS53
     ·skip
      have hp293 := ite_f hv62 h291
      refine sx_split 4 (todo' := [.inRegion (opsOf (cd31 [1, 1, 1, 0, 0, 0, 0, 0])) [7], .code (cd31 [1, 1, 1, 0, 0, 0, 0, 1]), .code (cd31 [1, 1, 1, 0, 0, 0, 1]), .inLoop (cd31 [1, 1, 1, 0, 0, 0]), .inBlock 0, .code (cd31 [1, 1, 1, 1])]) (us := [(22, .bool false), (23, .slice A44 t43.length c45), (24, .int .i64 (t43.length : Int))]) (d := 25) (t := (decide ((t43.length : Int) > 0))) (by kernel_rfl) (fun h294 => ?_) (fun h295 => ?_)
      ·skip
       have hp296 := ite_t hp293 h294
       refine sx_run 4 (todo' := [.code (cd31 [1, 1, 1, 0, 0, 0, 1]), .inLoop (cd31 [1, 1, 1, 0, 0, 0]), .inBlock 0, .code (cd31 [1, 1, 1, 1])]) (us := [(26, .bool true)]) (by kernel_rfl) ?_
       refine Runs.fill (m := [some (.slice A39 t38.length c40), some (.slice A44 t43.length c45), some (.func (.func 34) #[] #[]), none, none, none, none, none, some (.slice A49 t48.length c50), none, none, none, none, none, none, none, none, none, none, none, none, none, none, none, none, none, none, none, none, none, none, none, none, none, none, none, none, none, none, none, none, none, none, none, none, none, none, none, none, none, none, none, none, none, none, none, none, none, none, none, none, none, none, none, none, none, none]) (by kernel_rfl) ?_
       exact J67 (Option.some.inj hp296) _ _ hS53
      ·skip
       have hp297 := ite_f hp293 h295
       refine sx_run 4 (todo' := [.code (cd31 [1, 1, 1, 1])]) (us := [(26, .bool false)]) (by kernel_rfl) ?_
       refine Runs.fill (m := [none, none, none, none, none, none, none, none, some (.slice A49 t48.length c50), none, none, none, none, none, none, none, none, none, none, none, none, none, none, none, none, none, none, none, none, none, none, none, none, none, none, none, none, none, none, none, none, none, none, none, none, none, none, none, none, none, none, none, none, none, none, none, none, none, none, none, none, none, none, none, none, none, none]) (by kernel_rfl) ?_
       exact J34 t48 ((hq66 _ (Option.some.inj hp297)).trans he56) _ A49 c50 _ hS53
    have hS299 := hS17.nilrow none 24 49
    refine Runs.fill (m := [some (.slice Aa0 a0.length ca0), some (.slice Aa1 a1.length ca1), some (.func (.func 34) #[] #[]), none, none, none, none, none, some (.slice none 0 0), none, none, none, none, none, none, none, none, none, none, none, none, none, none, none, none, none, none, none, none, none, none, none, none, none, none, none, none, none, none, none, none, none, none, none, none, none, none, none, none, none, none, none, none, none, none, none, none, none, none, none, none, none, none, none, none, none, none]) (by kernel_rfl) ?_
    exact L60 a0 a1 [] _ hv26 rfl _ Aa0 ca0 Aa1 ca1 none 0 _ hS299 ha0 ha1

noncomputable def cd19 (p : List Nat) : Code := sub (bodyOf Tryd.f19) p
def state_Minus.f (a0 : List api_Final) (a1 : List api_Final) : Option ((List api_Final) × Int) :=
  (state_walk_2.f a0 a1 >>= (fun (t1, t2) => some ((t1, t2))))
set_option maxHeartbeats 16000000 in
theorem state_Minus.ok (a0 : List api_Final) (a1 : List api_Final) (Aa0 : Option Addr) (ca0 : Nat) (Aa1 : Option Addr) (ca1 : Nat) {w0 : World} {Z : Zm} {fs : List XObj} {w : World} (hS0 : St w0 Z (fs) w) (ha0 : SlZ (flat enc_api_Final) 49 Z Aa0 ca0 a0) (ha1 : SlZ (flat enc_api_Final) 49 Z Aa1 ca1 a1) {q0 : List api_Final} {q1 : Int} (hp0 : state_Minus.f a0 a1 = some (q0, q1)) :
    Calls Tryd.prog 19 #[.slice Aa0 a0.length ca0, .slice Aa1 a1.length ca1] w (fun e w' => ∃ (QA0 : Option Addr) (Qc0 : Nat), e = .returned (.tuple #[.slice QA0 q0.length Qc0, .int .i64 q1]) ∧ St w0 Z (xrow QA0 Qc0 24 49 (q0.flatMap enc_api_Final) :: fs) w') := by
  refine calls_abs ?_; intro R hR
  unfold state_Minus.f at hp0
  refine calls_of_runs (fn := Tryd.f19) (c := cd19 []) Tryd.func19 (by kernel_rfl) (al := [.slice Aa0 a0.length ca0, .slice Aa1 a1.length ca1]) rfl (n := 9) rfl ?_
  refine sx_run 9 (todo' := [.inRegion (opsOf (cd19 [1, 0])) [2, 3, 4, 5, 6], .code (cd19 [1, 1])]) (us := [(4, .slice none 0 0), (5, .int .i64 0), (6, .slice Aa0 a0.length ca0), (7, .slice Aa1 a1.length ca1)]) (by kernel_rfl) ?_
  obtain ⟨⟨t1, t2⟩, hr5, hp6⟩ := bind_some' hp0
  try dsimp only at hp6
  refine r_call1 (c := (cd19 [1, 0])) (i := 2) (d := (some 8)) (g := 31) (args := #[.slice Aa0 a0.length ca0, .slice Aa1 a1.length ca1, .func (.func 34) #[] #[]]) (by kernel_rfl) (by kernel_rfl) (by kernel_rfl) (by kernel_rfl) (state_walk_2.ok a0 a1 Aa0 ca0 Aa1 ca1 hS0 ha0 ha1 hr5) ?_
  rintro _ w8 ⟨Q3, Q4, rfl, hS9⟩
  refine ⟨.tuple #[.slice Q3 t1.length Q4, .int .i64 t2], rfl, ?_⟩
  refine sx_run 5 (todo' := [.code (cd19 [1, 1])]) (us := [(9, .slice Q3 t1.length Q4), (10, .int .i64 t2), (4, .slice Q3 t1.length Q4), (5, .int .i64 t2)]) (by kernel_rfl) ?_
  refine runs_ret (fn := Tryd.f19) (v := .tuple #[.slice Q3 t1.length Q4, .int .i64 t2]) Tryd.func19 (by kernel_rfl) ?_
  have hr10 := (Option.some.inj hp6)
  cases hr10
  exact hR _ _ ⟨Q3, Q4, rfl, hS9⟩

noncomputable def cd12 (p : List Nat) : Code := sub (bodyOf Tryd.f12) p
def weirlaw10_Same.l0 (a0 : List api_Final) (a1 : List api_Final) (t16 : Int) : Option (Sum Unit Bool) :=
  (if (decide (t16 < (a0.length : Int))) = true then (if 0 ≤ t16 ∧ t16 < (a0.length : Int) then (if 0 ≤ t16 ∧ t16 < (a1.length : Int) then (if (!(decide ((gt a0 t16) = (gt a1 t16)))) = true then some (.inr (false)) else (weirlaw10_Same.l0 a0 a1 (IntKind.i64.wrap (t16 + 1)))) else none) else none) else some (.inl ()))
 partial_fixpoint
def weirlaw10_Same.f (a0 : List api_Final) (a1 : List api_Final) : Option Bool :=
  (if ((a0.length : Int) != (a1.length : Int)) = true then some (false) else (weirlaw10_Same.l0 a0 a1 0 >>= (fun | .inl () => some (true) | .inr e => some e)))
set_option maxHeartbeats 16000000 in
theorem weirlaw10_Same.ok (a0 : List api_Final) (a1 : List api_Final) (Aa0 : Option Addr) (ca0 : Nat) (Aa1 : Option Addr) (ca1 : Nat) {w0 : World} {Z : Zm} {fs : List XObj} {w : World} (hS0 : St w0 Z (fs) w) (ha0 : SlZ (flat enc_api_Final) 49 Z Aa0 ca0 a0) (ha1 : SlZ (flat enc_api_Final) 49 Z Aa1 ca1 a1) {q0 : Bool} (hp0 : weirlaw10_Same.f a0 a1 = some q0) :
    Calls Tryd.prog 12 #[.slice Aa0 a0.length ca0, .slice Aa1 a1.length ca1] w (fun e w' => e = .returned (.bool q0) ∧ St w0 Z (fs) w') := by
  refine calls_abs ?_; intro R hR
  unfold weirlaw10_Same.f at hp0
  refine calls_of_runs (fn := Tryd.f12) (c := cd12 []) Tryd.func12 (by kernel_rfl) (al := [.slice Aa0 a0.length ca0, .slice Aa1 a1.length ca1]) rfl (n := 24) rfl ?_
  refine sx_split 12 (todo' := [.inRegion (opsOf (cd12 [1, 0, 0])) [], .code (cd12 [1, 0, 1]), .code (cd12 [1, 1])]) (us := [(4, .bool false), (6, .slice Aa0 a0.length ca0), (7, .int .i64 (a0.length : Int)), (8, .slice Aa1 a1.length ca1), (9, .int .i64 (a1.length : Int))]) (d := 10) (t := ((a0.length : Int) != (a1.length : Int))) (by kernel_rfl) (fun h1 => ?_) (fun h2 => ?_)
  ·skip
   have hp3 := ite_t hp0 h1
   refine sx_run 6 (todo' := [.code (cd12 [1, 0, 1, 0, 1]), .code (cd12 [1, 1])]) (us := [(4, .bool false)]) (by kernel_rfl) ?_
   refine runs_ret (fn := Tryd.f12) (v := .bool false) Tryd.func12 (by kernel_rfl) ?_
   have hr4 := (Option.some.inj hp3)
   cases hr4
   exact hR _ _ ⟨rfl, hS0⟩
  ·skip
   have hp5 := ite_f hp0 h2
   refine sx_run 10 (todo' := [.code (cd12 [1, 1, 0, 1, 0, 0]), .inLoop (cd12 [1, 1, 0, 1, 0, 0]), .inBlock 0, .code (cd12 [1, 1, 1])]) (us := [(5, .int .i64 0)]) (by kernel_rfl) ?_
   obtain ⟨v6, hv7, hp8⟩ := bind_some' hp5
   have hq11 : ∀ x, Sum.inr x = v6 → x = q0 := by intro x hx; subst hx; simpa using hp8
   have J12 : ∀ (he14 : Sum.inl () = v6) (l13 : List Value) (w9 : World) (hS10 : St w0 Z (fs) w9), Runs Tryd.prog 12 [.code (cd12 [1, 1, 1])] (fill [none, none, none, none, none, none, none, none, none, none, none, none, none, none, none, none, none, none, none, none, none, none, none, none, none, none] l13) w9 R := by
    intro he14 l13 w9 hS10
    subst he14
    try dsimp only at hp8
    refine sx_run 4 (todo' := [.code (cd12 [1, 1, 1, 1])]) (us := [(4, .bool true)]) (by kernel_rfl) ?_
    refine runs_ret (fn := Tryd.f12) (v := .bool true) Tryd.func12 (by kernel_rfl) ?_
    have hr15 := (Option.some.inj hp8)
    cases hr15
    exact hR _ _ ⟨rfl, hS10⟩
   have L25 : ∀ (t16 : Int) (e20 : Sum Unit Bool), weirlaw10_Same.l0 a0 a1 t16 = some e20 → e20 = v6 → ∀ (l19 : List Value) (w17 : World) (hS18 : St w0 Z (fs) w17), Runs Tryd.prog 12 [.code (cd12 [1, 1, 0, 1, 0, 0]), .inLoop (cd12 [1, 1, 0, 1, 0, 0]), .inBlock 0, .code (cd12 [1, 1, 1])] (fill [some (.slice Aa0 a0.length ca0), some (.slice Aa1 a1.length ca1), none, none, none, some (.int .i64 t16), none, none, none, none, none, none, none, none, none, none, none, none, none, none, none, none, none, none, none, none] l19) w17 R := by
    refine weirlaw10_Same.l0.partial_correctness a0 a1 (fun t16 e20 => e20 = v6 → ∀ (l19 : List Value) (w17 : World) (hS18 : St w0 Z (fs) w17), Runs Tryd.prog 12 [.code (cd12 [1, 1, 0, 1, 0, 0]), .inLoop (cd12 [1, 1, 0, 1, 0, 0]), .inBlock 0, .code (cd12 [1, 1, 1])] (fill [some (.slice Aa0 a0.length ca0), some (.slice Aa1 a1.length ca1), none, none, none, some (.int .i64 t16), none, none, none, none, none, none, none, none, none, none, none, none, none, none, none, none, none, none, none, none] l19) w17 R) ?_
    intro rec24 ih23 t16 e20 hb22 he21 l19 w17 hS18
    have hq26 : ∀ x, Sum.inr x = e20 → x = q0 := fun x hx => hq11 x (hx.trans he21)
    refine sx_split 7 (todo' := [.inRegion (opsOf (cd12 [1, 1, 0, 1, 0, 0, 0, 0])) [], .code (cd12 [1, 1, 0, 1, 0, 0, 0, 1]), .code (cd12 [1, 1, 0, 1, 0, 0, 1]), .inLoop (cd12 [1, 1, 0, 1, 0, 0]), .inBlock 0, .code (cd12 [1, 1, 1])]) (us := [(11, .int .i64 t16), (12, .slice Aa0 a0.length ca0), (13, .int .i64 (a0.length : Int))]) (d := 14) (t := (decide (t16 < (a0.length : Int)))) (by kernel_rfl) (fun h27 => ?_) (fun h28 => ?_)
    ·skip
     have hp29 := ite_t hb22 h27
     refine sx_run 6 (todo' := [.code (cd12 [1, 1, 0, 1, 0, 0, 1, 0, 0, 0]), .code (cd12 [1, 1, 0, 1, 0, 0, 1, 0, 0, 1]), .inBlock 1, .code (cd12 [1, 1, 0, 1, 0, 0, 1, 1]), .inLoop (cd12 [1, 1, 0, 1, 0, 0]), .inBlock 0, .code (cd12 [1, 1, 1])]) (us := []) (by kernel_rfl) ?_
     refine r_quiet hS18 (c := (cd12 [1, 1, 0, 1, 0, 0, 1, 0, 0, 0])) (id := 6) (by kernel_rfl) (by kernel_rfl) (by kernel_rfl) (is := [0, 1, 2, 3, 4, 5, 6, 7, 8]) (by kernel_rfl) ?_
     refine q_run 2 (is' := [2, 3, 4, 5, 6, 7, 8]) (us := [(17, .slice Aa0 a0.length ca0), (18, .int .i64 t16)]) (by kernel_rfl) ?_
     obtain ⟨g30, hp31⟩ := ite_some hp29
     obtain ⟨b32, p33, hA34, hc35⟩ := ha0.atF g30.1 g30.2
     refine q_indexAddr (c := (cd12 [1, 1, 0, 1, 0, 0, 1, 0, 0, 0])) (i := 2) (d := (some 19)) (ty := 0) (t := 28) (e := 24) (n := a0.length) (cp := ca0) (sz := 49) (kk := .i64) (x := (.tmp 17)) (y := (.tmp 18)) (b := b32) (o' := p33) (j := t16) (by kernel_rfl) (by kernel_rfl) (slv (by kernel_rfl) hA34) (by kernel_rfl) (by kernel_rfl) (by kernel_rfl) g30.1 g30.2 ?_
     refine q_load (c := (cd12 [1, 1, 0, 1, 0, 0, 1, 0, 0, 0])) (i := 3) (d := (some 20)) (ty := 24) (t := 24) (x := (.tmp 19)) (p := ⟨b32, p33 + t16.toNat * 49, none⟩) (v := .agg (enc_api_Final (gt a0 t16)).toArray) (by kernel_rfl) (by kernel_rfl) (by kernel_rfl) (fun w hC => (loads_agg (hc35.cells hC) (by kernel_rfl) (lenK (len_api_Final _) (by kernel_rfl)))) ?_
     refine q_run 2 (is' := [6, 7, 8]) (us := [(21, .slice Aa1 a1.length ca1), (22, .int .i64 t16)]) (by kernel_rfl) ?_
     obtain ⟨g36, hp37⟩ := ite_some hp31
     obtain ⟨b38, p39, hA40, hc41⟩ := ha1.atF g36.1 g36.2
     refine q_indexAddr (c := (cd12 [1, 1, 0, 1, 0, 0, 1, 0, 0, 0])) (i := 6) (d := (some 23)) (ty := 0) (t := 28) (e := 24) (n := a1.length) (cp := ca1) (sz := 49) (kk := .i64) (x := (.tmp 21)) (y := (.tmp 22)) (b := b38) (o' := p39) (j := t16) (by kernel_rfl) (by kernel_rfl) (slv (by kernel_rfl) hA40) (by kernel_rfl) (by kernel_rfl) (by kernel_rfl) g36.1 g36.2 ?_
     refine q_load (c := (cd12 [1, 1, 0, 1, 0, 0, 1, 0, 0, 0])) (i := 7) (d := (some 24)) (ty := 24) (t := 24) (x := (.tmp 23)) (p := ⟨b38, p39 + t16.toNat * 49, none⟩) (v := .agg (enc_api_Final (gt a1 t16)).toArray) (by kernel_rfl) (by kernel_rfl) (by kernel_rfl) (fun w hC => (loads_agg (hc41.cells hC) (by kernel_rfl) (lenK (len_api_Final _) (by kernel_rfl)))) ?_
     refine q_val (c := (cd12 [1, 1, 0, 1, 0, 0, 1, 0, 0, 0])) (i := 8) (d := (some 25)) (ty := 4) (op := .binOp .neq 24 (.tmp 20) (.tmp 24) 24) (v := .bool (!(decide ((gt a0 t16) = (gt a1 t16))))) (by kernel_rfl) (by kernel_rfl) (fun w hC o ho _ => x_neq_api_Final (by kernel_rfl) (by kernel_rfl) ho) ?_
     refine q_split (!(decide ((gt a0 t16) = (gt a1 t16)))) (fun h42 => ?_) (fun h43 => ?_)
     ·skip
      have hp44 := ite_t hp37 h42
      refine Qs.nil ?_
      intro w45 hS46
      refine sx_run 5 (todo' := [.code (cd12 [1, 1, 0, 1, 0, 0, 1, 0, 0, 1, 0, 1]), .inBlock 1, .code (cd12 [1, 1, 0, 1, 0, 0, 1, 1]), .inLoop (cd12 [1, 1, 0, 1, 0, 0]), .inBlock 0, .code (cd12 [1, 1, 1])]) (us := [(4, .bool false)]) (by kernel_rfl) ?_
      refine runs_ret (fn := Tryd.f12) (v := .bool false) Tryd.func12 (by kernel_rfl) ?_
      have hr47 := (hq26 _ (Option.some.inj hp44))
      cases hr47
      exact hR _ _ ⟨rfl, hS46⟩
     ·skip
      have hp48 := ite_f hp37 h43
      refine Qs.nil ?_
      intro w49 hS50
      refine sx_run 8 (todo' := [.inLoop (cd12 [1, 1, 0, 1, 0, 0]), .inBlock 0, .code (cd12 [1, 1, 1])]) (us := [(15, .int .i64 t16), (16, .int .i64 (IntKind.i64.wrap (t16 + 1))), (5, .int .i64 (IntKind.i64.wrap (t16 + 1)))]) (by kernel_rfl) ?_
      refine sx_run 1 (todo' := [.code (cd12 [1, 1, 0, 1, 0, 0]), .inLoop (cd12 [1, 1, 0, 1, 0, 0]), .inBlock 0, .code (cd12 [1, 1, 1])]) (us := []) (by kernel_rfl) ?_
      refine Runs.fill (m := [some (.slice Aa0 a0.length ca0), some (.slice Aa1 a1.length ca1), none, none, none, some (.int .i64 (IntKind.i64.wrap (t16 + 1))), none, none, none, none, none, none, none, none, none, none, none, none, none, none, none, none, none, none, none, none]) (by kernel_rfl) ?_
      exact ih23 (IntKind.i64.wrap (t16 + 1)) _ hp48 he21 _ _ hS50
    ·skip
     have hp51 := ite_f hb22 h28
     refine sx_run 3 (todo' := [.code (cd12 [1, 1, 1])]) (us := []) (by kernel_rfl) ?_
     refine Runs.fill (m := [none, none, none, none, none, none, none, none, none, none, none, none, none, none, none, none, none, none, none, none, none, none, none, none, none, none]) (by kernel_rfl) ?_
     exact J12 ((Option.some.inj hp51).trans he21) _ _ hS18
   refine Runs.fill (m := [some (.slice Aa0 a0.length ca0), some (.slice Aa1 a1.length ca1), none, none, none, some (.int .i64 0), none, none, none, none, none, none, none, none, none, none, none, none, none, none, none, none, none, none, none, none]) (by kernel_rfl) ?_
   exact L25 0 _ hv7 rfl _ _ hS0

noncomputable def cd20 (p : List Nat) : Code := sub (bodyOf Tryd.f20) p
def weirlaw10_in.l0 (a0 : List api_Final) (a1 : api_Final) (t15 : Int) : Option (Sum Unit Bool) :=
  (if (decide (t15 < (a0.length : Int))) = true then (if 0 ≤ t15 ∧ t15 < (a0.length : Int) then (if (decide ((gt a0 t15) = a1)) = true then some (.inr (true)) else (weirlaw10_in.l0 a0 a1 (IntKind.i64.wrap (t15 + 1)))) else none) else some (.inl ()))
 partial_fixpoint
def weirlaw10_in.f (a0 : List api_Final) (a1 : api_Final) : Option Bool :=
  (weirlaw10_in.l0 a0 a1 0 >>= (fun | .inl () => some (false) | .inr e => some e))
set_option maxHeartbeats 16000000 in
theorem weirlaw10_in.ok (a0 : List api_Final) (a1 : api_Final) (Aa0 : Option Addr) (ca0 : Nat) {w0 : World} {Z : Zm} {fs : List XObj} {w : World} (hS0 : St w0 Z (fs) w) (ha0 : SlZ (flat enc_api_Final) 49 Z Aa0 ca0 a0) {q0 : Bool} (hp0 : weirlaw10_in.f a0 a1 = some q0) :
    Calls Tryd.prog 20 #[.slice Aa0 a0.length ca0, .agg (enc_api_Final a1).toArray] w (fun e w' => e = .returned (.bool q0) ∧ St w0 Z (fs) w') := by
  refine calls_abs ?_; intro R hR
  unfold weirlaw10_in.f at hp0
  refine calls_of_runs (fn := Tryd.f20) (c := cd20 []) Tryd.func20 (by kernel_rfl) (al := [.slice Aa0 a0.length ca0, .agg (enc_api_Final a1).toArray]) rfl (n := 16) rfl ?_
  refine sx_run 2 (todo' := [.inRegion (opsOf (cd20 [0])) [0, 1], .code (cd20 [1])]) (us := []) (by kernel_rfl) ?_
  refine r_box (c := (cd20 [0])) (i := 0) (d := (some 3)) (ty := 0) (x := (.tmp 1)) (v := .agg (enc_api_Final a1).toArray) (t := 24) (cs := enc_api_Final a1) hS0 (by kernel_rfl) (by kernel_rfl) (by kernel_rfl) (by kernel_rfl) ?_
  intro b1 w2 hS3
  refine sx_run 9 (todo' := [.code (cd20 [1, 0, 1, 0, 0]), .inLoop (cd20 [1, 0, 1, 0, 0]), .inBlock 0, .code (cd20 [1, 1])]) (us := [(4, .bool false), (5, .int .i64 0)]) (by kernel_rfl) ?_
  obtain ⟨v5, hv6, hp7⟩ := bind_some' hp0
  have hq10 : ∀ x, Sum.inr x = v5 → x = q0 := by intro x hx; subst hx; simpa using hp7
  have J11 : ∀ (he13 : Sum.inl () = v5) (l12 : List Value) (w8 : World) (hS9 : St w0 Z (fs) w8), Runs Tryd.prog 20 [.code (cd20 [1, 1])] (fill [none, none, none, none, none, none, none, none, none, none, none, none, none, none, none, none, none, none] l12) w8 R := by
   intro he13 l12 w8 hS9
   subst he13
   try dsimp only at hp7
   refine sx_run 4 (todo' := [.code (cd20 [1, 1, 1])]) (us := [(4, .bool false)]) (by kernel_rfl) ?_
   refine runs_ret (fn := Tryd.f20) (v := .bool false) Tryd.func20 (by kernel_rfl) ?_
   have hr14 := (Option.some.inj hp7)
   cases hr14
   exact hR _ _ ⟨rfl, hS9⟩
  have L24 : ∀ (t15 : Int) (e19 : Sum Unit Bool), weirlaw10_in.l0 a0 a1 t15 = some e19 → e19 = v5 → ∀ (l18 : List Value) (w16 : World) (hS17 : St w0 Z (xblk b1 24 (enc_api_Final a1) :: fs) w16), Runs Tryd.prog 20 [.code (cd20 [1, 0, 1, 0, 0]), .inLoop (cd20 [1, 0, 1, 0, 0]), .inBlock 0, .code (cd20 [1, 1])] (fill [some (.slice Aa0 a0.length ca0), none, none, some (.pointer (some ⟨b1, 0, none⟩)), none, some (.int .i64 t15), none, none, none, none, none, none, none, none, none, none, none, none] l18) w16 R := by
   refine weirlaw10_in.l0.partial_correctness a0 a1 (fun t15 e19 => e19 = v5 → ∀ (l18 : List Value) (w16 : World) (hS17 : St w0 Z (xblk b1 24 (enc_api_Final a1) :: fs) w16), Runs Tryd.prog 20 [.code (cd20 [1, 0, 1, 0, 0]), .inLoop (cd20 [1, 0, 1, 0, 0]), .inBlock 0, .code (cd20 [1, 1])] (fill [some (.slice Aa0 a0.length ca0), none, none, some (.pointer (some ⟨b1, 0, none⟩)), none, some (.int .i64 t15), none, none, none, none, none, none, none, none, none, none, none, none] l18) w16 R) ?_
   intro rec23 ih22 t15 e19 hb21 he20 l18 w16 hS17
   have hq25 : ∀ x, Sum.inr x = e19 → x = q0 := fun x hx => hq10 x (hx.trans he20)
   refine sx_split 7 (todo' := [.inRegion (opsOf (cd20 [1, 0, 1, 0, 0, 0, 0])) [], .code (cd20 [1, 0, 1, 0, 0, 0, 1]), .code (cd20 [1, 0, 1, 0, 0, 1]), .inLoop (cd20 [1, 0, 1, 0, 0]), .inBlock 0, .code (cd20 [1, 1])]) (us := [(6, .int .i64 t15), (7, .slice Aa0 a0.length ca0), (8, .int .i64 (a0.length : Int))]) (d := 9) (t := (decide (t15 < (a0.length : Int)))) (by kernel_rfl) (fun h26 => ?_) (fun h27 => ?_)
   ·skip
    have hp28 := ite_t hb21 h26
    refine sx_run 6 (todo' := [.code (cd20 [1, 0, 1, 0, 0, 1, 0, 0, 0]), .code (cd20 [1, 0, 1, 0, 0, 1, 0, 0, 1]), .inBlock 1, .code (cd20 [1, 0, 1, 0, 0, 1, 1]), .inLoop (cd20 [1, 0, 1, 0, 0]), .inBlock 0, .code (cd20 [1, 1])]) (us := []) (by kernel_rfl) ?_
    refine r_quiet hS17 (c := (cd20 [1, 0, 1, 0, 0, 1, 0, 0, 0])) (id := 4) (by kernel_rfl) (by kernel_rfl) (by kernel_rfl) (is := [0, 1, 2, 3, 4, 5]) (by kernel_rfl) ?_
    refine q_run 2 (is' := [2, 3, 4, 5]) (us := [(12, .slice Aa0 a0.length ca0), (13, .int .i64 t15)]) (by kernel_rfl) ?_
    obtain ⟨g29, hp30⟩ := ite_some hp28
    obtain ⟨b31, p32, hA33, hc34⟩ := ha0.atF g29.1 g29.2
    refine q_indexAddr (c := (cd20 [1, 0, 1, 0, 0, 1, 0, 0, 0])) (i := 2) (d := (some 14)) (ty := 0) (t := 28) (e := 24) (n := a0.length) (cp := ca0) (sz := 49) (kk := .i64) (x := (.tmp 12)) (y := (.tmp 13)) (b := b31) (o' := p32) (j := t15) (by kernel_rfl) (by kernel_rfl) (slv (by kernel_rfl) hA33) (by kernel_rfl) (by kernel_rfl) (by kernel_rfl) g29.1 g29.2 ?_
    refine q_load (c := (cd20 [1, 0, 1, 0, 0, 1, 0, 0, 0])) (i := 3) (d := (some 15)) (ty := 24) (t := 24) (x := (.tmp 14)) (p := ⟨b31, p32 + t15.toNat * 49, none⟩) (v := .agg (enc_api_Final (gt a0 t15)).toArray) (by kernel_rfl) (by kernel_rfl) (by kernel_rfl) (fun w hC => (loads_agg (hc34.cells hC) (by kernel_rfl) (lenK (len_api_Final _) (by kernel_rfl)))) ?_
    refine q_load (c := (cd20 [1, 0, 1, 0, 0, 1, 0, 0, 0])) (i := 4) (d := (some 16)) (ty := 24) (t := 24) (x := (.tmp 3)) (p := ⟨b1, 0, none⟩) (v := .agg (enc_api_Final a1).toArray) (by kernel_rfl) (by kernel_rfl) (by kernel_rfl) (fun w hC => (loads_agg (hC.blk 0 rfl) (by kernel_rfl) (lenK (len_api_Final _) (by kernel_rfl)))) ?_
    refine q_val (c := (cd20 [1, 0, 1, 0, 0, 1, 0, 0, 0])) (i := 5) (d := (some 17)) (ty := 4) (op := .binOp .eql 24 (.tmp 15) (.tmp 16) 24) (v := .bool (decide ((gt a0 t15) = a1))) (by kernel_rfl) (by kernel_rfl) (fun w hC o ho _ => x_eql_api_Final (by kernel_rfl) (by kernel_rfl) ho) ?_
    refine q_split (decide ((gt a0 t15) = a1)) (fun h35 => ?_) (fun h36 => ?_)
    ·skip
     have hp37 := ite_t hp30 h35
     refine Qs.nil ?_
     intro w38 hS39
     refine sx_run 5 (todo' := [.code (cd20 [1, 0, 1, 0, 0, 1, 0, 0, 1, 0, 1]), .inBlock 1, .code (cd20 [1, 0, 1, 0, 0, 1, 1]), .inLoop (cd20 [1, 0, 1, 0, 0]), .inBlock 0, .code (cd20 [1, 1])]) (us := [(4, .bool true)]) (by kernel_rfl) ?_
     have hS40 := hS39.drop
     refine runs_ret (fn := Tryd.f20) (v := .bool true) Tryd.func20 (by kernel_rfl) ?_
     have hr41 := (hq25 _ (Option.some.inj hp37))
     cases hr41
     exact hR _ _ ⟨rfl, hS40⟩
    ·skip
     have hp42 := ite_f hp30 h36
     refine Qs.nil ?_
     intro w43 hS44
     refine sx_run 8 (todo' := [.inLoop (cd20 [1, 0, 1, 0, 0]), .inBlock 0, .code (cd20 [1, 1])]) (us := [(10, .int .i64 t15), (11, .int .i64 (IntKind.i64.wrap (t15 + 1))), (5, .int .i64 (IntKind.i64.wrap (t15 + 1)))]) (by kernel_rfl) ?_
     refine sx_run 1 (todo' := [.code (cd20 [1, 0, 1, 0, 0]), .inLoop (cd20 [1, 0, 1, 0, 0]), .inBlock 0, .code (cd20 [1, 1])]) (us := []) (by kernel_rfl) ?_
     refine Runs.fill (m := [some (.slice Aa0 a0.length ca0), none, none, some (.pointer (some ⟨b1, 0, none⟩)), none, some (.int .i64 (IntKind.i64.wrap (t15 + 1))), none, none, none, none, none, none, none, none, none, none, none, none]) (by kernel_rfl) ?_
     exact ih22 (IntKind.i64.wrap (t15 + 1)) _ hp42 he20 _ _ hS44
   ·skip
    have hp45 := ite_f hb21 h27
    refine sx_run 3 (todo' := [.code (cd20 [1, 1])]) (us := []) (by kernel_rfl) ?_
    have hS46 := hS17.drop
    refine Runs.fill (m := [none, none, none, none, none, none, none, none, none, none, none, none, none, none, none, none, none, none]) (by kernel_rfl) ?_
    exact J11 ((Option.some.inj hp45).trans he20) _ _ hS46
  refine Runs.fill (m := [some (.slice Aa0 a0.length ca0), none, none, some (.pointer (some ⟨b1, 0, none⟩)), none, some (.int .i64 0), none, none, none, none, none, none, none, none, none, none, none, none]) (by kernel_rfl) ?_
  exact L24 0 _ hv6 rfl _ _ hS3

noncomputable def cd36 (p : List Nat) : Code := sub (bodyOf Tryd.f36) p
def state_Find_1.f (a0 : Int) (a1v : List api_Final) (a2v : api_Final) : Option Bool :=
  (if 0 ≤ a0 ∧ a0 < (a1v.length : Int) then (state_Compare.f (gt a1v a0) a2v >>= (fun t7 => (if (decide (t7 ≥ 0)) = true then some (true) else some (false)))) else none)
set_option maxHeartbeats 16000000 in
theorem state_Find_1.ok (a0 : Int) (a1v : List api_Final) (a2v : api_Final) (ba1 : Nat) (Aa1v : Option Addr) (ca1v : Nat) (ba2 : Nat) {w0 : World} {Z : Zm} {fs : List XObj} {w : World} (hS0 : St w0 Z (xblk ba1 28 ([.slice Aa1v a1v.length ca1v]) :: xblk ba2 24 (enc_api_Final a2v) :: fs) w) (ha1v : SlZ (flat enc_api_Final) 49 Z Aa1v ca1v a1v) {q0 : Bool} (hp0 : state_Find_1.f a0 a1v a2v = some q0) :
    Calls Tryd.prog 36 #[.int .i64 a0, .pointer (some ⟨ba1, 0, none⟩), .pointer (some ⟨ba2, 0, none⟩)] w (fun e w' => e = .returned (.bool q0) ∧ St w0 Z (xblk ba1 28 ([.slice Aa1v a1v.length ca1v]) :: xblk ba2 24 (enc_api_Final a2v) :: fs) w') := by
  refine calls_abs ?_; intro R hR
  unfold state_Find_1.f at hp0
  refine calls_of_runs (fn := Tryd.f36) (c := cd36 []) Tryd.func36 (by kernel_rfl) (al := [.int .i64 a0, .pointer (some ⟨ba1, 0, none⟩), .pointer (some ⟨ba2, 0, none⟩)]) rfl (n := 9) rfl ?_
  refine sx_run 5 (todo' := [.code (cd36 [1, 0]), .code (cd36 [1, 1])]) (us := [(4, .bool false)]) (by kernel_rfl) ?_
  refine r_quiet hS0 (c := (cd36 [1, 0])) (id := 1) (by kernel_rfl) (by kernel_rfl) (by kernel_rfl) (is := [0, 1, 2, 3, 4, 5, 6, 7]) (by kernel_rfl) ?_
  refine q_load (c := (cd36 [1, 0])) (i := 0) (d := (some 5)) (ty := 28) (t := 28) (x := (.tmp 1)) (p := ⟨ba1, 0, none⟩) (v := .slice Aa1v a1v.length ca1v) (by kernel_rfl) (by kernel_rfl) (by kernel_rfl) (fun w hC => (loads_at 0 (hC.blk 0 rfl) (by kernel_rfl) (by kernel_rfl))) ?_
  refine q_run 1 (is' := [2, 3, 4, 5, 6, 7]) (us := [(6, .int .i64 a0)]) (by kernel_rfl) ?_
  obtain ⟨g1, hp2⟩ := ite_some hp0
  obtain ⟨b3, p4, hA5, hc6⟩ := ha1v.atF g1.1 g1.2
  refine q_indexAddr (c := (cd36 [1, 0])) (i := 2) (d := (some 7)) (ty := 0) (t := 28) (e := 24) (n := a1v.length) (cp := ca1v) (sz := 49) (kk := .i64) (x := (.tmp 5)) (y := (.tmp 6)) (b := b3) (o' := p4) (j := a0) (by kernel_rfl) (by kernel_rfl) (slv (by kernel_rfl) hA5) (by kernel_rfl) (by kernel_rfl) (by kernel_rfl) g1.1 g1.2 ?_
  refine q_load (c := (cd36 [1, 0])) (i := 3) (d := (some 8)) (ty := 24) (t := 24) (x := (.tmp 7)) (p := ⟨b3, p4 + a0.toNat * 49, none⟩) (v := .agg (enc_api_Final (gt a1v a0)).toArray) (by kernel_rfl) (by kernel_rfl) (by kernel_rfl) (fun w hC => (loads_agg (hc6.cells hC) (by kernel_rfl) (lenK (len_api_Final _) (by kernel_rfl)))) ?_
  refine q_load (c := (cd36 [1, 0])) (i := 4) (d := (some 9)) (ty := 24) (t := 24) (x := (.tmp 2)) (p := ⟨ba2, 0, none⟩) (v := .agg (enc_api_Final a2v).toArray) (by kernel_rfl) (by kernel_rfl) (by kernel_rfl) (fun w hC => (loads_agg (hC.blk 1 rfl) (by kernel_rfl) (lenK (len_api_Final _) (by kernel_rfl)))) ?_
  obtain ⟨t7, hr8, hp9⟩ := bind_some' hp2
  refine q_call1 (c := (cd36 [1, 0])) (i := 5) (d := (some 10)) (v := .int .i64 t7) (g := 8) (args := #[.agg (enc_api_Final (gt a1v a0)).toArray, .agg (enc_api_Final a2v).toArray]) (by kernel_rfl) (by kernel_rfl) (by kernel_rfl) (by kernel_rfl) (fun w hC => by
   refine (state_Compare.ok (gt a1v a0) a2v hC hr8).mono ?_
   rintro e w2 ⟨rfl, h2⟩
   have hS10 := h2.pick1
   have hS11 := hS10.pick1
   exact ⟨rfl, hS11⟩) ?_
  refine q_splitr 1 (is' := [7]) (us := []) (d := 11) (t := (decide (t7 ≥ 0))) (by kernel_rfl) (fun h12 => ?_) (fun h13 => ?_)
  ·skip
   have hp14 := ite_t hp9 h12
   refine q_run 1 (is' := []) (us := [(4, .bool true)]) (by kernel_rfl) ?_
   refine Qs.nil ?_
   intro w15 hS16
   refine runs_ret (fn := Tryd.f36) (v := .bool true) Tryd.func36 (by kernel_rfl) ?_
   have hr17 := (Option.some.inj hp14)
   cases hr17
   exact hR _ _ ⟨rfl, hS16⟩
  ·skip
   have hp18 := ite_f hp9 h13
   refine q_run 1 (is' := []) (us := [(4, .bool false)]) (by kernel_rfl) ?_
   refine Qs.nil ?_
   intro w19 hS20
   refine runs_ret (fn := Tryd.f36) (v := .bool false) Tryd.func36 (by kernel_rfl) ?_
   have hr21 := (Option.some.inj hp18)
   cases hr21
   exact hR _ _ ⟨rfl, hS20⟩

noncomputable def cd35 (p : List Nat) : Code := sub (bodyOf Tryd.f35) p
def sort_Search.l0 (a1c0v : List api_Final) (a1c1v : api_Final) (t11 : Int) (t12 : Int) : Option Int :=
  (if (decide (t11 < t12)) = true then (state_Find_1.f (IntKind.i64.wrap (shrI .u64 (IntKind.u64.wrap (IntKind.i64.wrap (t11 + t12))) 1)) a1c0v a1c1v >>= (fun t25 => (if (!t25) = true then (sort_Search.l0 a1c0v a1c1v (IntKind.i64.wrap ((IntKind.i64.wrap (shrI .u64 (IntKind.u64.wrap (IntKind.i64.wrap (t11 + t12))) 1)) + 1)) t12) else (sort_Search.l0 a1c0v a1c1v t11 (IntKind.i64.wrap (shrI .u64 (IntKind.u64.wrap (IntKind.i64.wrap (t11 + t12))) 1)))))) else some (t11))
 partial_fixpoint
def sort_Search.f (a0 : Int) (a1c0v : List api_Final) (a1c1v : api_Final) : Option Int :=
  (sort_Search.l0 a1c0v a1c1v 0 a0 >>= (fun t4 => some (t4)))
set_option maxHeartbeats 16000000 in
theorem sort_Search.ok (a0 : Int) (a1c0v : List api_Final) (a1c1v : api_Final) (ba1c0 : Nat) (Aa1c0v : Option Addr) (ca1c0v : Nat) (ba1c1 : Nat) {w0 : World} {Z : Zm} {fs : List XObj} {w : World} (hS0 : St w0 Z (xblk ba1c0 28 ([.slice Aa1c0v a1c0v.length ca1c0v]) :: xblk ba1c1 24 (enc_api_Final a1c1v) :: fs) w) (ha1c0v : SlZ (flat enc_api_Final) 49 Z Aa1c0v ca1c0v a1c0v) {q0 : Int} (hp0 : sort_Search.f a0 a1c0v a1c1v = some q0) :
    Calls Tryd.prog 35 #[.int .i64 a0, .func (.func 36) #[] #[.pointer (some ⟨ba1c0, 0, none⟩), .pointer (some ⟨ba1c1, 0, none⟩)]] w (fun e w' => e = .returned (.int .i64 q0) ∧ St w0 Z (xblk ba1c0 28 ([.slice Aa1c0v a1c0v.length ca1c0v]) :: xblk ba1c1 24 (enc_api_Final a1c1v) :: fs) w') := by
  refine calls_abs ?_; intro R hR
  unfold sort_Search.f at hp0
  refine calls_of_runs (fn := Tryd.f35) (c := cd35 []) Tryd.func35 (by kernel_rfl) (al := [.int .i64 a0, .func (.func 36) #[] #[.pointer (some ⟨ba1c0, 0, none⟩), .pointer (some ⟨ba1c1, 0, none⟩)]]) rfl (n := 24) rfl ?_
  refine sx_run 13 (todo' := [.code (cd35 [1, 1, 0, 0, 0]), .inLoop (cd35 [1, 1, 0, 0, 0]), .inBlock 0, .code (cd35 [1, 1, 1])]) (us := [(4, .int .i64 0), (8, .int .i64 a0), (5, .int .i64 0), (6, .int .i64 a0)]) (by kernel_rfl) ?_
  obtain ⟨v1, hv2, hp3⟩ := bind_some' hp0
  have J7 : ∀ (t4 : Int) (he9 : t4 = v1) (l8 : List Value) (w5 : World) (hS6 : St w0 Z (xblk ba1c0 28 ([.slice Aa1c0v a1c0v.length ca1c0v]) :: xblk ba1c1 24 (enc_api_Final a1c1v) :: fs) w5), Runs Tryd.prog 35 [.code (cd35 [1, 1, 1])] (fill [none, none, none, none, none, some (.int .i64 t4), none, none, none, none, none, none, none, none, none, none, none, none, none, none, none, none, none, none, none, none] l8) w5 R := by
   intro t4 he9 l8 w5 hS6
   subst he9
   try dsimp only at hp3
   refine sx_run 5 (todo' := [.code (cd35 [1, 1, 1, 1])]) (us := [(25, .int .i64 t4), (4, .int .i64 t4)]) (by kernel_rfl) ?_
   refine runs_ret (fn := Tryd.f35) (v := .int .i64 t4) Tryd.func35 (by kernel_rfl) ?_
   have hr10 := (Option.some.inj hp3)
   cases hr10
   exact hR _ _ ⟨rfl, hS6⟩
  have L21 : ∀ (t11 : Int) (t12 : Int) (e16 : Int), sort_Search.l0 a1c0v a1c1v t11 t12 = some e16 → e16 = v1 → ∀ (l15 : List Value) (w13 : World) (hS14 : St w0 Z (xblk ba1c0 28 ([.slice Aa1c0v a1c0v.length ca1c0v]) :: xblk ba1c1 24 (enc_api_Final a1c1v) :: fs) w13), Runs Tryd.prog 35 [.code (cd35 [1, 1, 0, 0, 0]), .inLoop (cd35 [1, 1, 0, 0, 0]), .inBlock 0, .code (cd35 [1, 1, 1])] (fill [none, some (.func (.func 36) #[] #[.pointer (some ⟨ba1c0, 0, none⟩), .pointer (some ⟨ba1c1, 0, none⟩)]), none, none, none, some (.int .i64 t11), some (.int .i64 t12), none, none, none, none, none, none, none, none, none, none, none, none, none, none, none, none, none, none, none] l15) w13 R := by
   refine sort_Search.l0.partial_correctness a1c0v a1c1v (fun t11 t12 e16 => e16 = v1 → ∀ (l15 : List Value) (w13 : World) (hS14 : St w0 Z (xblk ba1c0 28 ([.slice Aa1c0v a1c0v.length ca1c0v]) :: xblk ba1c1 24 (enc_api_Final a1c1v) :: fs) w13), Runs Tryd.prog 35 [.code (cd35 [1, 1, 0, 0, 0]), .inLoop (cd35 [1, 1, 0, 0, 0]), .inBlock 0, .code (cd35 [1, 1, 1])] (fill [none, some (.func (.func 36) #[] #[.pointer (some ⟨ba1c0, 0, none⟩), .pointer (some ⟨ba1c1, 0, none⟩)]), none, none, none, some (.int .i64 t11), some (.int .i64 t12), none, none, none, none, none, none, none, none, none, none, none, none, none, none, none, none, none, none, none] l15) w13 R) ?_
   intro rec20 ih19 t11 t12 e16 hb18 he17 l15 w13 hS14
   refine sx_split 6 (todo' := [.inRegion (opsOf (cd35 [1, 1, 0, 0, 0, 0, 0])) [], .code (cd35 [1, 1, 0, 0, 0, 0, 1]), .code (cd35 [1, 1, 0, 0, 0, 1]), .inLoop (cd35 [1, 1, 0, 0, 0]), .inBlock 0, .code (cd35 [1, 1, 1])]) (us := [(9, .int .i64 t11), (10, .int .i64 t12)]) (d := 11) (t := (decide (t11 < t12))) (by kernel_rfl) (fun h22 => ?_) (fun h23 => ?_)
   ·skip
    have hp24 := ite_t hb18 h22
    refine sx_run 18 (todo' := [.inRegion (opsOf (cd35 [1, 1, 0, 0, 0, 1, 0, 1, 0])) [2, 3], .code (cd35 [1, 1, 0, 0, 0, 1, 0, 1, 1]), .inBlock 1, .inLoop (cd35 [1, 1, 0, 0, 0]), .inBlock 0, .code (cd35 [1, 1, 1])]) (us := [(12, .int .i64 t11), (13, .int .i64 t12), (14, .int .i64 (IntKind.i64.wrap (t11 + t12))), (15, .int .u64 (IntKind.u64.wrap (IntKind.i64.wrap (t11 + t12)))), (16, .int .u64 (shrI .u64 (IntKind.u64.wrap (IntKind.i64.wrap (t11 + t12))) 1)), (17, .int .i64 (IntKind.i64.wrap (shrI .u64 (IntKind.u64.wrap (IntKind.i64.wrap (t11 + t12))) 1))), (7, .int .i64 (IntKind.i64.wrap (shrI .u64 (IntKind.u64.wrap (IntKind.i64.wrap (t11 + t12))) 1))), (18, .func (.func 36) #[] #[.pointer (some ⟨ba1c0, 0, none⟩), .pointer (some ⟨ba1c1, 0, none⟩)]), (19, .int .i64 (IntKind.i64.wrap (shrI .u64 (IntKind.u64.wrap (IntKind.i64.wrap (t11 + t12))) 1)))]) (by kernel_rfl) ?_
    obtain ⟨t25, hr26, hp27⟩ := bind_some' hp24
    have hS29 := hS14.pick1
    have hS30 := hS29.pick1
    refine r_call1 (c := (cd35 [1, 1, 0, 0, 0, 1, 0, 1, 0])) (i := 2) (d := (some 20)) (g := 36) (args := #[.int .i64 (IntKind.i64.wrap (shrI .u64 (IntKind.u64.wrap (IntKind.i64.wrap (t11 + t12))) 1)), .pointer (some ⟨ba1c0, 0, none⟩), .pointer (some ⟨ba1c1, 0, none⟩)]) (by kernel_rfl) (by kernel_rfl) (by kernel_rfl) (by kernel_rfl) (state_Find_1.ok (IntKind.i64.wrap (shrI .u64 (IntKind.u64.wrap (IntKind.i64.wrap (t11 + t12))) 1)) a1c0v a1c1v ba1c0 Aa1c0v ca1c0v ba1c1 hS30 ha1c0v hr26) ?_
    rintro _ w31 ⟨rfl, hS32⟩
    refine ⟨.bool t25, rfl, ?_⟩
    refine sx_split 1 (todo' := [.inRegion (opsOf (cd35 [1, 1, 0, 0, 0, 1, 0, 1, 0])) [], .code (cd35 [1, 1, 0, 0, 0, 1, 0, 1, 1]), .inBlock 1, .inLoop (cd35 [1, 1, 0, 0, 0]), .inBlock 0, .code (cd35 [1, 1, 1])]) (us := []) (d := 21) (t := (!t25)) (by kernel_rfl) (fun h33 => ?_) (fun h34 => ?_)
    ·skip
     have hp35 := ite_t hp27 h33
     refine sx_run 8 (todo' := [.inLoop (cd35 [1, 1, 0, 0, 0]), .inBlock 0, .code (cd35 [1, 1, 1])]) (us := [(22, .int .i64 (IntKind.i64.wrap (shrI .u64 (IntKind.u64.wrap (IntKind.i64.wrap (t11 + t12))) 1))), (23, .int .i64 (IntKind.i64.wrap ((IntKind.i64.wrap (shrI .u64 (IntKind.u64.wrap (IntKind.i64.wrap (t11 + t12))) 1)) + 1))), (5, .int .i64 (IntKind.i64.wrap ((IntKind.i64.wrap (shrI .u64 (IntKind.u64.wrap (IntKind.i64.wrap (t11 + t12))) 1)) + 1)))]) (by kernel_rfl) ?_
     refine sx_run 1 (todo' := [.code (cd35 [1, 1, 0, 0, 0]), .inLoop (cd35 [1, 1, 0, 0, 0]), .inBlock 0, .code (cd35 [1, 1, 1])]) (us := []) (by kernel_rfl) ?_
     refine Runs.fill (m := [none, some (.func (.func 36) #[] #[.pointer (some ⟨ba1c0, 0, none⟩), .pointer (some ⟨ba1c1, 0, none⟩)]), none, none, none, some (.int .i64 (IntKind.i64.wrap ((IntKind.i64.wrap (shrI .u64 (IntKind.u64.wrap (IntKind.i64.wrap (t11 + t12))) 1)) + 1))), some (.int .i64 t12), none, none, none, none, none, none, none, none, none, none, none, none, none, none, none, none, none, none, none]) (by kernel_rfl) ?_
     exact ih19 (IntKind.i64.wrap ((IntKind.i64.wrap (shrI .u64 (IntKind.u64.wrap (IntKind.i64.wrap (t11 + t12))) 1)) + 1)) t12 _ hp35 he17 _ _ hS32
    ·skip
     have hp36 := ite_f hp27 h34
     refine sx_run 7 (todo' := [.inLoop (cd35 [1, 1, 0, 0, 0]), .inBlock 0, .code (cd35 [1, 1, 1])]) (us := [(24, .int .i64 (IntKind.i64.wrap (shrI .u64 (IntKind.u64.wrap (IntKind.i64.wrap (t11 + t12))) 1))), (6, .int .i64 (IntKind.i64.wrap (shrI .u64 (IntKind.u64.wrap (IntKind.i64.wrap (t11 + t12))) 1)))]) (by kernel_rfl) ?_
     refine sx_run 1 (todo' := [.code (cd35 [1, 1, 0, 0, 0]), .inLoop (cd35 [1, 1, 0, 0, 0]), .inBlock 0, .code (cd35 [1, 1, 1])]) (us := []) (by kernel_rfl) ?_
     refine Runs.fill (m := [none, some (.func (.func 36) #[] #[.pointer (some ⟨ba1c0, 0, none⟩), .pointer (some ⟨ba1c1, 0, none⟩)]), none, none, none, some (.int .i64 t11), some (.int .i64 (IntKind.i64.wrap (shrI .u64 (IntKind.u64.wrap (IntKind.i64.wrap (t11 + t12))) 1))), none, none, none, none, none, none, none, none, none, none, none, none, none, none, none, none, none, none, none]) (by kernel_rfl) ?_
     exact ih19 t11 (IntKind.i64.wrap (shrI .u64 (IntKind.u64.wrap (IntKind.i64.wrap (t11 + t12))) 1)) _ hp36 he17 _ _ hS32
   ·skip
    have hp37 := ite_f hb18 h23
    refine sx_run 3 (todo' := [.code (cd35 [1, 1, 1])]) (us := []) (by kernel_rfl) ?_
    refine Runs.fill (m := [none, none, none, none, none, some (.int .i64 t11), none, none, none, none, none, none, none, none, none, none, none, none, none, none, none, none, none, none, none, none]) (by kernel_rfl) ?_
    exact J7 t11 ((Option.some.inj hp37).trans he17) _ _ hS14
  refine Runs.fill (m := [none, some (.func (.func 36) #[] #[.pointer (some ⟨ba1c0, 0, none⟩), .pointer (some ⟨ba1c1, 0, none⟩)]), none, none, none, some (.int .i64 0), some (.int .i64 a0), none, none, none, none, none, none, none, none, none, none, none, none, none, none, none, none, none, none, none]) (by kernel_rfl) ?_
  exact L21 0 a0 _ hv2 rfl _ _ hS0

end
end Go.Proofs.YtjbhgahbaeoinaaDoor.K
