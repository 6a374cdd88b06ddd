/- The walk, part 3: each Go function as a plain Lean function, and that its call answers as that function says. No condition. -/
import Derived.Test.YtfiamlhhhkiiaaaE
import Derived.Test.YtfiamlhhhkiiaaaNG
import Derived.Test.YtfiamlhhhkiiaaaNP
import Derived.Test.YtfiamlhhhkiiaaaNM
import Derived.Test.YtfiamlhhhkiiaaaNQ
import Derived.Test.YtfiamlhhhkiiaaaNI
import Derived.Test.YtfiamlhhhkiiaaaNX
import Derived.Test.YtfiamlhhhkiiaaaNY
import Derived.Test.YtfiamlhhhkiiaaaNC
import Derived.Test.YtfiamlhhhkiiaaaNF
import Derived.Test.YtfiamlhhhkiiaaaNW
import Derived.Test.YtfiamlhhhkiiaaaNK
import Derived.Test.YtfiamlhhhkiiaaaND
import Derived.Test.YtfiamlhhhkiiaaaR2
set_option linter.unusedVariables false
set_option linter.unusedSimpArgs false
set_option maxRecDepth 100000
set_option synthInstance.maxSize 100000
set_option synthInstance.maxHeartbeats 4000000
namespace Go.Proofs.Ytfiamlhhhkiiaaa.K
open Go Go.RowKit
noncomputable section
set_option maxHeartbeats 16000000
variable {w0 : World} {Z : Zm} {fs : List XObj} {w : World}
noncomputable def cd10 (p : List Nat) : Code := sub (bodyOf Try.f10) p
abbrev p10_4:=cd10 [1,1,0]
abbrev p10_5:=cd10 [1,1,1]
abbrev p10_10:=cd10 [1,1,1,0,1,0,0,0,0]
abbrev p10_11:=cd10 [1,1,1,0,1,0,0,0,1]
abbrev p10_13:=cd10 [1,1,1,0,1,0,0,1,0,0,0]
abbrev p10_16:=cd10 [1,1,1,0,1,0,0,1,0,0,1,1,0,0]
abbrev p10_20:=cd10 [1,1,1,0,1,0,0,1,0,0,1,1,0,0,1,0,0,0]
abbrev p10_26:=cd10 [1,1,1,0,1,0,0,1,0,0,1,1,0,0,1,0,0,1,1,0]
abbrev p10_30:=cd10 [1,1,1,0,1,0,0,1,0,0,1,1,0,0,1,0,0,1,1,1,1,0]
abbrev td94:List Item:=[.code (cd10 [1,1,1,1])]
abbrev td95:List Item:=.inBlock 0::td94
abbrev td96:List Item:=.inLoop (cd10 [1,1,1,0,1,0,0])::td95
abbrev td97:List Item:=.code (cd10 [1,1,1,0,1,0,0])::td96
abbrev td98:List Item:=.code (cd10 [1,1,1,0,1,0,0,1,1])::td96
abbrev td99:List Item:=.inBlock 1::td98
abbrev td100:List Item:=.inBlock 2::td99
abbrev td101:List Item:=.inLoop p10_16::td100
abbrev td102:List Item:=.code p10_16::td101
abbrev td103:List Item:=.code (cd10 [1,1,1,0,1,0,0,1,0,0,1,1,0,0,1,1])::td101
abbrev td104:List Item:=.inBlock 3::td103
def weirref14_Lay.l1 (y9 : ByteArray) (a0_1c1v : weirlaw14_Net) (a1 t138 : Int) (t194 : List api_Pick) (t196 : List (ByteArray × Int)) (t255 : Int) (t256 : Bool) (t257 t258 t259 : List (ByteArray × Int)) (t260 : List ByteArray) (t264 : List Int) (t268 : List (List weirref14_Move)) (t273 : List Bool) (t277 : List api_Final) (t281 : List Int) (t285 : List api_Pick) (t289 : Bool) : Option (Bool × (List (ByteArray × Int)) × (List (ByteArray × Int)) × (List ByteArray) × (List Int) × (List (List weirref14_Move)) × (List Bool) × (List api_Final) × (List Int) × (List api_Pick) × Bool × (List (ByteArray × Int))) :=
  (if (decide (t255 < (t194.length : Int))) = true then (if 0 ≤ t138 ∧ t138 < (t260.length : Int) then (if 0 ≤ t255 ∧ t255 < (t194.length : Int) then (weirlaw14_Net__machine_2.f (gt t260 t138) (gt t194 t255) a0_1c1v t196 t258 t257 t256 >>= (fun (t326,t327,t328,t329) => (if (!t327) = true then (weirref14_Lay.l1 y9 a0_1c1v a1 t138 t194 t196 (IntKind.i64.wrap (t255 + 1)) t328 t329 (id t258) (id t259) (id t260) (id t264) (id t268) (id t273) (id t277) (id t281) (id t285) (id t289)) else (if 0 ≤ t138 ∧ t138 < (t264.length : Int) then (if 0 ≤ t255 ∧ t255 < (t194.length : Int) then (weirref14_Graph__put.f t260 t264 t268 t273 t277 t281 t285 t289 t259 y9 t196 t258 t329 t328 a0_1c1v a1 t326 (IntKind.i64.wrap ((gt t264 t138) + 1)) t138 (gt t194 t255) >>= (fun (t421,t422,t423,t424,t425,t426,t427,t428,t429,t430,t431,t432) => (if (decide (t421 ≥ 0)) = true then (if 0 ≤ t138 ∧ t138 < (t424.length : Int) then (if 0 ≤ t255 ∧ t255 < (t194.length : Int) then (if ((gt t424 t138).length + ([(⟨t421,(gt t194 t255)⟩ : weirref14_Move)] : List weirref14_Move).length) * 32 ≤ 140737488355328 then (weirref14_Lay.l1 y9 a0_1c1v a1 t138 t194 t196 (IntKind.i64.wrap (t255 + 1)) t431 t329 t432 t430 t422 t423 (setl t424 t138 ((gt t424 t138) ++ ([(⟨t421,(gt t194 t255)⟩ : weirref14_Move)] : List weirref14_Move))) t425 t426 t427 t428 t429) else none) else none) else none) else (weirref14_Lay.l1 y9 a0_1c1v a1 t138 t194 t196 (IntKind.i64.wrap (t255 + 1)) t431 t329 t432 t430 t422 t423 t424 t425 t426 t427 t428 t429)))) else none) else none)))) else none) else none) else some ((t256,t258,t257,t260,t264,t268,t273,t277,t281,t285,t289,t259)))
 partial_fixpoint
def weirref14_Lay.l0 (y9 : ByteArray) (a0_1c1v : weirlaw14_Net) (a1 t138 : Int) (t139 : Bool) (t140 t141 : List (ByteArray × Int)) (t142 t143 : List (ByteArray × Int)) (t144 : List ByteArray) (t148 : List Int) (t152 : List (List weirref14_Move)) (t157 : List Bool) (t161 : List api_Final) (t165 : List Int) (t169 : List api_Pick) (t173 : Bool) : Option ((List ByteArray) × (List Int) × (List (List weirref14_Move)) × (List Bool) × (List api_Final) × (List Int) × (List api_Pick) × Bool × (List (ByteArray × Int)) × Bool × (List (ByteArray × Int)) × (List (ByteArray × Int)) × (List (ByteArray × Int))) :=
  (if (decide (t138 < (t144.length : Int))) = true then (if 0 ≤ t138 ∧ t138 < (t144.length : Int) then (weirlaw14_Net__machine_1.f (gt t144 t138) t140 t141 t142 t139 a0_1c1v >>= (fun (t194,t195,t196) => (weirref14_Lay.l1 y9 a0_1c1v a1 t138 t194 t196 0 t195 t142 t141 t143 t144 t148 t152 t157 t161 t165 t169 t173 >>= (fun (t216,t217,t218,t219,t223,t227,t232,t236,t240,t244,t248,t249) => (weirref14_Lay.l0 y9 a0_1c1v a1 (IntKind.i64.wrap (t138 + 1)) t216 t196 t217 t218 t249 t219 t223 t227 t232 t236 t240 t244 t248))))) else none) else some ((t144,t148,t152,t157,t161,t165,t169,t173,t143,t139,t140,t141,t142)))
 partial_fixpoint
def weirref14_Lay.f (y9 : ByteArray) (a0_1c0vv_0m a0_1c0vv_1m a0_1c0vv_2m : List (ByteArray × Int)) (a0_1c0vv_3 : Bool) (a0_1c1v : weirlaw14_Net) (a1 : Int) : Option ((List ByteArray) × (List Int) × (List (List weirref14_Move)) × (List Bool) × (List api_Final) × (List Int) × (List api_Pick) × Bool × (List (ByteArray × Int)) × Bool × (List (ByteArray × Int)) × (List (ByteArray × Int)) × (List (ByteArray × Int))) :=
  (weirref14_Graph__put.f ([] : List ByteArray) ([] : List Int) ([] : List (List weirref14_Move)) ([] : List Bool) ([] : List api_Final) ([] : List Int) ([] : List api_Pick) true ([] : List (ByteArray × Int)) y9 a0_1c0vv_0m a0_1c0vv_1m a0_1c0vv_2m a0_1c0vv_3 a0_1c1v a1 y9 0 (-1) (⟨0,0,0⟩ : api_Pick) >>= (fun (t34,t35,t36,t37,t38,t39,t40,t41,t42,t43,t44,t45) => (weirref14_Lay.l0 y9 a0_1c1v a1 0 t44 a0_1c0vv_0m t45 a0_1c0vv_2m t43 t35 t36 t37 t38 t39 t40 t41 t42 >>= (fun (t93,t97,t101,t106,t110,t114,t118,t122,t123,t124,t125,t126,t127) => some ((t93,t97,t101,t106,t110,t114,t118,t122,t123,t124,t125,t126,t127))))))
theorem weirref14_Lay.ok {y9 : ByteArray} {a0_1c0vv_0m a0_1c0vv_1m a0_1c0vv_2m : List (ByteArray × Int)} {a0_1c0vv_3 : Bool} {a0_1c1v : weirlaw14_Net} {a1 : Int} {ba0_1c0 ba0_1c0v : Nat} {ba0_1c0vv_0 ba0_1c0vv_1 : Nat} {ba0_1c0vv_2 ba0_1c1 : Nat} {Aa0_1c1v_0 : Option Addr} {ca0_1c1v_0 : Nat} {Aa0_1c1v_1 : Option Addr} {ca0_1c1v_1 : Nat} {Aa0_1c1v_2 : Option Addr} {ca0_1c1v_2 : Nat} {q0 : List ByteArray} {q1 : List Int} {q2 : List (List weirref14_Move)} {q3 : List Bool} {q4 : List api_Final} {q5 : List Int} {q6 : List api_Pick} {q7 : Bool} {q8 : List (ByteArray × Int)} {q9 : Bool} {q10 q11 q12 : List (ByteArray × Int)} (hp0 : weirref14_Lay.f y9 a0_1c0vv_0m a0_1c0vv_1m a0_1c0vv_2m a0_1c0vv_3 a0_1c1v a1 = some (q0,q1,q2,q3,q4,q5,q6,q7,q8,q9,q10,q11,q12)) (hS0 : St w0 Z (xblk ba0_1c0 33 ([.pointer (some ⟨ba0_1c0v,0,none⟩)])::xblk ba0_1c0v 49 ([.map (some ba0_1c0vv_0),.map (some ba0_1c0vv_1),.map (some ba0_1c0vv_2),.bool a0_1c0vv_3])::xmap ba0_1c0vv_0 (a0_1c0vv_0m.map (kv Value.string (Value.int .i64)))::xmap ba0_1c0vv_1 (a0_1c0vv_1m.map (kv Value.string (Value.int .i64)))::xmap ba0_1c0vv_2 (a0_1c0vv_2m.map (kv Value.string (Value.int .i64)))::xblk ba0_1c1 26 ([.slice Aa0_1c1v_0 a0_1c1v.Next.length ca0_1c1v_0,.slice Aa0_1c1v_1 a0_1c1v.End.length ca0_1c1v_1,.slice Aa0_1c1v_2 a0_1c1v.Value.length ca0_1c1v_2,.int .i64 a0_1c1v.Start])::fs) w) (ha0_1c1v_0 : SlZ (repL (flat (encI .i64)) 1) 1 Z Aa0_1c1v_0 ca0_1c1v_0 a0_1c1v.Next) (ha0_1c1v_1 : SlZ (flat encB) 1 Z Aa0_1c1v_1 ca0_1c1v_1 a0_1c1v.End) (ha0_1c1v_2 : SlZ (flat (encI .i64)) 1 Z Aa0_1c1v_2 ca0_1c1v_2 a0_1c1v.Value) :
    Calls Try.prog 10 #[.agg #[.string y9,.func (.func 28) #[] #[.pointer (some ⟨ba0_1c0,0,none⟩),.pointer (some ⟨ba0_1c1,0,none⟩)],.func (.func 31) #[] #[.pointer (some ⟨ba0_1c1,0,none⟩),.pointer (some ⟨ba0_1c0,0,none⟩)],.func (.func 32) #[] #[.pointer (some ⟨ba0_1c0,0,none⟩),.pointer (some ⟨ba0_1c1,0,none⟩)]],.int .i64 a1] w (fun e w' => ∃ (QA0 : Option Addr) (Qc0 : Nat) (QA2 : Option Addr) (Qc2 : Nat) (QA4 : Option Addr) (Qc4 : Nat) (Qh4 : Nat → Option Addr × Nat) (QA7 : Option Addr) (Qc7 : Nat) (QA9 : Option Addr) (Qc9 : Nat) (QA11 : Option Addr) (Qc11 : Nat) (QA13 : Option Addr) (Qc13 : Nat) (Qb15 : Nat),e = .returned (.agg #[.slice QA0 q0.length Qc0,.slice QA2 q1.length Qc2,.slice QA4 q2.length Qc4,.slice QA7 q3.length Qc7,.slice QA9 q4.length Qc9,.slice QA11 q5.length Qc11,.slice QA13 q6.length Qc13,.bool q7,.map (some Qb15)]) ∧ St w0 Z (xrow QA0 Qc0 9 1 (q0.flatMap encS)::xrow QA2 Qc2 3 1 (q1.flatMap (encI .i64))::xrr QA4 Qc4 93 Qh4 95 4 enc_weirref14_Move q2::xrow QA7 Qc7 4 1 (q3.flatMap encB)::xrow QA9 Qc9 84 49 (q4.flatMap enc_api_Final)::xrow QA11 Qc11 3 1 (q5.flatMap (encI .i64))::xrow QA13 Qc13 88 3 (q6.flatMap enc_api_Pick)::xmap Qb15 (q8.map (kv Value.string (Value.int .i64)))::xblk ba0_1c0 33 ([.pointer (some ⟨ba0_1c0v,0,none⟩)])::xblk ba0_1c0v 49 ([.map (some ba0_1c0vv_0),.map (some ba0_1c0vv_1),.map (some ba0_1c0vv_2),.bool q9])::xmap ba0_1c0vv_0 (q10.map (kv Value.string (Value.int .i64)))::xmap ba0_1c0vv_1 (q11.map (kv Value.string (Value.int .i64)))::xmap ba0_1c0vv_2 (q12.map (kv Value.string (Value.int .i64)))::xblk ba0_1c1 26 ([.slice Aa0_1c1v_0 a0_1c1v.Next.length ca0_1c1v_0,.slice Aa0_1c1v_1 a0_1c1v.End.length ca0_1c1v_1,.slice Aa0_1c1v_2 a0_1c1v.Value.length ca0_1c1v_2,.int .i64 a0_1c1v.Start])::fs) w'):=by
  refine calls_abs ?_; intro R hR
  unfold weirref14_Lay.f at hp0
  refine calls_of_runs (fn:=Try.f10) (c:=cd10 []) Try.func10 (by kernel_rfl) (al:=[.agg #[.string y9,.func (.func 28) #[] #[.pointer (some ⟨ba0_1c0,0,none⟩),.pointer (some ⟨ba0_1c1,0,none⟩)],.func (.func 31) #[] #[.pointer (some ⟨ba0_1c1,0,none⟩),.pointer (some ⟨ba0_1c0,0,none⟩)],.func (.func 32) #[] #[.pointer (some ⟨ba0_1c0,0,none⟩),.pointer (some ⟨ba0_1c1,0,none⟩)]],.int .i64 a1]) rfl (n:=91) rfl ?_
  refine sR 2 [.inRegion (opsOf (cd10 [0])) [0,1],.code (cd10 [1])] ?_
  refine r_box (c:=(cd10 [0])) (i:=0) (d:=(some 2)) (ty:=0) (x:=(.tmp 0)) (v:=.agg #[.string y9,.func (.func 28) #[] #[.pointer (some ⟨ba0_1c0,0,none⟩),.pointer (some ⟨ba0_1c1,0,none⟩)],.func (.func 31) #[] #[.pointer (some ⟨ba0_1c1,0,none⟩),.pointer (some ⟨ba0_1c0,0,none⟩)],.func (.func 32) #[] #[.pointer (some ⟨ba0_1c0,0,none⟩),.pointer (some ⟨ba0_1c1,0,none⟩)]]) (t:=32) (cs:=[.string y9,.func (.func 28) #[] #[.pointer (some ⟨ba0_1c0,0,none⟩),.pointer (some ⟨ba0_1c1,0,none⟩)],.func (.func 31) #[] #[.pointer (some ⟨ba0_1c1,0,none⟩),.pointer (some ⟨ba0_1c0,0,none⟩)],.func (.func 32) #[] #[.pointer (some ⟨ba0_1c0,0,none⟩),.pointer (some ⟨ba0_1c1,0,none⟩)]]) hS0 (by kernel_rfl) (by kernel_rfl) (by kernel_rfl) (by kernel_rfl) ?_
  intro b1 w2 hS3
  refine rA 43 (.agg #[.slice none 0 0,.slice none 0 0,.slice none 0 0,.slice none 0 0,.slice none 0 0,.slice none 0 0,.slice none 0 0,.bool false,.map none]) [.slice none 0 0,.slice none 0 0,.slice none 0 0,.slice none 0 0,.slice none 0 0,.slice none 0 0,.slice none 0 0,.bool false,.map none] hS3 ?_
  intro b5 w6 hS7
  refine sR 3 [iR (cd10 [1,0]) 0 4,.code (cd10 [1,1])] ?_
  refine r_makeMap (c:=(cd10 [1,0])) (i:=0) (d:=(some 12)) (ty:=41) (t:=41) hS7 (by kernel_rfl) (by kernel_rfl) ?_
  intro b9 w10 hS11
  have hS13 : St w0 Z (xmap b9 (([] : List (ByteArray × Int)).map (kv Value.string (Value.int .i64)))::xblk b5 43 ([.slice none 0 0,.slice none 0 0,.slice none 0 0,.slice none 0 0,.slice none 0 0,.slice none 0 0,.slice none 0 0,.bool false,.map none])::xblk b1 32 ([.string y9,.func (.func 28) #[] #[.pointer (some ⟨ba0_1c0,0,none⟩),.pointer (some ⟨ba0_1c1,0,none⟩)],.func (.func 31) #[] #[.pointer (some ⟨ba0_1c1,0,none⟩),.pointer (some ⟨ba0_1c0,0,none⟩)],.func (.func 32) #[] #[.pointer (some ⟨ba0_1c0,0,none⟩),.pointer (some ⟨ba0_1c1,0,none⟩)]])::xblk ba0_1c0 33 ([.pointer (some ⟨ba0_1c0v,0,none⟩)])::xblk ba0_1c0v 49 ([.map (some ba0_1c0vv_0),.map (some ba0_1c0vv_1),.map (some ba0_1c0vv_2),.bool a0_1c0vv_3])::xmap ba0_1c0vv_0 (a0_1c0vv_0m.map (kv Value.string (Value.int .i64)))::xmap ba0_1c0vv_1 (a0_1c0vv_1m.map (kv Value.string (Value.int .i64)))::xmap ba0_1c0vv_2 (a0_1c0vv_2m.map (kv Value.string (Value.int .i64)))::xblk ba0_1c1 26 ([.slice Aa0_1c1v_0 a0_1c1v.Next.length ca0_1c1v_0,.slice Aa0_1c1v_1 a0_1c1v.End.length ca0_1c1v_1,.slice Aa0_1c1v_2 a0_1c1v.Value.length ca0_1c1v_2,.int .i64 a0_1c1v.Start])::fs) w10:=hS11
  refine sR 1 [.inRegion (opsOf (cd10 [1,0])) [2,3],.code (cd10 [1,1])] ?_
  refine rA 43 (.agg #[.slice none 0 0,.slice none 0 0,.slice none 0 0,.slice none 0 0,.slice none 0 0,.slice none 0 0,.slice none 0 0,.bool false,.map none]) [.slice none 0 0,.slice none 0 0,.slice none 0 0,.slice none 0 0,.slice none 0 0,.slice none 0 0,.slice none 0 0,.bool false,.map none] hS13 ?_
  intro b14 w15 hS16
  refine rS 43 (.tmp 5) (.tmp 13) 0 (.agg #[.slice none 0 0,.slice none 0 0,.slice none 0 0,.slice none 0 0,.slice none 0 0,.slice none 0 0,.slice none 0 0,.bool true,.map (some b9)]) [.slice none 0 0,.slice none 0 0,.slice none 0 0,.slice none 0 0,.slice none 0 0,.slice none 0 0,.slice none 0 0,.bool true,.map (some b9)] [.slice none 0 0,.slice none 0 0,.slice none 0 0,.slice none 0 0,.slice none 0 0,.slice none 0 0,.slice none 0 0,.bool true,.map (some b9)] hS16 ?_
  intro w18 hS19
  refine sR 3 [iR p10_4 0 6,.code p10_5] ?_
  refine rLa 32 (.tmp 2) (hS19.blk 3 rfl) ?_
  refine sR 2 [.inRegion (opsOf p10_4) [3,4,5],.code p10_5] ?_
  refine rL1 9 (.tmp 16) 0 (hS19.blk 3 rfl) ?_
  refine sR 1 [.inRegion (opsOf p10_4) [5],.code p10_5] ?_
  have hS21:=hS19.nilrow none 9 1
  have hS23:=hS21.nilrow none 3 1
  have hS25:=hS23.rrNone 93 95 4 enc_weirref14_Move
  have hS27:=hS25.nilrow none 4 1
  have hS29:=hS27.nilrow none 84 49
  have hS31:=hS29.nilrow none 3 1
  have hS33:=hS31.nilrow none 88 3
  obtain ⟨⟨t34,t35,t36,t37,t38,t39,t40,t41,t42,t43,t44,t45⟩,hr61,hp62⟩:=bind_some' hp0
  try dsimp only at hp62
  have hS73:=hS33.pick16
  have hS74:=hS73.pick16
  have hS75:=hS74.pick16
  have hS76:=hS75.pick16
  have hS77:=hS76.pick16
  have hS78:=hS77.pick16
  have hS79:=hS78.pick14
  have hS80:=hS79.pick7
  have hS81:=hS80.pick8
  have hS82:=hS81.pick9
  have hS83:=hS82.pick10
  have hS84:=hS83.pick11
  have hS85:=hS84.pick12
  have hS86:=hS85.pick13
  have hS87:=hS86.pick14
  refine rC (weirref14_Graph__put.ok hr61 hS87 ha0_1c1v_0 ha0_1c1v_1 ha0_1c1v_2) ?_
  rintro _ w88 ⟨Q46,Q47,Q48,Q49,Q50,Q51,Q52,Q53,Q54,Q55,Q56,Q57,Q58,Q59,Q60,rfl,hS89⟩
  refine ⟨_,rfl,?_⟩
  refine sR 8 td97 ?_
  obtain ⟨v90,hv91,hp92⟩:=bind_some' hp62
  have J130 : ∀ (t93 : List ByteArray) (t97 : List Int) (t101 : List (List weirref14_Move)) (t106 : List Bool) (t110 : List api_Final) (t114 : List Int) (t118 : List api_Pick) (t122 : Bool) (t123 : List (ByteArray × Int)) (t124 : Bool) (t125 t126 t127 : List (ByteArray × Int)) (he132 : (t93,t97,t101,t106,t110,t114,t118,t122,t123,t124,t125,t126,t127) = v90) (l131 : List Value) (A94 : Option Addr) (c95 : Nat) (A98 : Option Addr) (c99 : Nat) (A102 : Option Addr) (c103 : Nat) (h105 : Nat → Option Addr × Nat) (A107 : Option Addr) (c108 : Nat) (A111 : Option Addr) (c112 : Nat) (A115 : Option Addr) (c116 : Nat) (A119 : Option Addr) (c120 : Nat) (w128 : World) (hS129 : St w0 Z (xblk b5 43 ([.slice none 0 0,.slice none 0 0,.slice none 0 0,.slice none 0 0,.slice none 0 0,.slice none 0 0,.slice none 0 0,.bool false,.map none])::xblk b14 43 ([.slice A94 t93.length c95,.slice A98 t97.length c99,.slice A102 t101.length c103,.slice A107 t106.length c108,.slice A111 t110.length c112,.slice A115 t114.length c116,.slice A119 t118.length c120,.bool t122,.map (some b9)])::xrow A94 c95 9 1 (t93.flatMap encS)::xrow A98 c99 3 1 (t97.flatMap (encI .i64))::xrr A102 c103 93 h105 95 4 enc_weirref14_Move t101::xrow A107 c108 4 1 (t106.flatMap encB)::xrow A111 c112 84 49 (t110.flatMap enc_api_Final)::xrow A115 c116 3 1 (t114.flatMap (encI .i64))::xrow A119 c120 88 3 (t118.flatMap enc_api_Pick)::xmap b9 (t123.map (kv Value.string (Value.int .i64)))::xblk ba0_1c0 33 ([.pointer (some ⟨ba0_1c0v,0,none⟩)])::xblk ba0_1c0v 49 ([.map (some ba0_1c0vv_0),.map (some ba0_1c0vv_1),.map (some ba0_1c0vv_2),.bool t124])::xmap ba0_1c0vv_0 (t125.map (kv Value.string (Value.int .i64)))::xmap ba0_1c0vv_1 (t126.map (kv Value.string (Value.int .i64)))::xmap ba0_1c0vv_2 (t127.map (kv Value.string (Value.int .i64)))::xblk ba0_1c1 26 ([.slice Aa0_1c1v_0 a0_1c1v.Next.length ca0_1c1v_0,.slice Aa0_1c1v_1 a0_1c1v.End.length ca0_1c1v_1,.slice Aa0_1c1v_2 a0_1c1v.Value.length ca0_1c1v_2,.int .i64 a0_1c1v.Start])::fs) w128),Runs Try.prog (fx 10) td94 (fill (mk 93 [(4,.pointer (some ⟨b5,0,none⟩)),(5,.pointer (some ⟨b14,0,none⟩))]) l131) w128 R:=by
   intro t93 t97 t101 t106 t110 t114 t118 t122 t123 t124 t125 t126 t127 he132 l131 A94 c95 A98 c99 A102 c103 h105 A107 c108 A111 c112 A115 c116 A119 c120 w128 hS129
   subst he132
   try dsimp only at hp92
   refine sR 2 [.inRegion (opsOf (cd10 [1,1,1,1,0])) [0,1],.code (cd10 [1,1,1,1,1])] ?_
   refine rLa 43 (.tmp 5) (hS129.blk 1 rfl) ?_
   refine rS 43 (.tmp 4) (.tmp 92) 0 (.agg #[.slice A94 t93.length c95,.slice A98 t97.length c99,.slice A102 t101.length c103,.slice A107 t106.length c108,.slice A111 t110.length c112,.slice A115 t114.length c116,.slice A119 t118.length c120,.bool t122,.map (some b9)]) [.slice A94 t93.length c95,.slice A98 t97.length c99,.slice A102 t101.length c103,.slice A107 t106.length c108,.slice A111 t110.length c112,.slice A115 t114.length c116,.slice A119 t118.length c120,.bool t122,.map (some b9)] [.slice A94 t93.length c95,.slice A98 t97.length c99,.slice A102 t101.length c103,.slice A107 t106.length c108,.slice A111 t110.length c112,.slice A115 t114.length c116,.slice A119 t118.length c120,.bool t122,.map (some b9)] hS129 ?_
   intro w133 hS134
   refine sR 1 [.code (cd10 [1,1,1,1,1])] ?_
   have hS135:=hS134.drop
   have hS136:=hS135.drop
   refine rRc (.agg #[.slice A94 t93.length c95,.slice A98 t97.length c99,.slice A102 t101.length c103,.slice A107 t106.length c108,.slice A111 t110.length c112,.slice A115 t114.length c116,.slice A119 t118.length c120,.bool t122,.map (some b9)]) (.ca 4 43 (hS134.blk 0 rfl) .nil) Try.func10 ?_
   cases Option.some.inj hp92
   exact hR _ _ ⟨A94,c95,A98,c99,A102,c103,(h105),A107,c108,A111,c112,A115,c116,A119,c120,b9,rfl,hS136⟩
  have L182 : ∀ (t138 : Int) (t139 : Bool) (t140 t141 : List (ByteArray × Int)) (t142 t143 : List (ByteArray × Int)) (t144 : List ByteArray) (t148 : List Int) (t152 : List (List weirref14_Move)) (t157 : List Bool) (t161 : List api_Final) (t165 : List Int) (t169 : List api_Pick) (t173 : Bool) (e177 : ((List ByteArray) × (List Int) × (List (List weirref14_Move)) × (List Bool) × (List api_Final) × (List Int) × (List api_Pick) × Bool × (List (ByteArray × Int)) × Bool × (List (ByteArray × Int)) × (List (ByteArray × Int)) × (List (ByteArray × Int)))),weirref14_Lay.l0 y9 a0_1c1v a1 t138 t139 t140 t141 t142 t143 t144 t148 t152 t157 t161 t165 t169 t173 = some e177 → e177 = v90 → ∀ (l176 : List Value) (A145 : Option Addr) (c146 : Nat) (A149 : Option Addr) (c150 : Nat) (A153 : Option Addr) (c154 : Nat) (h156 : Nat → Option Addr × Nat) (A158 : Option Addr) (c159 : Nat) (A162 : Option Addr) (c163 : Nat) (A166 : Option Addr) (c167 : Nat) (A170 : Option Addr) (c171 : Nat) (w174 : World) (hS175 : St w0 Z (xblk b1 32 ([.string y9,.func (.func 28) #[] #[.pointer (some ⟨ba0_1c0,0,none⟩),.pointer (some ⟨ba0_1c1,0,none⟩)],.func (.func 31) #[] #[.pointer (some ⟨ba0_1c1,0,none⟩),.pointer (some ⟨ba0_1c0,0,none⟩)],.func (.func 32) #[] #[.pointer (some ⟨ba0_1c0,0,none⟩),.pointer (some ⟨ba0_1c1,0,none⟩)]])::xblk ba0_1c0 33 ([.pointer (some ⟨ba0_1c0v,0,none⟩)])::xblk ba0_1c0v 49 ([.map (some ba0_1c0vv_0),.map (some ba0_1c0vv_1),.map (some ba0_1c0vv_2),.bool t139])::xmap ba0_1c0vv_0 (t140.map (kv Value.string (Value.int .i64)))::xmap ba0_1c0vv_1 (t141.map (kv Value.string (Value.int .i64)))::xmap ba0_1c0vv_2 (t142.map (kv Value.string (Value.int .i64)))::xblk ba0_1c1 26 ([.slice Aa0_1c1v_0 a0_1c1v.Next.length ca0_1c1v_0,.slice Aa0_1c1v_1 a0_1c1v.End.length ca0_1c1v_1,.slice Aa0_1c1v_2 a0_1c1v.Value.length ca0_1c1v_2,.int .i64 a0_1c1v.Start])::xblk b5 43 ([.slice none 0 0,.slice none 0 0,.slice none 0 0,.slice none 0 0,.slice none 0 0,.slice none 0 0,.slice none 0 0,.bool false,.map none])::xblk b14 43 ([.slice A145 t144.length c146,.slice A149 t148.length c150,.slice A153 t152.length c154,.slice A158 t157.length c159,.slice A162 t161.length c163,.slice A166 t165.length c167,.slice A170 t169.length c171,.bool t173,.map (some b9)])::xrow A145 c146 9 1 (t144.flatMap encS)::xrow A149 c150 3 1 (t148.flatMap (encI .i64))::xrr A153 c154 93 h156 95 4 enc_weirref14_Move t152::xrow A158 c159 4 1 (t157.flatMap encB)::xrow A162 c163 84 49 (t161.flatMap enc_api_Final)::xrow A166 c167 3 1 (t165.flatMap (encI .i64))::xrow A170 c171 88 3 (t169.flatMap enc_api_Pick)::xmap b9 (t143.map (kv Value.string (Value.int .i64)))::fs) w174),Runs Try.prog (fx 10) td97 (fill (mk 93 [(1,.int .i64 a1),(2,.pointer (some ⟨b1,0,none⟩)),(4,.pointer (some ⟨b5,0,none⟩)),(5,.pointer (some ⟨b14,0,none⟩)),(6,.int .i64 t138)]) l176) w174 R:=by
   refine weirref14_Lay.l0.partial_correctness y9 a0_1c1v a1 (fun t138 t139 t140 t141 t142 t143 t144 t148 t152 t157 t161 t165 t169 t173 e177 => e177 = v90 → ∀ (l176 : List Value) (A145 : Option Addr) (c146 : Nat) (A149 : Option Addr) (c150 : Nat) (A153 : Option Addr) (c154 : Nat) (h156 : Nat → Option Addr × Nat) (A158 : Option Addr) (c159 : Nat) (A162 : Option Addr) (c163 : Nat) (A166 : Option Addr) (c167 : Nat) (A170 : Option Addr) (c171 : Nat) (w174 : World) (hS175 : St w0 Z (xblk b1 32 ([.string y9,.func (.func 28) #[] #[.pointer (some ⟨ba0_1c0,0,none⟩),.pointer (some ⟨ba0_1c1,0,none⟩)],.func (.func 31) #[] #[.pointer (some ⟨ba0_1c1,0,none⟩),.pointer (some ⟨ba0_1c0,0,none⟩)],.func (.func 32) #[] #[.pointer (some ⟨ba0_1c0,0,none⟩),.pointer (some ⟨ba0_1c1,0,none⟩)]])::xblk ba0_1c0 33 ([.pointer (some ⟨ba0_1c0v,0,none⟩)])::xblk ba0_1c0v 49 ([.map (some ba0_1c0vv_0),.map (some ba0_1c0vv_1),.map (some ba0_1c0vv_2),.bool t139])::xmap ba0_1c0vv_0 (t140.map (kv Value.string (Value.int .i64)))::xmap ba0_1c0vv_1 (t141.map (kv Value.string (Value.int .i64)))::xmap ba0_1c0vv_2 (t142.map (kv Value.string (Value.int .i64)))::xblk ba0_1c1 26 ([.slice Aa0_1c1v_0 a0_1c1v.Next.length ca0_1c1v_0,.slice Aa0_1c1v_1 a0_1c1v.End.length ca0_1c1v_1,.slice Aa0_1c1v_2 a0_1c1v.Value.length ca0_1c1v_2,.int .i64 a0_1c1v.Start])::xblk b5 43 ([.slice none 0 0,.slice none 0 0,.slice none 0 0,.slice none 0 0,.slice none 0 0,.slice none 0 0,.slice none 0 0,.bool false,.map none])::xblk b14 43 ([.slice A145 t144.length c146,.slice A149 t148.length c150,.slice A153 t152.length c154,.slice A158 t157.length c159,.slice A162 t161.length c163,.slice A166 t165.length c167,.slice A170 t169.length c171,.bool t173,.map (some b9)])::xrow A145 c146 9 1 (t144.flatMap encS)::xrow A149 c150 3 1 (t148.flatMap (encI .i64))::xrr A153 c154 93 h156 95 4 enc_weirref14_Move t152::xrow A158 c159 4 1 (t157.flatMap encB)::xrow A162 c163 84 49 (t161.flatMap enc_api_Final)::xrow A166 c167 3 1 (t165.flatMap (encI .i64))::xrow A170 c171 88 3 (t169.flatMap enc_api_Pick)::xmap b9 (t143.map (kv Value.string (Value.int .i64)))::fs) w174),Runs Try.prog (fx 10) td97 (fill (mk 93 [(1,.int .i64 a1),(2,.pointer (some ⟨b1,0,none⟩)),(4,.pointer (some ⟨b5,0,none⟩)),(5,.pointer (some ⟨b14,0,none⟩)),(6,.int .i64 t138)]) l176) w174 R) ?_
   intro rec181 ih180 t138 t139 t140 t141 t142 t143 t144 t148 t152 t157 t161 t165 t169 t173 e177 hb179 he178 l176 A145 c146 A149 c150 A153 c154 h156 A158 c159 A162 c163 A166 c167 A170 c171 w174 hS175
   refine sR 5 (.inRegion (opsOf p10_10) [2,3,4]::.code p10_11::.code (cd10 [1,1,1,0,1,0,0,1])::td96) ?_
   refine rL1 36 (.tmp 21) 0 (hS175.blk 8 rfl) ?_
   refine sI 2 (.inRegion (opsOf p10_10) []::.code p10_11::.code (cd10 [1,1,1,0,1,0,0,1])::td96) 24 hb179 (fun hp185 => ?_) fun hp580 => ?_
   ·refine sR 6 (.code p10_13::.code (cd10 [1,1,1,0,1,0,0,1,0,0,1])::td99) ?_
    refine r_drawn3 (C:=St w0 Z (xblk b1 32 ([.string y9,.func (.func 28) #[] #[.pointer (some ⟨ba0_1c0,0,none⟩),.pointer (some ⟨ba0_1c1,0,none⟩)],.func (.func 31) #[] #[.pointer (some ⟨ba0_1c1,0,none⟩),.pointer (some ⟨ba0_1c0,0,none⟩)],.func (.func 32) #[] #[.pointer (some ⟨ba0_1c0,0,none⟩),.pointer (some ⟨ba0_1c1,0,none⟩)]])::xblk ba0_1c0 33 ([.pointer (some ⟨ba0_1c0v,0,none⟩)])::xblk ba0_1c0v 49 ([.map (some ba0_1c0vv_0),.map (some ba0_1c0vv_1),.map (some ba0_1c0vv_2),.bool t139])::xmap ba0_1c0vv_0 (t140.map (kv Value.string (Value.int .i64)))::xmap ba0_1c0vv_1 (t141.map (kv Value.string (Value.int .i64)))::xmap ba0_1c0vv_2 (t142.map (kv Value.string (Value.int .i64)))::xblk ba0_1c1 26 ([.slice Aa0_1c1v_0 a0_1c1v.Next.length ca0_1c1v_0,.slice Aa0_1c1v_1 a0_1c1v.End.length ca0_1c1v_1,.slice Aa0_1c1v_2 a0_1c1v.Value.length ca0_1c1v_2,.int .i64 a0_1c1v.Start])::xblk b5 43 ([.slice none 0 0,.slice none 0 0,.slice none 0 0,.slice none 0 0,.slice none 0 0,.slice none 0 0,.slice none 0 0,.bool false,.map none])::xblk b14 43 ([.slice A145 t144.length c146,.slice A149 t148.length c150,.slice A153 t152.length c154,.slice A158 t157.length c159,.slice A162 t161.length c163,.slice A166 t165.length c167,.slice A170 t169.length c171,.bool t173,.map (some b9)])::xrow A145 c146 9 1 (t144.flatMap encS)::xrow A149 c150 3 1 (t148.flatMap (encI .i64))::xrr A153 c154 93 h156 95 4 enc_weirref14_Move t152::xrow A158 c159 4 1 (t157.flatMap encB)::xrow A162 c163 84 49 (t161.flatMap enc_api_Final)::xrow A166 c167 3 1 (t165.flatMap (encI .i64))::xrow A170 c171 88 3 (t169.flatMap enc_api_Pick)::xmap b9 (t143.map (kv Value.string (Value.int .i64)))::fs)) (c:=p10_13) (id:=6) (by kernel_rfl) (by kernel_rfl) 7 (Nat.le_of_ble_eq_true (by kernel_rfl)) (by kernel_rfl) (by kernel_rfl) (by kernel_rfl) (is:=[0,1,2,3,4,5,6]) (rest:=[7,8]) (by kernel_rfl) (by kernel_rfl) hS175.drew ?_
    refine qR 1 (rg 1 6) ?_
    refine qL1 28 (.tmp 27) 1 (fun w hC => (hC.blk 0 rfl)) ?_
    refine qR 1 (rg 3 4) ?_
    refine qL1 36 (.tmp 29) 0 (fun w hC => (hC.blk 8 rfl)) ?_
    refine qR 1 [5,6] ?_
    obtain ⟨g186,hp187⟩:=ite_some hp185
    obtain ⟨b188,p189,hA190,-⟩:=(hS175.row 9 rfl).at_ len_encS (by omega) g186.1 g186.2
    refine q_indexAddr (c:=(hd p10_13 7)) (i:=5) (d:=(some 32)) (ty:=0) (t:=36) (e:=9) (n:=t144.length) (cp:=c146) (sz:=1) (kk:=.i64) (x:=(.tmp 30)) (y:=(.tmp 31)) (b:=b188) (o':=p189) (j:=t138) (by kernel_rfl) (by kernel_rfl) (slv (by kernel_rfl) hA190) (by kernel_rfl) (by kernel_rfl) (by kernel_rfl) g186.1 g186.2 ?_
    refine qL1 9 (.tmp 32) 0 (fun w hC => ((hC.row 9 rfl).at2 hA190 len_encS (by omega) g186.1 g186.2)) ?_
    refine Qs.nil ?_
    intro w192 hS193
    obtain ⟨⟨t194,t195,t196⟩,hr199,hp200⟩:=bind_some' hp187
    try dsimp only at hp200
    have hS205:=hS193.pick6
    have hS206:=hS205.pick6
    have hS207:=hS206.pick6
    have hS208:=hS207.pick6
    have hS209:=hS208.pick6
    have hS210:=hS209.pick6
    refine rC (weirlaw14_Net__machine_1.ok hr199 hS210 ha0_1c1v_0 ha0_1c1v_1 ha0_1c1v_2) ?_
    rintro _ w211 ⟨Q197,Q198,rfl,hS212⟩
    refine ⟨_,rfl,?_⟩
    refine sR 8 td102 ?_
    obtain ⟨v213,hv214,hp215⟩:=bind_some' hp200
    have J252 : ∀ (t216 : Bool) (t217 t218 : List (ByteArray × Int)) (t219 : List ByteArray) (t223 : List Int) (t227 : List (List weirref14_Move)) (t232 : List Bool) (t236 : List api_Final) (t240 : List Int) (t244 : List api_Pick) (t248 : Bool) (t249 : List (ByteArray × Int)) (he254 : (t216,t217,t218,t219,t223,t227,t232,t236,t240,t244,t248,t249) = v213) (l253 : List Value) (A220 : Option Addr) (c221 : Nat) (A224 : Option Addr) (c225 : Nat) (A228 : Option Addr) (c229 : Nat) (h231 : Nat → Option Addr × Nat) (A233 : Option Addr) (c234 : Nat) (A237 : Option Addr) (c238 : Nat) (A241 : Option Addr) (c242 : Nat) (A245 : Option Addr) (c246 : Nat) (w250 : World) (hS251 : St w0 Z (xblk b1 32 ([.string y9,.func (.func 28) #[] #[.pointer (some ⟨ba0_1c0,0,none⟩),.pointer (some ⟨ba0_1c1,0,none⟩)],.func (.func 31) #[] #[.pointer (some ⟨ba0_1c1,0,none⟩),.pointer (some ⟨ba0_1c0,0,none⟩)],.func (.func 32) #[] #[.pointer (some ⟨ba0_1c0,0,none⟩),.pointer (some ⟨ba0_1c1,0,none⟩)]])::xblk ba0_1c0 33 ([.pointer (some ⟨ba0_1c0v,0,none⟩)])::xblk ba0_1c0v 49 ([.map (some ba0_1c0vv_0),.map (some ba0_1c0vv_1),.map (some ba0_1c0vv_2),.bool t216])::xmap ba0_1c0vv_0 (t196.map (kv Value.string (Value.int .i64)))::xmap ba0_1c0vv_1 (t217.map (kv Value.string (Value.int .i64)))::xmap ba0_1c0vv_2 (t218.map (kv Value.string (Value.int .i64)))::xblk ba0_1c1 26 ([.slice Aa0_1c1v_0 a0_1c1v.Next.length ca0_1c1v_0,.slice Aa0_1c1v_1 a0_1c1v.End.length ca0_1c1v_1,.slice Aa0_1c1v_2 a0_1c1v.Value.length ca0_1c1v_2,.int .i64 a0_1c1v.Start])::xblk b5 43 ([.slice none 0 0,.slice none 0 0,.slice none 0 0,.slice none 0 0,.slice none 0 0,.slice none 0 0,.slice none 0 0,.bool false,.map none])::xblk b14 43 ([.slice A220 t219.length c221,.slice A224 t223.length c225,.slice A228 t227.length c229,.slice A233 t232.length c234,.slice A237 t236.length c238,.slice A241 t240.length c242,.slice A245 t244.length c246,.bool t248,.map (some b9)])::xrow A220 c221 9 1 (t219.flatMap encS)::xrow A224 c225 3 1 (t223.flatMap (encI .i64))::xrr A228 c229 93 h231 95 4 enc_weirref14_Move t227::xrow A233 c234 4 1 (t232.flatMap encB)::xrow A237 c238 84 49 (t236.flatMap enc_api_Final)::xrow A241 c242 3 1 (t240.flatMap (encI .i64))::xrow A245 c246 88 3 (t244.flatMap enc_api_Pick)::xmap b9 (t249.map (kv Value.string (Value.int .i64)))::fs) w250),Runs Try.prog (fx 10) td99 (fill (mk 93 [(1,.int .i64 a1),(2,.pointer (some ⟨b1,0,none⟩)),(4,.pointer (some ⟨b5,0,none⟩)),(5,.pointer (some ⟨b14,0,none⟩)),(6,.int .i64 t138)]) l253) w250 R:=by
     intro t216 t217 t218 t219 t223 t227 t232 t236 t240 t244 t248 t249 he254 l253 A220 c221 A224 c225 A228 c229 h231 A233 c234 A237 c238 A241 c242 A245 c246 w250 hS251
     subst he254
     try dsimp only at hp215
     refine sR 6 td96 ?_
     refine sR 1 td97 ?_
     exact rF _ (ih180 (IntKind.i64.wrap (t138 + 1)) t216 t196 t217 t218 t249 t219 t223 t227 t232 t236 t240 t244 t248 _ hp215 he178 _ A220 c221 A224 c225 A228 c229 (h231) A233 c234 A237 c238 A241 c242 A245 c246 _ hS251)
    have L298 : ∀ (t255 : Int) (t256 : Bool) (t257 t258 t259 : List (ByteArray × Int)) (t260 : List ByteArray) (t264 : List Int) (t268 : List (List weirref14_Move)) (t273 : List Bool) (t277 : List api_Final) (t281 : List Int) (t285 : List api_Pick) (t289 : Bool) (e293 : (Bool × (List (ByteArray × Int)) × (List (ByteArray × Int)) × (List ByteArray) × (List Int) × (List (List weirref14_Move)) × (List Bool) × (List api_Final) × (List Int) × (List api_Pick) × Bool × (List (ByteArray × Int)))),weirref14_Lay.l1 y9 a0_1c1v a1 t138 t194 t196 t255 t256 t257 t258 t259 t260 t264 t268 t273 t277 t281 t285 t289 = some e293 → e293 = v213 → ∀ (l292 : List Value) (A261 : Option Addr) (c262 : Nat) (A265 : Option Addr) (c266 : Nat) (A269 : Option Addr) (c270 : Nat) (h272 : Nat → Option Addr × Nat) (A274 : Option Addr) (c275 : Nat) (A278 : Option Addr) (c279 : Nat) (A282 : Option Addr) (c283 : Nat) (A286 : Option Addr) (c287 : Nat) (w290 : World) (hS291 : St w0 Z (xblk b1 32 ([.string y9,.func (.func 28) #[] #[.pointer (some ⟨ba0_1c0,0,none⟩),.pointer (some ⟨ba0_1c1,0,none⟩)],.func (.func 31) #[] #[.pointer (some ⟨ba0_1c1,0,none⟩),.pointer (some ⟨ba0_1c0,0,none⟩)],.func (.func 32) #[] #[.pointer (some ⟨ba0_1c0,0,none⟩),.pointer (some ⟨ba0_1c1,0,none⟩)]])::xblk ba0_1c0 33 ([.pointer (some ⟨ba0_1c0v,0,none⟩)])::xblk ba0_1c0v 49 ([.map (some ba0_1c0vv_0),.map (some ba0_1c0vv_1),.map (some ba0_1c0vv_2),.bool t256])::xmap ba0_1c0vv_0 (t196.map (kv Value.string (Value.int .i64)))::xmap ba0_1c0vv_1 (t258.map (kv Value.string (Value.int .i64)))::xmap ba0_1c0vv_2 (t257.map (kv Value.string (Value.int .i64)))::xblk ba0_1c1 26 ([.slice Aa0_1c1v_0 a0_1c1v.Next.length ca0_1c1v_0,.slice Aa0_1c1v_1 a0_1c1v.End.length ca0_1c1v_1,.slice Aa0_1c1v_2 a0_1c1v.Value.length ca0_1c1v_2,.int .i64 a0_1c1v.Start])::xblk b5 43 ([.slice none 0 0,.slice none 0 0,.slice none 0 0,.slice none 0 0,.slice none 0 0,.slice none 0 0,.slice none 0 0,.bool false,.map none])::xblk b14 43 ([.slice A261 t260.length c262,.slice A265 t264.length c266,.slice A269 t268.length c270,.slice A274 t273.length c275,.slice A278 t277.length c279,.slice A282 t281.length c283,.slice A286 t285.length c287,.bool t289,.map (some b9)])::xrow A261 c262 9 1 (t260.flatMap encS)::xrow A265 c266 3 1 (t264.flatMap (encI .i64))::xrr A269 c270 93 h272 95 4 enc_weirref14_Move t268::xrow A274 c275 4 1 (t273.flatMap encB)::xrow A278 c279 84 49 (t277.flatMap enc_api_Final)::xrow A282 c283 3 1 (t281.flatMap (encI .i64))::xrow A286 c287 88 3 (t285.flatMap enc_api_Pick)::xmap b9 (t259.map (kv Value.string (Value.int .i64)))::xrow Q197 Q198 88 3 (t194.flatMap enc_api_Pick)::fs) w290),Runs Try.prog (fx 10) td102 (fill (mk 93 [(1,.int .i64 a1),(2,.pointer (some ⟨b1,0,none⟩)),(4,.pointer (some ⟨b5,0,none⟩)),(5,.pointer (some ⟨b14,0,none⟩)),(6,.int .i64 t138),(7,.slice Q197 t194.length Q198),(8,.int .i64 t255)]) l292) w290 R:=by
     refine weirref14_Lay.l1.partial_correctness y9 a0_1c1v a1 t138 t194 t196 (fun t255 t256 t257 t258 t259 t260 t264 t268 t273 t277 t281 t285 t289 e293 => e293 = v213 → ∀ (l292 : List Value) (A261 : Option Addr) (c262 : Nat) (A265 : Option Addr) (c266 : Nat) (A269 : Option Addr) (c270 : Nat) (h272 : Nat → Option Addr × Nat) (A274 : Option Addr) (c275 : Nat) (A278 : Option Addr) (c279 : Nat) (A282 : Option Addr) (c283 : Nat) (A286 : Option Addr) (c287 : Nat) (w290 : World) (hS291 : St w0 Z (xblk b1 32 ([.string y9,.func (.func 28) #[] #[.pointer (some ⟨ba0_1c0,0,none⟩),.pointer (some ⟨ba0_1c1,0,none⟩)],.func (.func 31) #[] #[.pointer (some ⟨ba0_1c1,0,none⟩),.pointer (some ⟨ba0_1c0,0,none⟩)],.func (.func 32) #[] #[.pointer (some ⟨ba0_1c0,0,none⟩),.pointer (some ⟨ba0_1c1,0,none⟩)]])::xblk ba0_1c0 33 ([.pointer (some ⟨ba0_1c0v,0,none⟩)])::xblk ba0_1c0v 49 ([.map (some ba0_1c0vv_0),.map (some ba0_1c0vv_1),.map (some ba0_1c0vv_2),.bool t256])::xmap ba0_1c0vv_0 (t196.map (kv Value.string (Value.int .i64)))::xmap ba0_1c0vv_1 (t258.map (kv Value.string (Value.int .i64)))::xmap ba0_1c0vv_2 (t257.map (kv Value.string (Value.int .i64)))::xblk ba0_1c1 26 ([.slice Aa0_1c1v_0 a0_1c1v.Next.length ca0_1c1v_0,.slice Aa0_1c1v_1 a0_1c1v.End.length ca0_1c1v_1,.slice Aa0_1c1v_2 a0_1c1v.Value.length ca0_1c1v_2,.int .i64 a0_1c1v.Start])::xblk b5 43 ([.slice none 0 0,.slice none 0 0,.slice none 0 0,.slice none 0 0,.slice none 0 0,.slice none 0 0,.slice none 0 0,.bool false,.map none])::xblk b14 43 ([.slice A261 t260.length c262,.slice A265 t264.length c266,.slice A269 t268.length c270,.slice A274 t273.length c275,.slice A278 t277.length c279,.slice A282 t281.length c283,.slice A286 t285.length c287,.bool t289,.map (some b9)])::xrow A261 c262 9 1 (t260.flatMap encS)::xrow A265 c266 3 1 (t264.flatMap (encI .i64))::xrr A269 c270 93 h272 95 4 enc_weirref14_Move t268::xrow A274 c275 4 1 (t273.flatMap encB)::xrow A278 c279 84 49 (t277.flatMap enc_api_Final)::xrow A282 c283 3 1 (t281.flatMap (encI .i64))::xrow A286 c287 88 3 (t285.flatMap enc_api_Pick)::xmap b9 (t259.map (kv Value.string (Value.int .i64)))::xrow Q197 Q198 88 3 (t194.flatMap enc_api_Pick)::fs) w290),Runs Try.prog (fx 10) td102 (fill (mk 93 [(1,.int .i64 a1),(2,.pointer (some ⟨b1,0,none⟩)),(4,.pointer (some ⟨b5,0,none⟩)),(5,.pointer (some ⟨b14,0,none⟩)),(6,.int .i64 t138),(7,.slice Q197 t194.length Q198),(8,.int .i64 t255)]) l292) w290 R) ?_
     intro rec297 ih296 t255 t256 t257 t258 t259 t260 t264 t268 t273 t277 t281 t285 t289 e293 hb295 he294 l292 A261 c262 A265 c266 A269 c270 h272 A274 c275 A278 c279 A282 c283 A286 c287 w290 hS291
     refine sI 7 (.inRegion (opsOf (cd10 [1,1,1,0,1,0,0,1,0,0,1,1,0,0,0,0])) []::.code (cd10 [1,1,1,0,1,0,0,1,0,0,1,1,0,0,0,1])::.code (cd10 [1,1,1,0,1,0,0,1,0,0,1,1,0,0,1])::td101) 38 hb295 (fun hp301 => ?_) fun hp560 => ?_
     ·refine sR 6 (.code p10_20::.code (cd10 [1,1,1,0,1,0,0,1,0,0,1,1,0,0,1,0,0,1])::td104) ?_
      have hS302:=hS291.pick17
      have hS303:=hS302.pick10
      have hS304:=hS303.pick10
      have hS305:=hS304.pick9
      have hS306:=hS305.pick9
      have hS307:=hS306.pick9
      have hS308:=hS307.pick9
      have hS309:=hS308.pick9
      have hS310:=hS309.pick9
      have hS311:=hS310.pick9
      generalize hg313 : (xblk b5 43 ([.slice none 0 0,.slice none 0 0,.slice none 0 0,.slice none 0 0,.slice none 0 0,.slice none 0 0,.slice none 0 0,.bool false,.map none])::xrow A265 c266 3 1 (t264.flatMap (encI .i64))::xrr A269 c270 93 h272 95 4 enc_weirref14_Move t268::xrow A274 c275 4 1 (t273.flatMap encB)::xrow A278 c279 84 49 (t277.flatMap enc_api_Final)::xrow A282 c283 3 1 (t281.flatMap (encI .i64))::xrow A286 c287 88 3 (t285.flatMap enc_api_Pick)::xmap b9 (t259.map (kv Value.string (Value.int .i64)))::fs) = gs312 at hS311
      obtain ⟨g314,hp315⟩:=ite_some hp301
      obtain ⟨b316,p317,hA318,-⟩:=(hS311.row 8 rfl).at_ len_encS (by omega) g314.1 g314.2
      obtain ⟨g320,hp321⟩:=ite_some hp315
      obtain ⟨b322,p323,hA324,-⟩:=(hS311.row 9 rfl).at_ len_api_Pick (by omega) g320.1 g320.2
      obtain ⟨⟨t326,t327,t328,t329⟩,hr330,hp331⟩:=bind_some' hp321
      try dsimp only at hp331
      refine r_drawnP (S:=Option Unit) (dn:=(fun (st : Option Unit) k => [st.isSome].getD k true)) (C:=(fun st w' => match st with | none => St w0 Z (xblk b1 32 ([.string y9,.func (.func 28) #[] #[.pointer (some ⟨ba0_1c0,0,none⟩),.pointer (some ⟨ba0_1c1,0,none⟩)],.func (.func 31) #[] #[.pointer (some ⟨ba0_1c1,0,none⟩),.pointer (some ⟨ba0_1c0,0,none⟩)],.func (.func 32) #[] #[.pointer (some ⟨ba0_1c0,0,none⟩),.pointer (some ⟨ba0_1c1,0,none⟩)]])::xblk ba0_1c0 33 ([.pointer (some ⟨ba0_1c0v,0,none⟩)])::xblk ba0_1c0v 49 ([.map (some ba0_1c0vv_0),.map (some ba0_1c0vv_1),.map (some ba0_1c0vv_2),.bool t256])::xmap ba0_1c0vv_0 (t196.map (kv Value.string (Value.int .i64)))::xmap ba0_1c0vv_1 (t258.map (kv Value.string (Value.int .i64)))::xmap ba0_1c0vv_2 (t257.map (kv Value.string (Value.int .i64)))::xblk ba0_1c1 26 ([.slice Aa0_1c1v_0 a0_1c1v.Next.length ca0_1c1v_0,.slice Aa0_1c1v_1 a0_1c1v.End.length ca0_1c1v_1,.slice Aa0_1c1v_2 a0_1c1v.Value.length ca0_1c1v_2,.int .i64 a0_1c1v.Start])::xblk b14 43 ([.slice A261 t260.length c262,.slice A265 t264.length c266,.slice A269 t268.length c270,.slice A274 t273.length c275,.slice A278 t277.length c279,.slice A282 t281.length c283,.slice A286 t285.length c287,.bool t289,.map (some b9)])::xrow A261 c262 9 1 (t260.flatMap encS)::xrow Q197 Q198 88 3 (t194.flatMap enc_api_Pick)::gs312) w' | some x332 => St w0 Z (xblk b1 32 ([.string y9,.func (.func 28) #[] #[.pointer (some ⟨ba0_1c0,0,none⟩),.pointer (some ⟨ba0_1c1,0,none⟩)],.func (.func 31) #[] #[.pointer (some ⟨ba0_1c1,0,none⟩),.pointer (some ⟨ba0_1c0,0,none⟩)],.func (.func 32) #[] #[.pointer (some ⟨ba0_1c0,0,none⟩),.pointer (some ⟨ba0_1c1,0,none⟩)]])::xblk ba0_1c0 33 ([.pointer (some ⟨ba0_1c0v,0,none⟩)])::xblk ba0_1c0v 49 ([.map (some ba0_1c0vv_0),.map (some ba0_1c0vv_1),.map (some ba0_1c0vv_2),.bool t328])::xmap ba0_1c0vv_0 (t196.map (kv Value.string (Value.int .i64)))::xmap ba0_1c0vv_1 (t258.map (kv Value.string (Value.int .i64)))::xmap ba0_1c0vv_2 (t329.map (kv Value.string (Value.int .i64)))::xblk ba0_1c1 26 ([.slice Aa0_1c1v_0 a0_1c1v.Next.length ca0_1c1v_0,.slice Aa0_1c1v_1 a0_1c1v.End.length ca0_1c1v_1,.slice Aa0_1c1v_2 a0_1c1v.Value.length ca0_1c1v_2,.int .i64 a0_1c1v.Start])::xblk b14 43 ([.slice A261 t260.length c262,.slice A265 t264.length c266,.slice A269 t268.length c270,.slice A274 t273.length c275,.slice A278 t277.length c279,.slice A282 t281.length c283,.slice A286 t285.length c287,.bool t289,.map (some b9)])::xrow A261 c262 9 1 (t260.flatMap encS)::xrow Q197 Q198 88 3 (t194.flatMap enc_api_Pick)::gs312) w')) (v:=(fun st => match st with | none => [.pointer (some ⟨b1,2,none⟩),.func (.func 31) #[] #[.pointer (some ⟨ba0_1c1,0,none⟩),.pointer (some ⟨ba0_1c0,0,none⟩)],.pointer (some ⟨b14,0,none⟩),.slice A261 t260.length c262,.int .i64 t138,.pointer (some ⟨b316,p317 + t138.toNat * 1,none⟩),.string (gt t260 t138),.slice Q197 t194.length Q198,.int .i64 t255,.pointer (some ⟨b322,p323 + t255.toNat * 3,none⟩),.agg (enc_api_Pick (gt t194 t255)).toArray,undef,undef,undef,undef,undef,undef] | some x332 => [.pointer (some ⟨b1,2,none⟩),.func (.func 31) #[] #[.pointer (some ⟨ba0_1c1,0,none⟩),.pointer (some ⟨ba0_1c0,0,none⟩)],.pointer (some ⟨b14,0,none⟩),.slice A261 t260.length c262,.int .i64 t138,.pointer (some ⟨b316,p317 + t138.toNat * 1,none⟩),.string (gt t260 t138),.slice Q197 t194.length Q198,.int .i64 t255,.pointer (some ⟨b322,p323 + t255.toNat * 3,none⟩),.agg (enc_api_Pick (gt t194 t255)).toArray,.tuple #[.string t326,.bool t327],.tuple #[.string t326,.bool t327],.string t326,.bool t327,.string t326,.bool t327])) (c:=p10_20) (id:=10) none 0 17 [11] [[],[],[],[],[],[],[],[],[],[],[],[],[0],[0],[0],[0],[0]] [[],[0],[],[],[],[],[0],[],[],[],[0],[],[],[],[],[],[]] [] [true,true,true,true,true,true,true,true,true,true,true,true,true,true,true,true,true] (by kernel_rfl) (by kernel_rfl) (by kernel_rfl) (by kernel_rfl) (by kernel_rfl) (by kernel_rfl) (by kernel_rfl) (by kernel_rfl) (by kernel_rfl) (fun k hk => match k,hk with | 0,_ => rfl | k + 1,hk => absurd hk (by simp)) hS311.drew ?_ (fun k hk => match k,hk with | 0,_ => rfl | k + 1,hk => absurd hk (by simp)) ?_ ?_ ?_
      ·intro i hi st w hC hd
       match i,hi with
       | 0,_ => (show _ = _; kernel_rfl)
       | 1,_ => (show _ = _; kernel_rfl)
       | 2,_ => (show _ = _; kernel_rfl)
       | 3,_ => (show _ = _; kernel_rfl)
       | 4,_ => (show _ = _; kernel_rfl)
       | 5,_ => (show _ = _; kernel_rfl)
       | 6,_ => (show _ = _; kernel_rfl)
       | 7,_ => (show _ = _; kernel_rfl)
       | 8,_ => (show _ = _; kernel_rfl)
       | 9,_ => (show _ = _; kernel_rfl)
       | 10,_ => (show _ = _; kernel_rfl)
       | 11,_ => (show _ = _; kernel_rfl)
       | 12,_ => (show _ = _; kernel_rfl)
       | 13,_ => (show _ = _; kernel_rfl)
       | 14,_ => (show _ = _; kernel_rfl)
       | 15,_ => (show _ = _; kernel_rfl)
       | 16,_ => (show _ = _; kernel_rfl)
       | i + 17,hi => exact absurd hi (by omega)
      ·intro i hi he st w hC hd hu
       match i,hi,he with
       | 0,_,_ =>
        rcases st with _ | x332
        ·dsimp only at hC
         exact dG (.pointer (some ⟨b1,2,none⟩)) hC
        ·dsimp only at hC
         exact dG (.pointer (some ⟨b1,2,none⟩)) hC
       | 1,_,_ =>
        rcases st with _ | x332
        ·dsimp only at hC
         exact ⟨fun _ => does_run (x_load (t:=29) (x:=(.tmp 42)) (p:=⟨b1,2,none⟩) (v:=.func (.func 31) #[] #[.pointer (some ⟨ba0_1c1,0,none⟩),.pointer (some ⟨ba0_1c0,0,none⟩)]) (by kernel_rfl) (loads_at 2 (hC.blk 0 rfl) (by kernel_rfl) (by kernel_rfl)) (by kernel_rfl)) rfl hC,fun h => absurd h (by decide)⟩
        ·exact Bool.noConfusion (hu 0 (by decide))
       | 2,_,_ =>
        rcases st with _ | x332
        ·dsimp only at hC
         exact dG (.pointer (some ⟨b14,0,none⟩)) hC
        ·dsimp only at hC
         exact dG (.pointer (some ⟨b14,0,none⟩)) hC
       | 3,_,_ =>
        rcases st with _ | x332
        ·dsimp only at hC
         exact ⟨fun _ => does_run (x_load (t:=36) (x:=(.tmp 44)) (p:=⟨b14,0,none⟩) (v:=.slice A261 t260.length c262) (by kernel_rfl) (loads_at 0 (hC.blk 7 rfl) (by kernel_rfl) (by kernel_rfl)) (by kernel_rfl)) rfl hC,fun h => absurd h (by decide)⟩
        ·dsimp only at hC
         exact ⟨fun _ => does_run (x_load (t:=36) (x:=(.tmp 44)) (p:=⟨b14,0,none⟩) (v:=.slice A261 t260.length c262) (by kernel_rfl) (loads_at 0 (hC.blk 7 rfl) (by kernel_rfl) (by kernel_rfl)) (by kernel_rfl)) rfl hC,fun h => absurd h (by decide)⟩
       | 4,_,_ =>
        rcases st with _ | x332
        ·dsimp only at hC
         exact dG (.int .i64 t138) hC
        ·dsimp only at hC
         exact dG (.int .i64 t138) hC
       | 5,_,_ =>
        rcases st with _ | x332
        ·dsimp only at hC
         exact ⟨fun _ => does_run (x_indexAddr (t:=36) (e:=9) (x:=(.tmp 45)) (y:=(.tmp 46)) (b:=b316) (o':=p317) (n:=t260.length) (cp:=c262) (sz:=1) (kk:=.i64) (j:=t138) (slv (by kernel_rfl) hA318) (by kernel_rfl) (by kernel_rfl) (by kernel_rfl) g314.1 g314.2 (by kernel_rfl)) rfl hC,fun h => absurd h (by decide)⟩
        ·dsimp only at hC
         exact ⟨fun _ => does_run (x_indexAddr (t:=36) (e:=9) (x:=(.tmp 45)) (y:=(.tmp 46)) (b:=b316) (o':=p317) (n:=t260.length) (cp:=c262) (sz:=1) (kk:=.i64) (j:=t138) (slv (by kernel_rfl) hA318) (by kernel_rfl) (by kernel_rfl) (by kernel_rfl) g314.1 g314.2 (by kernel_rfl)) rfl hC,fun h => absurd h (by decide)⟩
       | 6,_,_ =>
        rcases st with _ | x332
        ·dsimp only at hC
         exact ⟨fun _ => does_run (x_load (t:=9) (x:=(.tmp 47)) (p:=⟨b316,p317 + t138.toNat * 1,none⟩) (v:=.string (gt t260 t138)) (by kernel_rfl) (loads_at 0 ((hC.row 8 rfl).at2 hA318 len_encS (by omega) g314.1 g314.2) (by kernel_rfl) (by kernel_rfl)) (by kernel_rfl)) rfl hC,fun h => absurd h (by decide)⟩
        ·exact Bool.noConfusion (hu 0 (by decide))
       | 7,_,_ =>
        rcases st with _ | x332
        ·dsimp only at hC
         exact dG (.slice Q197 t194.length Q198) hC
        ·dsimp only at hC
         exact dG (.slice Q197 t194.length Q198) hC
       | 8,_,_ =>
        rcases st with _ | x332
        ·dsimp only at hC
         exact dG (.int .i64 t255) hC
        ·dsimp only at hC
         exact dG (.int .i64 t255) hC
       | 9,_,_ =>
        rcases st with _ | x332
        ·dsimp only at hC
         exact ⟨fun _ => does_run (x_indexAddr (t:=40) (e:=88) (x:=(.tmp 49)) (y:=(.tmp 50)) (b:=b322) (o':=p323) (n:=t194.length) (cp:=Q198) (sz:=3) (kk:=.i64) (j:=t255) (slv (by kernel_rfl) hA324) (by kernel_rfl) (by kernel_rfl) (by kernel_rfl) g320.1 g320.2 (by kernel_rfl)) rfl hC,fun h => absurd h (by decide)⟩
        ·dsimp only at hC
         exact ⟨fun _ => does_run (x_indexAddr (t:=40) (e:=88) (x:=(.tmp 49)) (y:=(.tmp 50)) (b:=b322) (o':=p323) (n:=t194.length) (cp:=Q198) (sz:=3) (kk:=.i64) (j:=t255) (slv (by kernel_rfl) hA324) (by kernel_rfl) (by kernel_rfl) (by kernel_rfl) g320.1 g320.2 (by kernel_rfl)) rfl hC,fun h => absurd h (by decide)⟩
       | 10,_,_ =>
        rcases st with _ | x332
        ·dsimp only at hC
         exact ⟨fun _ => does_run (x_load (t:=88) (x:=(.tmp 51)) (p:=⟨b322,p323 + t255.toNat * 3,none⟩) (v:=.agg (enc_api_Pick (gt t194 t255)).toArray) (by kernel_rfl) (loads_agg ((hC.row 9 rfl).at2 hA324 len_api_Pick (by omega) g320.1 g320.2) (by kernel_rfl) (by kernel_rfl)) (by kernel_rfl)) rfl hC,fun h => absurd h (by decide)⟩
        ·exact Bool.noConfusion (hu 0 (by decide))
       | 11,_,he => exact absurd he (by decide)
       | 12,_,_ =>
        rcases st with _ | x332
        ·exact Bool.noConfusion (hd 0 (by decide))
        ·dsimp only at hC
         exact dG (.tuple #[.string t326,.bool t327]) hC
       | 13,_,_ =>
        rcases st with _ | x332
        ·exact Bool.noConfusion (hd 0 (by decide))
        ·dsimp only at hC
         exact dG (.string t326) hC
       | 14,_,_ =>
        rcases st with _ | x332
        ·exact Bool.noConfusion (hd 0 (by decide))
        ·dsimp only at hC
         exact dG (.bool t327) hC
       | 15,_,_ =>
        rcases st with _ | x332
        ·exact Bool.noConfusion (hd 0 (by decide))
        ·dsimp only at hC
         exact dG (.string t326) hC
       | 16,_,_ =>
        rcases st with _ | x332
        ·exact Bool.noConfusion (hd 0 (by decide))
        ·dsimp only at hC
         exact dG (.bool t327) hC
       | i + 17,hi,_ => exact absurd hi (by omega)
      ·intro k hk st w hC hr hm
       match k,hk with
       | 0,_ =>
        rcases st with _ | x332
        ·dsimp only at hC
         have hS365:=hC.pick5
         have hS366:=hS365.pick5
         have hS367:=hS366.pick5
         have hS368:=hS367.pick5
         have hS369:=hS368.pick5
         have hS370:=hS369.pick6
         refine does_call (g:=31) (args:=#[.string (gt t260 t138),.agg (enc_api_Pick (gt t194 t255)).toArray,.pointer (some ⟨ba0_1c1,0,none⟩),.pointer (some ⟨ba0_1c0,0,none⟩)]) (by kernel_rfl) (weirlaw14_Net__machine_2.ok hr330 hS370 ha0_1c1v_0 ha0_1c1v_1 ha0_1c1v_2) ?_
         rintro e w2 ⟨rfl,h2⟩
         refine ⟨_,rfl,?_⟩
         have hS371:=h2.pick9
         have hS372:=hS371.pick9
         have hS373:=hS372.pick9
         have hS374:=hS373.pick3
         have hS375:=hS374.pick8
         have hS376:=hS375.pick8
         have hS377:=hS376.pick8
         have hS378:=hS377.pick8
         have hS379:=hS378.pick8
         have hS380:=hS379.pick9
         have h2:=hS380
         have h2:=h2.pick9
         have h2:=h2.pick9
         have h2:=h2.pick9
         have h2:=h2.pick9
         have h2:=h2.pick9
         have h2:=h2.pick9
         have h2:=h2.pick9
         have h2:=h2.pick9
         have h2:=h2.pick9
         have h2:=h2.pick9
         refine ⟨some (),rfl,?_,?_,.inr rfl,h2⟩
         ·intro m hne; match m,hne with
          | 0,hne => exact absurd rfl hne
          | m + 1,_ => exact rfl
         ·intro j hj; match j,hj with
          | 0,hj => exact rfl
          | 1,hj => exact rfl
          | 2,hj => exact rfl
          | 3,hj => exact rfl
          | 4,hj => exact rfl
          | 5,hj => exact rfl
          | 6,hj => exact rfl
          | 7,hj => exact rfl
          | 8,hj => exact rfl
          | 9,hj => exact rfl
          | 10,hj => exact rfl
          | 11,hj => exact absurd (by decide) hj
          | 12,hj => exact absurd (by decide) hj
          | 13,hj => exact absurd (by decide) hj
          | 14,hj => exact absurd (by decide) hj
          | 15,hj => exact absurd (by decide) hj
          | 16,hj => exact absurd (by decide) hj
          | j + 17,_ => exact rfl
        ·exact Bool.noConfusion hr
       | k + 1,hk => exact absurd hk (by simp)
      intro st384 w381 hS382 hr383
      rcases st384 with _ | x332
      ·exact Bool.noConfusion (hr383 0 (Nat.lt_of_sub_eq_succ rfl))
      replace hS382 : St w0 Z (xblk b1 32 ([.string y9,.func (.func 28) #[] #[.pointer (some ⟨ba0_1c0,0,none⟩),.pointer (some ⟨ba0_1c1,0,none⟩)],.func (.func 31) #[] #[.pointer (some ⟨ba0_1c1,0,none⟩),.pointer (some ⟨ba0_1c0,0,none⟩)],.func (.func 32) #[] #[.pointer (some ⟨ba0_1c0,0,none⟩),.pointer (some ⟨ba0_1c1,0,none⟩)]])::xblk ba0_1c0 33 ([.pointer (some ⟨ba0_1c0v,0,none⟩)])::xblk ba0_1c0v 49 ([.map (some ba0_1c0vv_0),.map (some ba0_1c0vv_1),.map (some ba0_1c0vv_2),.bool t328])::xmap ba0_1c0vv_0 (t196.map (kv Value.string (Value.int .i64)))::xmap ba0_1c0vv_1 (t258.map (kv Value.string (Value.int .i64)))::xmap ba0_1c0vv_2 (t329.map (kv Value.string (Value.int .i64)))::xblk ba0_1c1 26 ([.slice Aa0_1c1v_0 a0_1c1v.Next.length ca0_1c1v_0,.slice Aa0_1c1v_1 a0_1c1v.End.length ca0_1c1v_1,.slice Aa0_1c1v_2 a0_1c1v.Value.length ca0_1c1v_2,.int .i64 a0_1c1v.Start])::xblk b14 43 ([.slice A261 t260.length c262,.slice A265 t264.length c266,.slice A269 t268.length c270,.slice A274 t273.length c275,.slice A278 t277.length c279,.slice A282 t281.length c283,.slice A286 t285.length c287,.bool t289,.map (some b9)])::xrow A261 c262 9 1 (t260.flatMap encS)::xrow Q197 Q198 88 3 (t194.flatMap enc_api_Pick)::gs312) w381:=hS382
      subst hg313
      refine sI 5 (.inRegion (opsOf (cd10 [1,1,1,0,1,0,0,1,0,0,1,1,0,0,1,0,0,1,0,0])) []::.code (cd10 [1,1,1,0,1,0,0,1,0,0,1,1,0,0,1,0,0,1,0,1])::.code (cd10 [1,1,1,0,1,0,0,1,0,0,1,1,0,0,1,0,0,1,1])::td104) 57 hp331 (fun hp387 => ?_) fun hp406 => ?_
      ·refine sR 8 td101 ?_
       have hS388:=hS382.pick9
       have hS389:=hS388.pick17
       have hS390:=hS389.pick17
       have hS391:=hS390.pick17
       have hS392:=hS391.pick17
       have hS393:=hS392.pick17
       have hS394:=hS393.pick17
       have hS395:=hS394.pick17
       have hS396:=hS395.pick16
       have hS397:=hS396.pick16
       have hS398:=hS397.pick17
       have hS399:=hS398.pick17
       have hS400:=hS399.pick17
       have hS401:=hS400.pick17
       have hS402:=hS401.pick17
       have hS403:=hS402.pick17
       have hS404:=hS403.pick17
       have hS405:=hS404.pick17
       refine sR 1 td102 ?_
       exact rF _ (ih296 (IntKind.i64.wrap (t255 + 1)) t328 t329 (id t258) (id t259) (id t260) (id t264) (id t268) (id t273) (id t277) (id t281) (id t285) (id t289) _ hp387 he294 _ A261 c262 A265 c266 A269 c270 (h272) A274 c275 A278 c279 A282 c283 A286 c287 _ hS405)
      refine sR 4 (.code p10_26::.code (cd10 [1,1,1,0,1,0,0,1,0,0,1,1,0,0,1,0,0,1,1,1])::td104) ?_
      refine r_drawn3 (C:=St w0 Z (xblk b1 32 ([.string y9,.func (.func 28) #[] #[.pointer (some ⟨ba0_1c0,0,none⟩),.pointer (some ⟨ba0_1c1,0,none⟩)],.func (.func 31) #[] #[.pointer (some ⟨ba0_1c1,0,none⟩),.pointer (some ⟨ba0_1c0,0,none⟩)],.func (.func 32) #[] #[.pointer (some ⟨ba0_1c0,0,none⟩),.pointer (some ⟨ba0_1c1,0,none⟩)]])::xblk ba0_1c0 33 ([.pointer (some ⟨ba0_1c0v,0,none⟩)])::xblk ba0_1c0v 49 ([.map (some ba0_1c0vv_0),.map (some ba0_1c0vv_1),.map (some ba0_1c0vv_2),.bool t328])::xmap ba0_1c0vv_0 (t196.map (kv Value.string (Value.int .i64)))::xmap ba0_1c0vv_1 (t258.map (kv Value.string (Value.int .i64)))::xmap ba0_1c0vv_2 (t329.map (kv Value.string (Value.int .i64)))::xblk ba0_1c1 26 ([.slice Aa0_1c1v_0 a0_1c1v.Next.length ca0_1c1v_0,.slice Aa0_1c1v_1 a0_1c1v.End.length ca0_1c1v_1,.slice Aa0_1c1v_2 a0_1c1v.Value.length ca0_1c1v_2,.int .i64 a0_1c1v.Start])::xblk b14 43 ([.slice A261 t260.length c262,.slice A265 t264.length c266,.slice A269 t268.length c270,.slice A274 t273.length c275,.slice A278 t277.length c279,.slice A282 t281.length c283,.slice A286 t285.length c287,.bool t289,.map (some b9)])::xrow A261 c262 9 1 (t260.flatMap encS)::xrow Q197 Q198 88 3 (t194.flatMap enc_api_Pick)::xblk b5 43 ([.slice none 0 0,.slice none 0 0,.slice none 0 0,.slice none 0 0,.slice none 0 0,.slice none 0 0,.slice none 0 0,.bool false,.map none])::xrow A265 c266 3 1 (t264.flatMap (encI .i64))::xrr A269 c270 93 h272 95 4 enc_weirref14_Move t268::xrow A274 c275 4 1 (t273.flatMap encB)::xrow A278 c279 84 49 (t277.flatMap enc_api_Final)::xrow A282 c283 3 1 (t281.flatMap (encI .i64))::xrow A286 c287 88 3 (t285.flatMap enc_api_Pick)::xmap b9 (t259.map (kv Value.string (Value.int .i64)))::fs)) (c:=p10_26) (id:=12) (by kernel_rfl) (by kernel_rfl) 14 (Nat.le_of_ble_eq_true (by kernel_rfl)) (by kernel_rfl) (by kernel_rfl) (by kernel_rfl) (is:=[0,1,2,3,4,5,6,7,8,9,10,11,12,13]) (rest:=[14,15]) (by kernel_rfl) (by kernel_rfl) hS382.drew ?_
      refine qLa 32 (.tmp 2) (fun w hC => (hC.blk 0 rfl)) ?_
      refine qR 3 (rg 4 10) ?_
      refine qL1 37 (.tmp 61) 1 (fun w hC => (hC.blk 7 rfl)) ?_
      refine qR 1 (rg 6 8) ?_
      obtain ⟨g407,hp408⟩:=ite_some hp406
      obtain ⟨b409,p410,hA411,-⟩:=(hS382.row 11 rfl).at_ (len_encI .i64) (by omega) g407.1 g407.2
      refine q_indexAddr (c:=(hd p10_26 14)) (i:=6) (d:=(some 64)) (ty:=0) (t:=37) (e:=3) (n:=t264.length) (cp:=c266) (sz:=1) (kk:=.i64) (x:=(.tmp 62)) (y:=(.tmp 63)) (b:=b409) (o':=p410) (j:=t138) (by kernel_rfl) (by kernel_rfl) (slv (by kernel_rfl) hA411) (by kernel_rfl) (by kernel_rfl) (by kernel_rfl) g407.1 g407.2 ?_
      refine qL1 3 (.tmp 64) 0 (fun w hC => ((hC.row 11 rfl).at2 hA411 (len_encI .i64) (by omega) g407.1 g407.2)) ?_
      refine qR 4 [12,13] ?_
      obtain ⟨g413,hp414⟩:=ite_some hp408
      obtain ⟨b415,p416,hA417,-⟩:=(hS382.row 9 rfl).at_ len_api_Pick (by omega) g413.1 g413.2
      refine q_indexAddr (c:=(hd p10_26 14)) (i:=12) (d:=(some 70)) (ty:=0) (t:=40) (e:=88) (n:=t194.length) (cp:=Q198) (sz:=3) (kk:=.i64) (x:=(.tmp 68)) (y:=(.tmp 69)) (b:=b415) (o':=p416) (j:=t255) (by kernel_rfl) (by kernel_rfl) (slv (by kernel_rfl) hA417) (by kernel_rfl) (by kernel_rfl) (by kernel_rfl) g413.1 g413.2 ?_
      refine qLa 88 (.tmp 70) (fun w hC => ((hC.row 9 rfl).at2 hA417 len_api_Pick (by omega) g413.1 g413.2)) ?_
      refine Qs.nil ?_
      intro w419 hS420
      obtain ⟨⟨t421,t422,t423,t424,t425,t426,t427,t428,t429,t430,t431,t432⟩,hr448,hp449⟩:=bind_some' hp414
      try dsimp only at hp449
      have hS460:=hS420.pick6
      have hS461:=hS460.pick6
      have hS462:=hS461.pick6
      have hS463:=hS462.pick6
      have hS464:=hS463.pick6
      have hS465:=hS464.pick6
      have hS466:=hS465.pick17
      have hS467:=hS466.pick17
      have hS468:=hS467.pick17
      have hS469:=hS468.pick17
      have hS470:=hS469.pick17
      have hS471:=hS470.pick17
      have hS472:=hS471.pick17
      have hS473:=hS472.pick15
      have hS474:=hS473.pick15
      refine rC (weirref14_Graph__put.ok hr448 hS474 ha0_1c1v_0 ha0_1c1v_1 ha0_1c1v_2) ?_
      rintro _ w475 ⟨Q433,Q434,Q435,Q436,Q437,Q438,Q439,Q440,Q441,Q442,Q443,Q444,Q445,Q446,Q447,rfl,hS476⟩
      refine ⟨_,rfl,?_⟩
      refine sI 6 (.inRegion (opsOf (cd10 [1,1,1,0,1,0,0,1,0,0,1,1,0,0,1,0,0,1,1,1,0])) []::.code (cd10 [1,1,1,0,1,0,0,1,0,0,1,1,0,0,1,0,0,1,1,1,1])::td104) 74 hp449 (fun hp479 => ?_) fun hp541 => ?_
      ·refine sR 2 (.code p10_30::td104) ?_
       obtain ⟨g480,hp481⟩:=ite_some hp479
       have hS482:=hS476.pick2
       have hS486:=hS482.rrAt g480
       obtain ⟨b487,p488,hA489⟩:=hS486.atH g480
       have hS490:=hS486.pick18
       have hS491:=hS490.pick10
       have hS492:=hS491.pick4
       have hS493:=hS492.pick4
       have hS494:=hS493.pick4
       generalize hg496 : (xrow Q433 Q434 9 1 (t422.flatMap encS)::xrow Q435 Q436 3 1 (t423.flatMap (encI .i64))::xrow Q440 Q441 4 1 (t425.flatMap encB)::xrow Q442 Q443 84 49 (t426.flatMap enc_api_Final)::xrow Q444 Q445 3 1 (t427.flatMap (encI .i64))::xrow Q446 Q447 88 3 (t428.flatMap enc_api_Pick)::xmap b9 (t430.map (kv Value.string (Value.int .i64)))::xblk ba0_1c0 33 ([.pointer (some ⟨ba0_1c0v,0,none⟩)])::xblk ba0_1c0v 49 ([.map (some ba0_1c0vv_0),.map (some ba0_1c0vv_1),.map (some ba0_1c0vv_2),.bool t431])::xmap ba0_1c0vv_0 (t196.map (kv Value.string (Value.int .i64)))::xmap ba0_1c0vv_1 (t432.map (kv Value.string (Value.int .i64)))::xmap ba0_1c0vv_2 (t329.map (kv Value.string (Value.int .i64)))::xblk ba0_1c1 26 ([.slice Aa0_1c1v_0 a0_1c1v.Next.length ca0_1c1v_0,.slice Aa0_1c1v_1 a0_1c1v.End.length ca0_1c1v_1,.slice Aa0_1c1v_2 a0_1c1v.Value.length ca0_1c1v_2,.int .i64 a0_1c1v.Start])::xblk b1 32 ([.string y9,.func (.func 28) #[] #[.pointer (some ⟨ba0_1c0,0,none⟩),.pointer (some ⟨ba0_1c1,0,none⟩)],.func (.func 31) #[] #[.pointer (some ⟨ba0_1c1,0,none⟩),.pointer (some ⟨ba0_1c0,0,none⟩)],.func (.func 32) #[] #[.pointer (some ⟨ba0_1c0,0,none⟩),.pointer (some ⟨ba0_1c1,0,none⟩)]])::xblk b5 43 ([.slice none 0 0,.slice none 0 0,.slice none 0 0,.slice none 0 0,.slice none 0 0,.slice none 0 0,.slice none 0 0,.bool false,.map none])::fs) = gs495 at hS494
       obtain ⟨g497,hp498⟩:=ite_some hp481
       obtain ⟨b499,p500,hA501,-⟩:=(hS494.row 4 rfl).at_ len_api_Pick (by omega) g497.1 g497.2
       obtain ⟨g509,hp510⟩:=ite_some hp498
       refine r_drawnP (S:=Option Nat × Option (Option Addr × Nat) × Option Unit) (dn:=(fun (st : Option Nat × Option (Option Addr × Nat) × Option Unit) k => [st.1.isSome,st.2.1.isSome,st.2.2.isSome].getD k true)) (C:=(fun st w' => match st with | (none,none,none) => St w0 Z (xrow Q437 Q438 93 1 ((hdl Q439 t424).flatMap encH)::xrow ((Q439 t138.toNat).1) ((Q439 t138.toNat).2) 95 4 ((gt t424 t138).flatMap enc_weirref14_Move)::xels (fun k => False ∨ k = t138.toNat) Q439 95 4 enc_weirref14_Move t424::xblk b14 43 ([.slice Q433 t422.length Q434,.slice Q435 t423.length Q436,.slice Q437 t424.length Q438,.slice Q440 t425.length Q441,.slice Q442 t426.length Q443,.slice Q444 t427.length Q445,.slice Q446 t428.length Q447,.bool t429,.map (some b9)])::xrow Q197 Q198 88 3 (t194.flatMap enc_api_Pick)::gs495) w' | (none,none,some _) => False | (none,some x508,none) => False | (none,some x508,some _) => False | (some b503,none,none) => St w0 Z (xrow (some ⟨b503,0,none⟩) 1 95 4 (([(⟨t421,(gt t194 t255)⟩ : weirref14_Move)] : List weirref14_Move).flatMap enc_weirref14_Move)::xrow Q437 Q438 93 1 ((hdl Q439 t424).flatMap encH)::xrow ((Q439 t138.toNat).1) ((Q439 t138.toNat).2) 95 4 ((gt t424 t138).flatMap enc_weirref14_Move)::xels (fun k => False ∨ k = t138.toNat) Q439 95 4 enc_weirref14_Move t424::xblk b14 43 ([.slice Q433 t422.length Q434,.slice Q435 t423.length Q436,.slice Q437 t424.length Q438,.slice Q440 t425.length Q441,.slice Q442 t426.length Q443,.slice Q444 t427.length Q445,.slice Q446 t428.length Q447,.bool t429,.map (some b9)])::xrow Q197 Q198 88 3 (t194.flatMap enc_api_Pick)::gs495) w' | (some b503,none,some _) => False | (some b503,some x508,none) => St w0 Z (xrow x508.1 x508.2 95 4 (((gt t424 t138) ++ ([(⟨t421,(gt t194 t255)⟩ : weirref14_Move)] : List weirref14_Move)).flatMap enc_weirref14_Move)::xrow (some ⟨b503,0,none⟩) 1 95 4 (([(⟨t421,(gt t194 t255)⟩ : weirref14_Move)] : List weirref14_Move).flatMap enc_weirref14_Move)::xrow Q437 Q438 93 1 ((hdl Q439 t424).flatMap encH)::xels (fun k => False ∨ k = t138.toNat) Q439 95 4 enc_weirref14_Move t424::xblk b14 43 ([.slice Q433 t422.length Q434,.slice Q435 t423.length Q436,.slice Q437 t424.length Q438,.slice Q440 t425.length Q441,.slice Q442 t426.length Q443,.slice Q444 t427.length Q445,.slice Q446 t428.length Q447,.bool t429,.map (some b9)])::xrow Q197 Q198 88 3 (t194.flatMap enc_api_Pick)::gs495) w' | (some b503,some x508,some _) => St w0 Z (xrow Q437 Q438 93 1 ((setl (hdl Q439 t424) t138 (x508.1,((gt t424 t138) ++ ([(⟨t421,(gt t194 t255)⟩ : weirref14_Move)] : List weirref14_Move)).length,x508.2)).flatMap encH)::xrow x508.1 x508.2 95 4 (((gt t424 t138) ++ ([(⟨t421,(gt t194 t255)⟩ : weirref14_Move)] : List weirref14_Move)).flatMap enc_weirref14_Move)::xrow (some ⟨b503,0,none⟩) 1 95 4 (([(⟨t421,(gt t194 t255)⟩ : weirref14_Move)] : List weirref14_Move).flatMap enc_weirref14_Move)::xels (fun k => False ∨ k = t138.toNat) Q439 95 4 enc_weirref14_Move t424::xblk b14 43 ([.slice Q433 t422.length Q434,.slice Q435 t423.length Q436,.slice Q437 t424.length Q438,.slice Q440 t425.length Q441,.slice Q442 t426.length Q443,.slice Q444 t427.length Q445,.slice Q446 t428.length Q447,.bool t429,.map (some b9)])::xrow Q197 Q198 88 3 (t194.flatMap enc_api_Pick)::gs495) w')) (v:=(fun st => match st with | (none,none,none) => [.pointer (some ⟨b14,2,none⟩),.slice Q437 t424.length Q438,.int .i64 t138,.pointer (some ⟨b14,2,none⟩),.slice Q437 t424.length Q438,.int .i64 t138,.pointer (some ⟨b487,p488 + t138.toNat * 1,none⟩),.slice ((Q439 t138.toNat).1) (gt t424 t138).length ((Q439 t138.toNat).2),.int .i64 t421,.slice Q197 t194.length Q198,.int .i64 t255,.pointer (some ⟨b499,p500 + t255.toNat * 3,none⟩),.agg (enc_api_Pick (gt t194 t255)).toArray,.agg (enc_weirref14_Move (⟨t421,(gt t194 t255)⟩ : weirref14_Move)).toArray,undef,undef,undef,undef] | (none,none,some _) => [.pointer (some ⟨b14,2,none⟩),.slice Q437 t424.length Q438,.int .i64 t138,.pointer (some ⟨b14,2,none⟩),.slice Q437 t424.length Q438,.int .i64 t138,.pointer (some ⟨b487,p488 + t138.toNat * 1,none⟩),.slice ((Q439 t138.toNat).1) (gt t424 t138).length ((Q439 t138.toNat).2),.int .i64 t421,.slice Q197 t194.length Q198,.int .i64 t255,.pointer (some ⟨b499,p500 + t255.toNat * 3,none⟩),.agg (enc_api_Pick (gt t194 t255)).toArray,.agg (enc_weirref14_Move (⟨t421,(gt t194 t255)⟩ : weirref14_Move)).toArray,undef,undef,undef,undef] | (none,some x508,none) => [.pointer (some ⟨b14,2,none⟩),.slice Q437 t424.length Q438,.int .i64 t138,.pointer (some ⟨b14,2,none⟩),.slice Q437 t424.length Q438,.int .i64 t138,.pointer (some ⟨b487,p488 + t138.toNat * 1,none⟩),.slice ((Q439 t138.toNat).1) (gt t424 t138).length ((Q439 t138.toNat).2),.int .i64 t421,.slice Q197 t194.length Q198,.int .i64 t255,.pointer (some ⟨b499,p500 + t255.toNat * 3,none⟩),.agg (enc_api_Pick (gt t194 t255)).toArray,.agg (enc_weirref14_Move (⟨t421,(gt t194 t255)⟩ : weirref14_Move)).toArray,undef,undef,undef,undef] | (none,some x508,some _) => [.pointer (some ⟨b14,2,none⟩),.slice Q437 t424.length Q438,.int .i64 t138,.pointer (some ⟨b14,2,none⟩),.slice Q437 t424.length Q438,.int .i64 t138,.pointer (some ⟨b487,p488 + t138.toNat * 1,none⟩),.slice ((Q439 t138.toNat).1) (gt t424 t138).length ((Q439 t138.toNat).2),.int .i64 t421,.slice Q197 t194.length Q198,.int .i64 t255,.pointer (some ⟨b499,p500 + t255.toNat * 3,none⟩),.agg (enc_api_Pick (gt t194 t255)).toArray,.agg (enc_weirref14_Move (⟨t421,(gt t194 t255)⟩ : weirref14_Move)).toArray,undef,undef,undef,undef] | (some b503,none,none) => [.pointer (some ⟨b14,2,none⟩),.slice Q437 t424.length Q438,.int .i64 t138,.pointer (some ⟨b14,2,none⟩),.slice Q437 t424.length Q438,.int .i64 t138,.pointer (some ⟨b487,p488 + t138.toNat * 1,none⟩),.slice ((Q439 t138.toNat).1) (gt t424 t138).length ((Q439 t138.toNat).2),.int .i64 t421,.slice Q197 t194.length Q198,.int .i64 t255,.pointer (some ⟨b499,p500 + t255.toNat * 3,none⟩),.agg (enc_api_Pick (gt t194 t255)).toArray,.agg (enc_weirref14_Move (⟨t421,(gt t194 t255)⟩ : weirref14_Move)).toArray,.slice (some ⟨b503,0,none⟩) ([(⟨t421,(gt t194 t255)⟩ : weirref14_Move)] : List weirref14_Move).length 1,undef,undef,undef] | (some b503,none,some _) => [.pointer (some ⟨b14,2,none⟩),.slice Q437 t424.length Q438,.int .i64 t138,.pointer (some ⟨b14,2,none⟩),.slice Q437 t424.length Q438,.int .i64 t138,.pointer (some ⟨b487,p488 + t138.toNat * 1,none⟩),.slice ((Q439 t138.toNat).1) (gt t424 t138).length ((Q439 t138.toNat).2),.int .i64 t421,.slice Q197 t194.length Q198,.int .i64 t255,.pointer (some ⟨b499,p500 + t255.toNat * 3,none⟩),.agg (enc_api_Pick (gt t194 t255)).toArray,.agg (enc_weirref14_Move (⟨t421,(gt t194 t255)⟩ : weirref14_Move)).toArray,.slice (some ⟨b503,0,none⟩) ([(⟨t421,(gt t194 t255)⟩ : weirref14_Move)] : List weirref14_Move).length 1,undef,undef,undef] | (some b503,some x508,none) => [.pointer (some ⟨b14,2,none⟩),.slice Q437 t424.length Q438,.int .i64 t138,.pointer (some ⟨b14,2,none⟩),.slice Q437 t424.length Q438,.int .i64 t138,.pointer (some ⟨b487,p488 + t138.toNat * 1,none⟩),.slice ((Q439 t138.toNat).1) (gt t424 t138).length ((Q439 t138.toNat).2),.int .i64 t421,.slice Q197 t194.length Q198,.int .i64 t255,.pointer (some ⟨b499,p500 + t255.toNat * 3,none⟩),.agg (enc_api_Pick (gt t194 t255)).toArray,.agg (enc_weirref14_Move (⟨t421,(gt t194 t255)⟩ : weirref14_Move)).toArray,.slice (some ⟨b503,0,none⟩) ([(⟨t421,(gt t194 t255)⟩ : weirref14_Move)] : List weirref14_Move).length 1,.slice x508.1 ((gt t424 t138) ++ ([(⟨t421,(gt t194 t255)⟩ : weirref14_Move)] : List weirref14_Move)).length x508.2,.pointer (some ⟨b487,p488 + t138.toNat * 1,none⟩),undef] | (some b503,some x508,some _) => [.pointer (some ⟨b14,2,none⟩),.slice Q437 t424.length Q438,.int .i64 t138,.pointer (some ⟨b14,2,none⟩),.slice Q437 t424.length Q438,.int .i64 t138,.pointer (some ⟨b487,p488 + t138.toNat * 1,none⟩),.slice ((Q439 t138.toNat).1) (gt t424 t138).length ((Q439 t138.toNat).2),.int .i64 t421,.slice Q197 t194.length Q198,.int .i64 t255,.pointer (some ⟨b499,p500 + t255.toNat * 3,none⟩),.agg (enc_api_Pick (gt t194 t255)).toArray,.agg (enc_weirref14_Move (⟨t421,(gt t194 t255)⟩ : weirref14_Move)).toArray,.slice (some ⟨b503,0,none⟩) ([(⟨t421,(gt t194 t255)⟩ : weirref14_Move)] : List weirref14_Move).length 1,.slice x508.1 ((gt t424 t138) ++ ([(⟨t421,(gt t194 t255)⟩ : weirref14_Move)] : List weirref14_Move)).length x508.2,.pointer (some ⟨b487,p488 + t138.toNat * 1,none⟩),undef])) (c:=p10_30) (id:=14) (none,none,none) 17 18 [14,15,17] [[],[],[],[],[],[],[],[],[],[],[],[],[],[],[],[0],[0,1],[0,1]] [[2],[2],[2],[2],[2],[2],[2],[1,2],[2],[2],[2],[2],[2],[0,2],[1,2],[2],[2],[]] [] [true,true,true,true,true,true,true,true,true,true,true,true,true,true,true,true,true,true] (by kernel_rfl) (by kernel_rfl) (by kernel_rfl) (by kernel_rfl) (by kernel_rfl) (by kernel_rfl) (by kernel_rfl) (by kernel_rfl) (by kernel_rfl) (fun k hk => match k,hk with | 0,_ => rfl | 1,_ => rfl | 2,_ => rfl | k + 3,hk => absurd hk (by simp)) hS494.drew ?_ (fun k hk => match k,hk with | 0,_ => rfl | 1,_ => rfl | 2,_ => rfl | k + 3,hk => absurd hk (by simp)) ?_ ?_ ?_
       ·intro i hi st w hC hd
        match i,hi with
        | 0,_ => (show _ = _; kernel_rfl)
        | 1,_ => (show _ = _; kernel_rfl)
        | 2,_ => (show _ = _; kernel_rfl)
        | 3,_ => (show _ = _; kernel_rfl)
        | 4,_ => (show _ = _; kernel_rfl)
        | 5,_ => (show _ = _; kernel_rfl)
        | 6,_ => (show _ = _; kernel_rfl)
        | 7,_ => (show _ = _; kernel_rfl)
        | 8,_ => (show _ = _; kernel_rfl)
        | 9,_ => (show _ = _; kernel_rfl)
        | 10,_ => (show _ = _; kernel_rfl)
        | 11,_ => (show _ = _; kernel_rfl)
        | 12,_ => (show _ = _; kernel_rfl)
        | 13,_ => (show _ = _; kernel_rfl)
        | 14,_ => (show _ = _; kernel_rfl)
        | 15,_ => (show _ = _; kernel_rfl)
        | 16,_ => (show _ = _; kernel_rfl)
        | 17,_ => (show _ = _; kernel_rfl)
        | i + 18,hi => exact absurd hi (by omega)
       ·intro i hi he st w hC hd hu
        match i,hi,he with
        | 0,_,_ =>
         rcases st with ⟨_ | b503,_ | x508,_ | _⟩
         ·dsimp only at hC
          exact dG (.pointer (some ⟨b14,2,none⟩)) hC
         ·exact False.elim hC
         ·exact False.elim hC
         ·exact False.elim hC
         ·dsimp only at hC
          exact dG (.pointer (some ⟨b14,2,none⟩)) hC
         ·exact False.elim hC
         ·dsimp only at hC
          exact dG (.pointer (some ⟨b14,2,none⟩)) hC
         ·exact Bool.noConfusion (hu 2 (by decide))
        | 1,_,_ =>
         rcases st with ⟨_ | b503,_ | x508,_ | _⟩
         ·dsimp only at hC
          exact ⟨fun _ => does_run (x_load (t:=38) (x:=(.tmp 75)) (p:=⟨b14,2,none⟩) (v:=.slice Q437 t424.length Q438) (by kernel_rfl) (loads_at 2 (hC.blk 3 rfl) (by kernel_rfl) (by kernel_rfl)) (by kernel_rfl)) rfl hC,fun h => absurd h (by decide)⟩
         ·exact False.elim hC
         ·exact False.elim hC
         ·exact False.elim hC
         ·dsimp only at hC
          exact ⟨fun _ => does_run (x_load (t:=38) (x:=(.tmp 75)) (p:=⟨b14,2,none⟩) (v:=.slice Q437 t424.length Q438) (by kernel_rfl) (loads_at 2 (hC.blk 4 rfl) (by kernel_rfl) (by kernel_rfl)) (by kernel_rfl)) rfl hC,fun h => absurd h (by decide)⟩
         ·exact False.elim hC
         ·dsimp only at hC
          exact ⟨fun _ => does_run (x_load (t:=38) (x:=(.tmp 75)) (p:=⟨b14,2,none⟩) (v:=.slice Q437 t424.length Q438) (by kernel_rfl) (loads_at 2 (hC.blk 4 rfl) (by kernel_rfl) (by kernel_rfl)) (by kernel_rfl)) rfl hC,fun h => absurd h (by decide)⟩
         ·exact Bool.noConfusion (hu 2 (by decide))
        | 2,_,_ =>
         rcases st with ⟨_ | b503,_ | x508,_ | _⟩
         ·dsimp only at hC
          exact dG (.int .i64 t138) hC
         ·exact False.elim hC
         ·exact False.elim hC
         ·exact False.elim hC
         ·dsimp only at hC
          exact dG (.int .i64 t138) hC
         ·exact False.elim hC
         ·dsimp only at hC
          exact dG (.int .i64 t138) hC
         ·exact Bool.noConfusion (hu 2 (by decide))
        | 3,_,_ =>
         rcases st with ⟨_ | b503,_ | x508,_ | _⟩
         ·dsimp only at hC
          exact dG (.pointer (some ⟨b14,2,none⟩)) hC
         ·exact False.elim hC
         ·exact False.elim hC
         ·exact False.elim hC
         ·dsimp only at hC
          exact dG (.pointer (some ⟨b14,2,none⟩)) hC
         ·exact False.elim hC
         ·dsimp only at hC
          exact dG (.pointer (some ⟨b14,2,none⟩)) hC
         ·exact Bool.noConfusion (hu 2 (by decide))
        | 4,_,_ =>
         rcases st with ⟨_ | b503,_ | x508,_ | _⟩
         ·dsimp only at hC
          exact ⟨fun _ => does_run (x_load (t:=38) (x:=(.tmp 78)) (p:=⟨b14,2,none⟩) (v:=.slice Q437 t424.length Q438) (by kernel_rfl) (loads_at 2 (hC.blk 3 rfl) (by kernel_rfl) (by kernel_rfl)) (by kernel_rfl)) rfl hC,fun h => absurd h (by decide)⟩
         ·exact False.elim hC
         ·exact False.elim hC
         ·exact False.elim hC
         ·dsimp only at hC
          exact ⟨fun _ => does_run (x_load (t:=38) (x:=(.tmp 78)) (p:=⟨b14,2,none⟩) (v:=.slice Q437 t424.length Q438) (by kernel_rfl) (loads_at 2 (hC.blk 4 rfl) (by kernel_rfl) (by kernel_rfl)) (by kernel_rfl)) rfl hC,fun h => absurd h (by decide)⟩
         ·exact False.elim hC
         ·dsimp only at hC
          exact ⟨fun _ => does_run (x_load (t:=38) (x:=(.tmp 78)) (p:=⟨b14,2,none⟩) (v:=.slice Q437 t424.length Q438) (by kernel_rfl) (loads_at 2 (hC.blk 4 rfl) (by kernel_rfl) (by kernel_rfl)) (by kernel_rfl)) rfl hC,fun h => absurd h (by decide)⟩
         ·exact Bool.noConfusion (hu 2 (by decide))
        | 5,_,_ =>
         rcases st with ⟨_ | b503,_ | x508,_ | _⟩
         ·dsimp only at hC
          exact dG (.int .i64 t138) hC
         ·exact False.elim hC
         ·exact False.elim hC
         ·exact False.elim hC
         ·dsimp only at hC
          exact dG (.int .i64 t138) hC
         ·exact False.elim hC
         ·dsimp only at hC
          exact dG (.int .i64 t138) hC
         ·exact Bool.noConfusion (hu 2 (by decide))
        | 6,_,_ =>
         rcases st with ⟨_ | b503,_ | x508,_ | _⟩
         ·dsimp only at hC
          exact ⟨fun _ => does_run (x_indexAddr (t:=38) (e:=93) (x:=(.tmp 79)) (y:=(.tmp 80)) (b:=b487) (o':=p488) (n:=t424.length) (cp:=Q438) (sz:=1) (kk:=.i64) (j:=t138) (slv (by kernel_rfl) hA489) (by kernel_rfl) (by kernel_rfl) (by kernel_rfl) g480.1 g480.2 (by kernel_rfl)) rfl hC,fun h => absurd h (by decide)⟩
         ·exact False.elim hC
         ·exact False.elim hC
         ·exact False.elim hC
         ·dsimp only at hC
          exact ⟨fun _ => does_run (x_indexAddr (t:=38) (e:=93) (x:=(.tmp 79)) (y:=(.tmp 80)) (b:=b487) (o':=p488) (n:=t424.length) (cp:=Q438) (sz:=1) (kk:=.i64) (j:=t138) (slv (by kernel_rfl) hA489) (by kernel_rfl) (by kernel_rfl) (by kernel_rfl) g480.1 g480.2 (by kernel_rfl)) rfl hC,fun h => absurd h (by decide)⟩
         ·exact False.elim hC
         ·dsimp only at hC
          exact ⟨fun _ => does_run (x_indexAddr (t:=38) (e:=93) (x:=(.tmp 79)) (y:=(.tmp 80)) (b:=b487) (o':=p488) (n:=t424.length) (cp:=Q438) (sz:=1) (kk:=.i64) (j:=t138) (slv (by kernel_rfl) hA489) (by kernel_rfl) (by kernel_rfl) (by kernel_rfl) g480.1 g480.2 (by kernel_rfl)) rfl hC,fun h => absurd h (by decide)⟩
         ·exact Bool.noConfusion (hu 2 (by decide))
        | 7,_,_ =>
         rcases st with ⟨_ | b503,_ | x508,_ | _⟩
         ·dsimp only at hC
          exact ⟨fun _ => does_run (x_load (t:=93) (x:=(.tmp 81)) (p:=⟨b487,p488 + t138.toNat * 1,none⟩) (v:=.slice ((Q439 t138.toNat).1) (gt t424 t138).length ((Q439 t138.toNat).2)) (by kernel_rfl) (loads_at 0 (RowIn.at2H (x:=((Q439 t138.toNat).1,(gt t424 t138).length,(Q439 t138.toNat).2)) (hC.row 0 rfl) hA489 (hdl_g g480) (hdl_gt g480)) (by kernel_rfl) (by kernel_rfl)) (by kernel_rfl)) rfl hC,fun h => absurd h (by decide)⟩
         ·exact False.elim hC
         ·exact False.elim hC
         ·exact False.elim hC
         ·dsimp only at hC
          exact ⟨fun _ => does_run (x_load (t:=93) (x:=(.tmp 81)) (p:=⟨b487,p488 + t138.toNat * 1,none⟩) (v:=.slice ((Q439 t138.toNat).1) (gt t424 t138).length ((Q439 t138.toNat).2)) (by kernel_rfl) (loads_at 0 (RowIn.at2H (x:=((Q439 t138.toNat).1,(gt t424 t138).length,(Q439 t138.toNat).2)) (hC.row 1 rfl) hA489 (hdl_g g480) (hdl_gt g480)) (by kernel_rfl) (by kernel_rfl)) (by kernel_rfl)) rfl hC,fun h => absurd h (by decide)⟩
         ·exact False.elim hC
         ·exact Bool.noConfusion (hu 1 (by decide))
         ·exact Bool.noConfusion (hu 1 (by decide))
        | 8,_,_ =>
         rcases st with ⟨_ | b503,_ | x508,_ | _⟩
         ·dsimp only at hC
          exact dG (.int .i64 t421) hC
         ·exact False.elim hC
         ·exact False.elim hC
         ·exact False.elim hC
         ·dsimp only at hC
          exact dG (.int .i64 t421) hC
         ·exact False.elim hC
         ·dsimp only at hC
          exact dG (.int .i64 t421) hC
         ·exact Bool.noConfusion (hu 2 (by decide))
        | 9,_,_ =>
         rcases st with ⟨_ | b503,_ | x508,_ | _⟩
         ·dsimp only at hC
          exact dG (.slice Q197 t194.length Q198) hC
         ·exact False.elim hC
         ·exact False.elim hC
         ·exact False.elim hC
         ·dsimp only at hC
          exact dG (.slice Q197 t194.length Q198) hC
         ·exact False.elim hC
         ·dsimp only at hC
          exact dG (.slice Q197 t194.length Q198) hC
         ·exact Bool.noConfusion (hu 2 (by decide))
        | 10,_,_ =>
         rcases st with ⟨_ | b503,_ | x508,_ | _⟩
         ·dsimp only at hC
          exact dG (.int .i64 t255) hC
         ·exact False.elim hC
         ·exact False.elim hC
         ·exact False.elim hC
         ·dsimp only at hC
          exact dG (.int .i64 t255) hC
         ·exact False.elim hC
         ·dsimp only at hC
          exact dG (.int .i64 t255) hC
         ·exact Bool.noConfusion (hu 2 (by decide))
        | 11,_,_ =>
         rcases st with ⟨_ | b503,_ | x508,_ | _⟩
         ·dsimp only at hC
          exact ⟨fun _ => does_run (x_indexAddr (t:=40) (e:=88) (x:=(.tmp 84)) (y:=(.tmp 85)) (b:=b499) (o':=p500) (n:=t194.length) (cp:=Q198) (sz:=3) (kk:=.i64) (j:=t255) (slv (by kernel_rfl) hA501) (by kernel_rfl) (by kernel_rfl) (by kernel_rfl) g497.1 g497.2 (by kernel_rfl)) rfl hC,fun h => absurd h (by decide)⟩
         ·exact False.elim hC
         ·exact False.elim hC
         ·exact False.elim hC
         ·dsimp only at hC
          exact ⟨fun _ => does_run (x_indexAddr (t:=40) (e:=88) (x:=(.tmp 84)) (y:=(.tmp 85)) (b:=b499) (o':=p500) (n:=t194.length) (cp:=Q198) (sz:=3) (kk:=.i64) (j:=t255) (slv (by kernel_rfl) hA501) (by kernel_rfl) (by kernel_rfl) (by kernel_rfl) g497.1 g497.2 (by kernel_rfl)) rfl hC,fun h => absurd h (by decide)⟩
         ·exact False.elim hC
         ·dsimp only at hC
          exact ⟨fun _ => does_run (x_indexAddr (t:=40) (e:=88) (x:=(.tmp 84)) (y:=(.tmp 85)) (b:=b499) (o':=p500) (n:=t194.length) (cp:=Q198) (sz:=3) (kk:=.i64) (j:=t255) (slv (by kernel_rfl) hA501) (by kernel_rfl) (by kernel_rfl) (by kernel_rfl) g497.1 g497.2 (by kernel_rfl)) rfl hC,fun h => absurd h (by decide)⟩
         ·exact Bool.noConfusion (hu 2 (by decide))
        | 12,_,_ =>
         rcases st with ⟨_ | b503,_ | x508,_ | _⟩
         ·dsimp only at hC
          exact ⟨fun _ => does_run (x_load (t:=88) (x:=(.tmp 86)) (p:=⟨b499,p500 + t255.toNat * 3,none⟩) (v:=.agg (enc_api_Pick (gt t194 t255)).toArray) (by kernel_rfl) (loads_agg ((hC.row 4 rfl).at2 hA501 len_api_Pick (by omega) g497.1 g497.2) (by kernel_rfl) (by kernel_rfl)) (by kernel_rfl)) rfl hC,fun h => absurd h (by decide)⟩
         ·exact False.elim hC
         ·exact False.elim hC
         ·exact False.elim hC
         ·dsimp only at hC
          exact ⟨fun _ => does_run (x_load (t:=88) (x:=(.tmp 86)) (p:=⟨b499,p500 + t255.toNat * 3,none⟩) (v:=.agg (enc_api_Pick (gt t194 t255)).toArray) (by kernel_rfl) (loads_agg ((hC.row 5 rfl).at2 hA501 len_api_Pick (by omega) g497.1 g497.2) (by kernel_rfl) (by kernel_rfl)) (by kernel_rfl)) rfl hC,fun h => absurd h (by decide)⟩
         ·exact False.elim hC
         ·dsimp only at hC
          exact ⟨fun _ => does_run (x_load (t:=88) (x:=(.tmp 86)) (p:=⟨b499,p500 + t255.toNat * 3,none⟩) (v:=.agg (enc_api_Pick (gt t194 t255)).toArray) (by kernel_rfl) (loads_agg ((hC.row 5 rfl).at2 hA501 len_api_Pick (by omega) g497.1 g497.2) (by kernel_rfl) (by kernel_rfl)) (by kernel_rfl)) rfl hC,fun h => absurd h (by decide)⟩
         ·exact Bool.noConfusion (hu 2 (by decide))
        | 13,_,_ =>
         rcases st with ⟨_ | b503,_ | x508,_ | _⟩
         ·dsimp only at hC
          exact dG (.agg (enc_weirref14_Move (⟨t421,(gt t194 t255)⟩ : weirref14_Move)).toArray) hC
         ·exact False.elim hC
         ·exact False.elim hC
         ·exact False.elim hC
         ·exact Bool.noConfusion (hu 0 (by decide))
         ·exact False.elim hC
         ·exact Bool.noConfusion (hu 0 (by decide))
         ·exact Bool.noConfusion (hu 0 (by decide))
        | 14,_,he => exact absurd he (by decide)
        | 15,_,he => exact absurd he (by decide)
        | 16,_,_ =>
         rcases st with ⟨_ | b503,_ | x508,_ | _⟩
         ·exact Bool.noConfusion (hd 0 (by decide))
         ·exact False.elim hC
         ·exact False.elim hC
         ·exact False.elim hC
         ·exact Bool.noConfusion (hd 1 (by decide))
         ·exact False.elim hC
         ·dsimp only at hC
          exact ⟨fun _ => does_run (x_indexAddr (t:=38) (e:=93) (x:=(.tmp 76)) (y:=(.tmp 77)) (b:=b487) (o':=p488) (n:=t424.length) (cp:=Q438) (sz:=1) (kk:=.i64) (j:=t138) (slv (by kernel_rfl) hA489) (by kernel_rfl) (by kernel_rfl) (by kernel_rfl) g480.1 g480.2 (by kernel_rfl)) rfl hC,fun h => absurd h (by decide)⟩
         ·exact Bool.noConfusion (hu 2 (by decide))
        | 17,_,he => exact absurd he (by decide)
        | i + 18,hi,_ => exact absurd hi (by omega)
       ·intro k hk st w hC hr hm
        match k,hk with
        | 0,_ =>
         rcases st with ⟨_ | b503,_ | x508,_ | _⟩
         ·dsimp only at hC
          refine does_lit (t:=93) (e:=95) (sz:=4) (n:=1) (parts:=#[(0,(.tmp 88))]) (vs:=[(0,.agg (enc_weirref14_Move (⟨t421,(gt t194 t255)⟩ : weirref14_Move)).toArray)]) (z:=zeroOf Try.prog 95) (cs':=([(⟨t421,(gt t194 t255)⟩ : weirref14_Move)] : List weirref14_Move).flatMap enc_weirref14_Move) hC (by kernel_rfl) (by kernel_rfl) (by kernel_rfl) (by kernel_rfl) (by decide) (by decide) (by kernel_rfl) rfl (Parts.cons (c:=enc_weirref14_Move (⟨t421,(gt t194 t255)⟩ : weirref14_Move)) (by kernel_rfl) (len_weirref14_Move _) Parts.nil) rfl ?_
          intro b503 w2 h2
          have h2:=h2.pick5
          have h2:=h2.pick5
          have h2:=h2.pick5
          have h2:=h2.pick5
          have h2:=h2.pick5
          have h2:=h2.pick5
          refine ⟨(some b503,none,none),rfl,?_,?_,.inr rfl,h2⟩
          ·intro m hne; match m,hne with
           | 0,hne => exact absurd rfl hne
           | 1,hne => exact rfl
           | 2,hne => exact rfl
           | m + 3,_ => exact rfl
          ·intro j hj; match j,hj with
           | 0,hj => exact rfl
           | 1,hj => exact rfl
           | 2,hj => exact rfl
           | 3,hj => exact rfl
           | 4,hj => exact rfl
           | 5,hj => exact rfl
           | 6,hj => exact rfl
           | 7,hj => exact rfl
           | 8,hj => exact rfl
           | 9,hj => exact rfl
           | 10,hj => exact rfl
           | 11,hj => exact rfl
           | 12,hj => exact rfl
           | 13,hj => exact rfl
           | 14,hj => exact absurd (by decide) hj
           | 15,hj => exact absurd (by decide) hj
           | 16,hj => exact absurd (by decide) hj
           | 17,hj => exact absurd (by decide) hj
           | j + 18,_ => exact rfl
         ·exact False.elim hC
         ·exact False.elim hC
         ·exact False.elim hC
         ·exact Bool.noConfusion hr
         ·exact False.elim hC
         ·exact Bool.noConfusion hr
         ·exact Bool.noConfusion hr
        | 1,_ =>
         rcases st with ⟨_ | b503,_ | x508,_ | _⟩
         ·exact Bool.noConfusion (hm 0 (by decide))
         ·exact False.elim hC
         ·exact False.elim hC
         ·exact False.elim hC
         ·dsimp only at hC
          have hC:=hC.pick2
          refine does_append (enc:=enc_weirref14_Move) (e:=95) (u:=95) (t:=93) (t2:=93) (sz:=4) (cp:=((Q439 t138.toNat).2)) (A:=((Q439 t138.toNat).1)) (bytes:=32) (xs:=(gt t424 t138)) (ys:=([(⟨t421,(gt t194 t255)⟩ : weirref14_Move)] : List weirref14_Move)) (s:=(.tmp 82)) (x:=(.tmp 89)) (xv:=.slice (some ⟨b503,0,none⟩) ([(⟨t421,(gt t194 t255)⟩ : weirref14_Move)] : List weirref14_Move).length 1) (info:=infoOf Try.prog 95) (z:=zeroOf Try.prog 95) (ycs:=([(⟨t421,(gt t194 t255)⟩ : weirref14_Move)] : List weirref14_Move).flatMap enc_weirref14_Move) hC (by kernel_rfl) (by kernel_rfl) (by kernel_rfl) (by kernel_rfl) (.inl (by kernel_rfl)) (by kernel_rfl) (by kernel_rfl) (by kernel_rfl) (by kernel_rfl) (by kernel_rfl) (by omega) len_weirref14_Move one_weirref14_Move (src_row (hC.row 1 rfl) (by omega) len_weirref14_Move) rfl g509 (by omega) ?_
          intro A505 c506 w2 h2
          have h2:=h2.pick5
          have h2:=h2.pick5
          have h2:=h2.pick5
          have h2:=h2.pick5
          have h2:=h2.pick5
          have h2:=h2.pick5
          refine ⟨(some b503,some (A505,c506),none),rfl,?_,?_,.inr rfl,h2⟩
          ·intro m hne; match m,hne with
           | 0,hne => exact rfl
           | 1,hne => exact absurd rfl hne
           | 2,hne => exact rfl
           | m + 3,_ => exact rfl
          ·intro j hj; match j,hj with
           | 0,hj => exact rfl
           | 1,hj => exact rfl
           | 2,hj => exact rfl
           | 3,hj => exact rfl
           | 4,hj => exact rfl
           | 5,hj => exact rfl
           | 6,hj => exact rfl
           | 7,hj => exact rfl
           | 8,hj => exact rfl
           | 9,hj => exact rfl
           | 10,hj => exact rfl
           | 11,hj => exact rfl
           | 12,hj => exact rfl
           | 13,hj => exact rfl
           | 14,hj => exact rfl
           | 15,hj => exact absurd (by decide) hj
           | 16,hj => exact absurd (by decide) hj
           | 17,hj => exact absurd (by decide) hj
           | j + 18,_ => exact rfl
         ·exact False.elim hC
         ·exact Bool.noConfusion hr
         ·exact Bool.noConfusion hr
        | 2,_ =>
         rcases st with ⟨_ | b503,_ | x508,_ | _⟩
         ·exact Bool.noConfusion (hm 0 (by decide))
         ·exact False.elim hC
         ·exact False.elim hC
         ·exact False.elim hC
         ·exact Bool.noConfusion (hm 1 (by decide))
         ·exact False.elim hC
         ·dsimp only at hC
          have hC:=hC.pick2
          refine does_storeEl (enc:=encH) (e:=93) (t:=93) (sz:=1) (cp:=Q438) (A:=Q437) (xs:=(hdl Q439 t424)) (x:=(.tmp 91)) (y:=(.tmp 90)) (el:=gt (hdl Q439 t424) t138) (el':=(x508.1,((gt t424 t138) ++ ([(⟨t421,(gt t194 t255)⟩ : weirref14_Move)] : List weirref14_Move)).length,x508.2)) (j:=t138) (off:=0) (b:=b487) (q:=p488) (v:=.slice x508.1 ((gt t424 t138) ++ ([(⟨t421,(gt t194 t255)⟩ : weirref14_Move)] : List weirref14_Move)).length x508.2) (vs:=[.slice x508.1 ((gt t424 t138) ++ ([(⟨t421,(gt t194 t255)⟩ : weirref14_Move)] : List weirref14_Move)).length x508.2]) (ad:=⟨b487,p488 + t138.toNat * 1,none⟩) hC (by kernel_rfl) (by kernel_rfl) (by kernel_rfl) (by simp) (by kernel_rfl) hA489 (hdl_g g480) rfl len_encH (by kernel_rfl) (by kernel_rfl) (by kernel_rfl) (Nat.le_of_ble_eq_true (by kernel_rfl)) (Nat.le_of_ble_eq_true (by kernel_rfl)) rfl ?_
          intro w2 h2
          have h2:=h2.pick5
          have h2:=h2.pick5
          have h2:=h2.pick5
          have h2:=h2.pick5
          have h2:=h2.pick5
          have h2:=h2.pick5
          refine ⟨(some b503,some x508,some ()),rfl,?_,?_,.inl rfl,h2⟩
          ·intro m hne; match m,hne with
           | 0,hne => exact rfl
           | 1,hne => exact rfl
           | 2,hne => exact absurd rfl hne
           | m + 3,_ => exact rfl
          ·intro j hj; match j,hj with
           | 0,hj => exact rfl
           | 1,hj => exact rfl
           | 2,hj => exact rfl
           | 3,hj => exact rfl
           | 4,hj => exact rfl
           | 5,hj => exact rfl
           | 6,hj => exact rfl
           | 7,hj => exact rfl
           | 8,hj => exact rfl
           | 9,hj => exact rfl
           | 10,hj => exact rfl
           | 11,hj => exact rfl
           | 12,hj => exact rfl
           | 13,hj => exact rfl
           | 14,hj => exact rfl
           | 15,hj => exact rfl
           | 16,hj => exact rfl
           | 17,hj => exact absurd (by decide) hj
           | j + 18,_ => exact rfl
         ·exact Bool.noConfusion hr
        | k + 3,hk => exact absurd hk (by simp)
       intro st514 w511 hS512 hr513
       rcases st514 with ⟨_ | b503,_ | x508,_ | _⟩
       ·exact Bool.noConfusion (hr513 0 (Nat.lt_of_sub_eq_succ rfl))
       ·exact Bool.noConfusion (hr513 0 (Nat.lt_of_sub_eq_succ rfl))
       ·exact Bool.noConfusion (hr513 0 (Nat.lt_of_sub_eq_succ rfl))
       ·exact Bool.noConfusion (hr513 0 (Nat.lt_of_sub_eq_succ rfl))
       ·exact Bool.noConfusion (hr513 1 (Nat.lt_of_sub_eq_succ rfl))
       ·exact Bool.noConfusion (hr513 1 (Nat.lt_of_sub_eq_succ rfl))
       ·exact Bool.noConfusion (hr513 2 (Nat.lt_of_sub_eq_succ rfl))
       replace hS512 : St w0 Z (xrow Q437 Q438 93 1 ((setl (hdl Q439 t424) t138 (x508.1,((gt t424 t138) ++ ([(⟨t421,(gt t194 t255)⟩ : weirref14_Move)] : List weirref14_Move)).length,x508.2)).flatMap encH)::xrow x508.1 x508.2 95 4 (((gt t424 t138) ++ ([(⟨t421,(gt t194 t255)⟩ : weirref14_Move)] : List weirref14_Move)).flatMap enc_weirref14_Move)::xrow (some ⟨b503,0,none⟩) 1 95 4 (([(⟨t421,(gt t194 t255)⟩ : weirref14_Move)] : List weirref14_Move).flatMap enc_weirref14_Move)::xels (fun k => False ∨ k = t138.toNat) Q439 95 4 enc_weirref14_Move t424::xblk b14 43 ([.slice Q433 t422.length Q434,.slice Q435 t423.length Q436,.slice Q437 t424.length Q438,.slice Q440 t425.length Q441,.slice Q442 t426.length Q443,.slice Q444 t427.length Q445,.slice Q446 t428.length Q447,.bool t429,.map (some b9)])::xrow Q197 Q198 88 3 (t194.flatMap enc_api_Pick)::gs495) w511:=hS512
       subst hg496
       have hS515:=hS512.pick3
       have hS516:=hS515.pick2
       have hS517:=hS516.pick2
       have hS518:=hS517.rrBack g480
       refine rF [none,none,none,none,none,none,none,none,none,none,none,none,none,none,none,none,none,none,none,none,none,none,none,none,none,none,none,none,none,none,none,none,none,none,none,none,none,none,none,none,none,none,none,none,none,none,none,none,none,none,none,none,none,none,none,none,none,none,none,none,none,none,none,none,none,none,none,none,none,none,none,none,none,none,none,none,some (.slice Q437 t424.length Q438),none,none,some (.slice Q437 t424.length Q438),none,none,none,none,none,none,none,none,none,none,none,none,none] ?_
       refine Runs.refill (m':=[none,none,none,none,none,none,none,none,none,none,none,none,none,none,none,none,none,none,none,none,none,none,none,none,none,none,none,none,none,none,none,none,none,none,none,none,none,none,none,none,none,none,none,none,none,none,none,none,none,none,none,none,none,none,none,none,none,none,none,none,none,none,none,none,none,none,none,none,none,none,none,none,none,none,none,none,some (.slice Q437 (setl t424 t138 ((gt t424 t138) ++ ([(⟨t421,(gt t194 t255)⟩ : weirref14_Move)] : List weirref14_Move))).length Q438),none,none,some (.slice Q437 (setl t424 t138 ((gt t424 t138) ++ ([(⟨t421,(gt t194 t255)⟩ : weirref14_Move)] : List weirref14_Move))).length Q438),none,none,none,none,none,none,none,none,none,none,none,none,none]) (by simp only [setl_len]) ?_
       have hS519:=hS518.pick2
       have hS520:=hS519.eqblk (cs':=[.slice Q433 t422.length Q434,.slice Q435 t423.length Q436,.slice Q437 (setl t424 t138 ((gt t424 t138) ++ ([(⟨t421,(gt t194 t255)⟩ : weirref14_Move)] : List weirref14_Move))).length Q438,.slice Q440 t425.length Q441,.slice Q442 t426.length Q443,.slice Q444 t427.length Q445,.slice Q446 t428.length Q447,.bool t429,.map (some b9)]) (by simp only [setl_len])
       refine sR 6 td101 ?_
       have hS521:=hS520.pick2
       have hS522:=hS521.drop
       have hS523:=hS522.pick2
       have hS524:=hS523.pick9
       have hS525:=hS524.pick9
       have hS526:=hS525.pick9
       have hS527:=hS526.pick9
       have hS528:=hS527.pick9
       have hS529:=hS528.pick7
       have hS530:=hS529.pick9
       have hS531:=hS530.pick9
       have hS532:=hS531.pick9
       have hS533:=hS532.pick17
       have hS534:=hS533.pick16
       have hS535:=hS534.pick16
       have hS536:=hS535.pick16
       have hS537:=hS536.pick16
       have hS538:=hS537.pick16
       have hS539:=hS538.pick16
       have hS540:=hS539.pick17
       refine sR 1 td102 ?_
       exact rF _ (ih296 (IntKind.i64.wrap (t255 + 1)) t431 t329 t432 t430 t422 t423 (setl t424 t138 ((gt t424 t138) ++ ([(⟨t421,(gt t194 t255)⟩ : weirref14_Move)] : List weirref14_Move))) t425 t426 t427 t428 t429 _ hp510 he294 _ Q433 Q434 Q435 Q436 Q437 Q438 ((upd Q439 t138.toNat (x508.1,x508.2))) Q440 Q441 Q442 Q443 Q444 Q445 Q446 Q447 _ hS540)
      refine sR 9 td101 ?_
      have hS542:=hS476.pick16
      have hS543:=hS542.pick9
      have hS544:=hS543.pick8
      have hS545:=hS544.pick8
      have hS546:=hS545.pick8
      have hS547:=hS546.pick8
      have hS548:=hS547.pick8
      have hS549:=hS548.pick8
      have hS550:=hS549.pick8
      have hS551:=hS550.pick9
      have hS552:=hS551.pick17
      have hS553:=hS552.pick16
      have hS554:=hS553.pick16
      have hS555:=hS554.pick16
      have hS556:=hS555.pick16
      have hS557:=hS556.pick16
      have hS558:=hS557.pick16
      have hS559:=hS558.pick17
      refine sR 1 td102 ?_
      exact rF _ (ih296 (IntKind.i64.wrap (t255 + 1)) t431 t329 t432 t430 t422 t423 t424 t425 t426 t427 t428 t429 _ hp541 he294 _ Q433 Q434 Q435 Q436 Q437 Q438 (Q439) Q440 Q441 Q442 Q443 Q444 Q445 Q446 Q447 _ hS559)
     refine sR 3 td99 ?_
     have hS561:=hS291.pick17
     have hS562:=hS561.drop
     exact rF _ (J252 t256 t258 t257 t260 t264 t268 t273 t277 t281 t285 t289 t259 ((Option.some.inj hp560).trans he294) _ A261 c262 A265 c266 A269 c270 (h272) A274 c275 A278 c279 A282 c283 A286 c287 _ hS562)
    have hS563:=hS212.pick17
    have hS564:=hS563.pick17
    have hS565:=hS564.pick17
    have hS566:=hS565.pick17
    have hS567:=hS566.pick17
    have hS568:=hS567.pick17
    have hS569:=hS568.pick17
    have hS570:=hS569.pick17
    have hS571:=hS570.pick17
    have hS572:=hS571.pick17
    have hS573:=hS572.pick16
    have hS574:=hS573.pick16
    have hS575:=hS574.pick16
    have hS576:=hS575.pick16
    have hS577:=hS576.pick16
    have hS578:=hS577.pick16
    have hS579:=hS578.pick17
    exact rF _ (L298 0 t195 t142 t141 t143 t144 t148 t152 t157 t161 t165 t169 t173 _ hv214 rfl _ A145 c146 A149 c150 A153 c154 (h156) A158 c159 A162 c163 A166 c167 A170 c171 _ hS579)
   refine sR 3 td94 ?_
   have hS581:=hS175.drop
   have hS582:=hS581.pick5
   have hS583:=hS582.pick5
   have hS584:=hS583.pick5
   have hS585:=hS584.pick5
   have hS586:=hS585.pick5
   have hS587:=hS586.pick5
   have hS588:=hS587.pick15
   have hS589:=hS588.pick15
   have hS590:=hS589.pick15
   have hS591:=hS590.pick15
   have hS592:=hS591.pick15
   have hS593:=hS592.pick15
   have hS594:=hS593.pick15
   have hS595:=hS594.pick15
   have hS596:=hS595.pick15
   have hS597:=hS596.pick15
   exact rF _ (J130 t144 t148 t152 t157 t161 t165 t169 t173 t143 t139 t140 t141 t142 ((Option.some.inj hp580).trans he178) _ A145 c146 A149 c150 A153 c154 (h156) A158 c159 A162 c163 A166 c167 A170 c171 _ hS597)
  have hS598:=hS89.pick8
  have hS599:=hS598.pick7
  have hS600:=hS599.pick7
  have hS601:=hS600.pick7
  have hS602:=hS601.pick7
  have hS603:=hS602.pick7
  have hS604:=hS603.pick7
  have hS605:=hS604.pick7
  have hS606:=hS605.pick8
  have hS607:=hS606.pick15
  have hS608:=hS607.pick15
  have hS609:=hS608.pick15
  have hS610:=hS609.pick15
  have hS611:=hS610.pick15
  have hS612:=hS611.pick15
  have hS613:=hS612.pick15
  have hS614:=hS613.pick16
  exact rF _ (L182 0 t44 a0_1c0vv_0m t45 a0_1c0vv_2m t43 t35 t36 t37 t38 t39 t40 t41 t42 _ hv91 rfl _ Q46 Q47 Q48 Q49 Q50 Q51 (Q52) Q53 Q54 Q55 Q56 Q57 Q58 Q59 Q60 _ hS614)

noncomputable def cd16 (p : List Nat) : Code := sub (bodyOf Try.f16) p
def weirlaw14_reachable.f (a0 : weirlaw14_Net) : Option (List ByteArray) :=
  (weirlaw14_Net__machine.f a0 >>= (fun (t5,t6,t7,t8,t9,t10) => (weirref14_Lay.f t5 t6 t7 t8 t9 t10 70000 >>= (fun (t45,t46,t47,t48,t49,t50,t51,t52,t53,t54,t55,t56,t57) => some (t45)))))
theorem weirlaw14_reachable.ok {a0 : weirlaw14_Net} {y0 : Option Addr} {y1 : Nat} {y2 : Option Addr} {y3 : Nat} {y4 : Option Addr} {y5 : Nat} {q0 : List ByteArray} (hp0 : weirlaw14_reachable.f a0 = some q0) (hS0 : St w0 Z (fs) w) (y6 : SlZ (repL (flat (encI .i64)) 1) 1 Z y0 y1 a0.Next) (y7 : SlZ (flat encB) 1 Z y2 y3 a0.End) (y8 : SlZ (flat (encI .i64)) 1 Z y4 y5 a0.Value) :
    Calls Try.prog 16 #[.agg #[.slice y0 a0.Next.length y1,.slice y2 a0.End.length y3,.slice y4 a0.Value.length y5,.int .i64 a0.Start]] w (fun e w' => ∃ (QA0 : Option Addr) (Qc0 : Nat),e = .returned (.slice QA0 q0.length Qc0) ∧ St w0 Z (xrow QA0 Qc0 9 1 (q0.flatMap encS)::fs) w'):=by
  refine calls_abs ?_; intro R hR
  unfold weirlaw14_reachable.f at hp0
  refine calls_of_runs (fn:=Try.f16) (c:=cd16 []) Try.func16 (by kernel_rfl) (al:=[.agg #[.slice y0 a0.Next.length y1,.slice y2 a0.End.length y3,.slice y4 a0.Value.length y5,.int .i64 a0.Start]]) rfl (n:=12) rfl ?_
  refine sR 2 [.inRegion (opsOf (cd16 [0])) [0,1],.code (cd16 [1])] ?_
  refine r_box (c:=(cd16 [0])) (i:=0) (d:=(some 1)) (ty:=0) (x:=(.tmp 0)) (v:=.agg #[.slice y0 a0.Next.length y1,.slice y2 a0.End.length y3,.slice y4 a0.Value.length y5,.int .i64 a0.Start]) (t:=26) (cs:=[.slice y0 a0.Next.length y1,.slice y2 a0.End.length y3,.slice y4 a0.Value.length y5,.int .i64 a0.Start]) hS0 (by kernel_rfl) (by kernel_rfl) (by kernel_rfl) (by kernel_rfl) ?_
  intro b1 w2 hS3
  refine sR 4 [iR (cd16 [1,0]) 0 8,.code (cd16 [1,1])] ?_
  refine rLa 26 (.tmp 1) (hS3.blk 0 rfl) ?_
  obtain ⟨⟨t5,t6,t7,t8,t9,t10⟩,hr23,hp24⟩:=bind_some' hp0
  try dsimp only at hp24
  refine rC (weirlaw14_Net__machine.ok hr23 hS3 y6 y7 y8) ?_
  rintro _ w34 ⟨Q11,Q12,Q13,Q14,Q15,Q16,Q17,Q18,Q19,Q20,Q21,Q22,rfl,hS35,hs36,hs37,hs38⟩
  refine ⟨_,rfl,?_⟩
  refine sR 3 [.inRegion (opsOf (cd16 [1,0])) [5,6,7],.code (cd16 [1,1])] ?_
  refine rA 32 (.agg #[.string (⟨#[]⟩ : ByteArray),.nilFunc,.nilFunc,.nilFunc]) [.string (⟨#[]⟩ : ByteArray),.nilFunc,.nilFunc,.nilFunc] hS35 ?_
  intro b39 w40 hS41
  refine rS 32 (.tmp 3) (.tmp 8) 0 (.agg #[.string t5,.func (.func 28) #[] #[.pointer (some ⟨Q11,0,none⟩),.pointer (some ⟨Q16,0,none⟩)],.func (.func 31) #[] #[.pointer (some ⟨Q16,0,none⟩),.pointer (some ⟨Q11,0,none⟩)],.func (.func 32) #[] #[.pointer (some ⟨Q11,0,none⟩),.pointer (some ⟨Q16,0,none⟩)]]) [.string t5,.func (.func 28) #[] #[.pointer (some ⟨Q11,0,none⟩),.pointer (some ⟨Q16,0,none⟩)],.func (.func 31) #[] #[.pointer (some ⟨Q16,0,none⟩),.pointer (some ⟨Q11,0,none⟩)],.func (.func 32) #[] #[.pointer (some ⟨Q11,0,none⟩),.pointer (some ⟨Q16,0,none⟩)]] [.string t5,.func (.func 28) #[] #[.pointer (some ⟨Q11,0,none⟩),.pointer (some ⟨Q16,0,none⟩)],.func (.func 31) #[] #[.pointer (some ⟨Q16,0,none⟩),.pointer (some ⟨Q11,0,none⟩)],.func (.func 32) #[] #[.pointer (some ⟨Q11,0,none⟩),.pointer (some ⟨Q16,0,none⟩)]] hS41 ?_
  intro w43 hS44
  refine sR 4 [iR (cd16 [1,1,0]) 0 4,.code (cd16 [1,1,1])] ?_
  refine rLa 32 (.tmp 3) (hS44.blk 0 rfl) ?_
  obtain ⟨⟨t45,t46,t47,t48,t49,t50,t51,t52,t53,t54,t55,t56,t57⟩,hr74,hp75⟩:=bind_some' hp24
  try dsimp only at hp75
  have hS87:=hS44.pick6
  have hS88:=hS87.pick6
  have hS89:=hS88.pick6
  have hS90:=hS89.pick6
  have hS91:=hS90.pick6
  have hS92:=hS91.pick6
  refine rC (weirref14_Lay.ok hr74 hS92 hs36 hs37 hs38) ?_
  rintro _ w93 ⟨Q58,Q59,Q60,Q61,Q62,Q63,Q64,Q65,Q66,Q67,Q68,Q69,Q70,Q71,Q72,Q73,rfl,hS94⟩
  refine ⟨_,rfl,?_⟩
  refine sR 3 [.code (cd16 [1,1,1])] ?_
  have hS95:=hS94.pick1
  have hS96:=hS95.drop
  have hS97:=hS96.pick1
  have hS98:=hS97.drop
  have hS99:=hS98.pick1
  have hS100:=hS99.drop
  have hS101:=hS100.pick1
  have hS102:=hS101.drop
  have hS103:=hS102.pick1
  have hS104:=hS103.drop
  have hS105:=hS104.pick1
  have hS106:=hS105.drop
  have hS107:=hS106.pick1
  have hS108:=hS107.drop
  have hS109:=hS108.pick1
  have hS110:=hS109.drop
  have hS111:=hS110.pick1
  have hS112:=hS111.drop
  have hS113:=hS112.pick1
  have hS114:=hS113.drop
  have hS115:=hS114.pick1
  have hS116:=hS115.drop
  have hS117:=hS116.pick1
  have hS118:=hS117.drop
  have hS119:=hS118.pick1
  have hS120:=hS119.drop
  have hS121:=hS120.pick1
  have hS122:=hS121.drop
  have hS123:=hS122.pick1
  have hS124:=hS123.drop
  refine rR (.slice Q58 t45.length Q59) Try.func16 ?_
  cases Option.some.inj hp75
  exact hR _ _ ⟨Q58,Q59,rfl,hS124⟩

noncomputable def cd12 (p : List Nat) : Code := sub (bodyOf Try.f12) p
abbrev p12_14:=cd12 [1,1,1,1,1,0,1,0,0]
abbrev p12_16:=cd12 [1,1,1,1,1,0,1,0,0,0]
abbrev p12_20:=cd12 [1,1,1,1,1,0,1,0,0,1,1,0,1,0]
abbrev p12_21:=cd12 [1,1,1,1,1,0,1,0,0,1,1,0,1,1]
abbrev p12_22:=cd12 [1,1,1,1,1,0,1,0,0,1,1,0,1,1,0,1]
abbrev p12_23:=cd12 [1,1,1,1,0,1,0,0,0]
abbrev p12_27:=cd12 [1,1,1,1,0,1,0,0,1,1,0,1,0]
abbrev p12_28:=cd12 [1,1,1,1,0,1,0,0,1,1,0,1,1]
abbrev p12_29:=cd12 [1,1,1,1,0,1,0,0,1,1,0,1,1,0,1]
abbrev p12_33:=cd12 [1,1,1,0,1,0,0,1,0,0]
abbrev td105:List Item:=[.code (cd12 [1,1,1,1])]
abbrev td106:List Item:=.inBlock 0::td105
abbrev td107:List Item:=.inLoop (cd12 [1,1,1,0,1,0,0])::td106
abbrev td108:List Item:=.code (cd12 [1,1,1,0,1,0,0])::td107
abbrev td109:List Item:=[.code (cd12 [1,1,1,1,1])]
abbrev td110:List Item:=.inBlock 2::td109
abbrev td111:List Item:=.inLoop (cd12 [1,1,1,1,0,1,0,0])::td110
abbrev td112:List Item:=.code (cd12 [1,1,1,1,0,1,0,0])::td111
abbrev td113:List Item:=[.code (cd12 [1,1,1,1,1,1])]
abbrev td114:List Item:=.inBlock 4::td113
abbrev td115:List Item:=.inLoop p12_14::td114
abbrev td116:List Item:=.code p12_14::td115
abbrev td117:List Item:=.inBlock 5::td115
abbrev td118:List Item:=.inBlock 3::td111
def weirlaw14_Book__within.l2 (t10 t43 : List (ByteArray × Int)) : Option (Sum Unit (Bool × Bool)) :=
  (rngM (fun (t68,t69) => (if (((mget t10 t68).getD (0 : Int)) == 0) = true then some (.inr (.inr ((false,false)))) else some (.inl ()))) (some (.inl ())) t43)
def weirlaw14_Book__within.l1 (t10 t100 : List (ByteArray × Int)) : Option (Sum Unit (Bool × Bool)) :=
  (rngM (fun (t124,t125) => (if (((mget t10 t124).getD (0 : Int)) == 0) = true then some (.inr (.inr ((false,false)))) else some (.inl ()))) (some (.inl ())) t100)
def weirlaw14_Book__within.l0 (a1 : List ByteArray) (t156 : Int) (t157 : List (ByteArray × Int)) : Option (List (ByteArray × Int)) :=
  (if (decide (t156 < (a1.length : Int))) = true then (if 0 ≤ t156 ∧ t156 < (a1.length : Int) then (weirlaw14_Book__within.l0 a1 (IntKind.i64.wrap (t156 + 1)) (mput t157 (gt a1 t156) 1)) else none) else some (t157))
 partial_fixpoint
def weirlaw14_Book__within.f (a0v_0m a0v_1m a0v_2m : List (ByteArray × Int)) (y32 : Bool) (a1 : List ByteArray) : Option (Bool × Bool) :=
  (if y32 = true then some ((false,true)) else (weirlaw14_Book__within.l0 a1 0 ([] : List (ByteArray × Int)) >>= (fun t10 => (weirlaw14_Book__within.l1 t10 a0v_0m >>= (fun | .inl () => (weirlaw14_Book__within.l2 t10 a0v_1m >>= (fun | .inl () => some ((true,false)) | .inr e => some e)) | .inr e => some e)))))
theorem weirlaw14_Book__within.ok {a0v_0m a0v_1m a0v_2m : List (ByteArray × Int)} {y32 : Bool} {a1 : List ByteArray} {ba0 y54 : Nat} {y55 y56 : Nat} {Aa1 : Option Addr} {ca1 : Nat} {q0 q1 : Bool} (hp0 : weirlaw14_Book__within.f a0v_0m a0v_1m a0v_2m y32 a1 = some (q0,q1)) (hS0 : St w0 Z (xblk ba0 49 ([.map (some y54),.map (some y55),.map (some y56),.bool y32])::xmap y54 (a0v_0m.map (kv Value.string (Value.int .i64)))::xmap y55 (a0v_1m.map (kv Value.string (Value.int .i64)))::xmap y56 (a0v_2m.map (kv Value.string (Value.int .i64)))::fs) w) (ha1 : SlZ (flat encS) 1 Z Aa1 ca1 a1) :
    Calls Try.prog 12 #[.pointer (some ⟨ba0,0,none⟩),.slice Aa1 a1.length ca1] w (fun e w' => e = .returned (.bool q0) ∧ St w0 Z (xblk ba0 49 ([.map (some y54),.map (some y55),.map (some y56),.bool q1])::xmap y54 (a0v_0m.map (kv Value.string (Value.int .i64)))::xmap y55 (a0v_1m.map (kv Value.string (Value.int .i64)))::xmap y56 (a0v_2m.map (kv Value.string (Value.int .i64)))::fs) w'):=by
  refine calls_abs ?_; intro R hR
  unfold weirlaw14_Book__within.f at hp0
  refine calls_of_runs (fn:=Try.f12) (c:=cd12 []) Try.func12 (by kernel_rfl) (al:=[.pointer (some ⟨ba0,0,none⟩),.slice Aa1 a1.length ca1]) rfl (n:=49) rfl ?_
  refine sR 10 [.inRegion (opsOf (cd12 [1,0,0])) [3],.code (cd12 [1,0,1]),.code (cd12 [1,1])] ?_
  refine rL1 4 (.tmp 11) 3 (hS0.blk 0 rfl) ?_
  refine sR 1 [.code (cd12 [1,0,1]),.code (cd12 [1,1])] ?_
  cases y32
  ·have hp1:=ite_f hp0 rfl
   refine sR 4 [.inRegion (opsOf (cd12 [1,1,0])) [0,1],.code (cd12 [1,1,1])] ?_
   refine r_makeMap (c:=(cd12 [1,1,0])) (i:=0) (d:=(some 13)) (ty:=41) (t:=41) hS0 (by kernel_rfl) (by kernel_rfl) ?_
   intro b2 w3 hS4
   have hS6 : St w0 Z (xmap b2 (([] : List (ByteArray × Int)).map (kv Value.string (Value.int .i64)))::xblk ba0 49 ([.map (some y54),.map (some y55),.map (some y56),.bool false])::xmap y54 (a0v_0m.map (kv Value.string (Value.int .i64)))::xmap y55 (a0v_1m.map (kv Value.string (Value.int .i64)))::xmap y56 (a0v_2m.map (kv Value.string (Value.int .i64)))::fs) w3:=hS4
   refine sR 9 td108 ?_
   obtain ⟨v7,hv8,hp9⟩:=bind_some' hp1
   have J13 : ∀ (t10 : List (ByteArray × Int)) (he15 : t10 = v7) (l14 : List Value) (w11 : World) (hS12 : St w0 Z (xblk ba0 49 ([.map (some y54),.map (some y55),.map (some y56),.bool false])::xmap y54 (a0v_0m.map (kv Value.string (Value.int .i64)))::xmap y55 (a0v_1m.map (kv Value.string (Value.int .i64)))::xmap y56 (a0v_2m.map (kv Value.string (Value.int .i64)))::xmap b2 (t10.map (kv Value.string (Value.int .i64)))::fs) w11),Runs Try.prog (fx 12) td105 (fill (mk 51 [(0,.pointer (some ⟨ba0,0,none⟩)),(5,.map (some b2))]) l14) w11 R:=by
    intro t10 he15 l14 w11 hS12
    subst he15
    try dsimp only at hp9
    refine sR 6 (.inRegion (opsOf (cd12 [1,1,1,1,0,0])) [3,4]::.code (cd12 [1,1,1,1,0,1])::td109) ?_
    refine rL1 41 (.tmp 27) 0 (hS12.blk 0 rfl) ?_
    have hS16:=hS12.pick1
    refine r_rangeM (c:=(cd12 [1,1,1,1,0,0])) (i:=4) (d:=(some 29)) (ty:=0) (t:=41) (kt:=9) (et:=3) (x:=(.tmp 28)) hS16 (by kernel_rfl) (by kernel_rfl) (by kernel_rfl) (by kernel_rfl) ?_
    intro it17 w18 hS19
    refine sR 3 td112 ?_
    obtain ⟨v20,hv21,hp22⟩:=bind_some' hp9
    have hq25 : ∀ x,Sum.inr x = v20 → x = (q0,q1):=by intro x hx; subst hx; simpa using hp22
    have J26 : ∀ (he28 : Sum.inl () = v20) (l27 : List Value) (w23 : World) (hS24 : St w0 Z (xblk ba0 49 ([.map (some y54),.map (some y55),.map (some y56),.bool false])::xmap y54 (a0v_0m.map (kv Value.string (Value.int .i64)))::xmap y55 (a0v_1m.map (kv Value.string (Value.int .i64)))::xmap y56 (a0v_2m.map (kv Value.string (Value.int .i64)))::xmap b2 (t10.map (kv Value.string (Value.int .i64)))::fs) w23),Runs Try.prog (fx 12) td109 (fill (mk 51 [(0,.pointer (some ⟨ba0,0,none⟩)),(5,.map (some b2))]) l27) w23 R:=by
     intro he28 l27 w23 hS24
     subst he28
     try dsimp only at hp22
     refine sR 6 (.inRegion (opsOf (cd12 [1,1,1,1,1,0,0])) [3,4]::.code (cd12 [1,1,1,1,1,0,1])::td113) ?_
     refine rL1 41 (.tmp 40) 1 (hS24.blk 0 rfl) ?_
     have hS29:=hS24.pick2
     refine r_rangeM (c:=(cd12 [1,1,1,1,1,0,0])) (i:=4) (d:=(some 42)) (ty:=0) (t:=41) (kt:=9) (et:=3) (x:=(.tmp 41)) hS29 (by kernel_rfl) (by kernel_rfl) (by kernel_rfl) (by kernel_rfl) ?_
     intro it30 w31 hS32
     refine sR 3 td116 ?_
     obtain ⟨v33,hv34,hp35⟩:=bind_some' hp22
     have hq38 : ∀ x,Sum.inr x = v33 → x = (q0,q1):=by intro x hx; subst hx; simpa using hp35
     have J39 : ∀ (he41 : Sum.inl () = v33) (l40 : List Value) (w36 : World) (hS37 : St w0 Z (xblk ba0 49 ([.map (some y54),.map (some y55),.map (some y56),.bool false])::xmap y54 (a0v_0m.map (kv Value.string (Value.int .i64)))::xmap y55 (a0v_1m.map (kv Value.string (Value.int .i64)))::xmap y56 (a0v_2m.map (kv Value.string (Value.int .i64)))::fs) w36),Runs Try.prog (fx 12) td113 (fill (mk 51 []) l40) w36 R:=by
      intro he41 l40 w36 hS37
      subst he41
      try dsimp only at hp35
      refine sR 4 [.code (cd12 [1,1,1,1,1,1,1])] ?_
      refine rR (.bool true) Try.func12 ?_
      cases Option.some.inj hp35
      exact hR _ _ ⟨rfl,hS37⟩
     have L51 : ∀ (t43 : List (ByteArray × Int)) (e47 : Sum Unit (Bool × Bool)),weirlaw14_Book__within.l2 t10 t43 = some e47 → e47 = v33 → ∀ (l46 : List Value) (w44 : World) (hS45 : St w0 Z (xmap b2 (t10.map (kv Value.string (Value.int .i64)))::xmr y55 it30 (a0v_1m.map (kv Value.string (Value.int .i64))) (t43.map (kv Value.string (Value.int .i64))) none::xblk ba0 49 ([.map (some y54),.map (some y55),.map (some y56),.bool false])::xmap y54 (a0v_0m.map (kv Value.string (Value.int .i64)))::xmap y56 (a0v_2m.map (kv Value.string (Value.int .i64)))::fs) w44),Runs Try.prog (fx 12) td116 (fill (mk 51 [(5,.map (some b2)),(42,.pointer (some ⟨it30,0,none⟩))]) l46) w44 R:=by
      refine rng_ind ?_
      intro t43 ih50 e47 hb49 he48 l46 w44 hS45
      unfold weirlaw14_Book__within.l2 at hb49
      have hq52 : ∀ x,Sum.inr x = e47 → x = (q0,q1):=fun x hx => hq38 x (hx.trans he48)
      refine sR 2 (.inRegion (opsOf p12_16) [0,1]::.code (cd12 [1,1,1,1,1,0,1,0,0,1])::td115) ?_
      have hS53:=hS45.pick1
      refine r_nextM (c:=p12_16) (i:=0) (d:=(some 43)) (ty:=0) (x:=(.tmp 42)) hS53 (by kernel_rfl) (by kernel_rfl) (by kernel_rfl) ?_ ?_
      ·intro hn54; obtain rfl:=List.map_eq_nil_iff.1 hn54
       have hp55:=rng_nil hb49
       have hS56:=hS53.mrShut
       refine sR 5 td113 ?_
       have hS57:=hS56.pick1
       have hS58:=hS57.drop
       have hS59:=hS58.pick3
       have hS60:=hS59.pick1
       have hS61:=hS60.pick3
       have hS62:=hS61.pick3
       exact rF _ (J39 ((Option.some.inj hp55).trans he48) _ _ hS62)
      intro j63 kx64 hj65 w66 hS67; obtain ⟨⟨t68,t69⟩,hj70,rfl,hl71⟩:=kv_at hj65; rw [kv_erase] at hS67
      obtain ⟨q72,hp73,hq74⟩:=rng_step hb49 hj70; have hq75:=rng_out hq74; try dsimp only at hp73
      have hS76 : St w0 Z (xmr y55 it30 (a0v_1m.map (kv Value.string (Value.int .i64))) ((t43.eraseIdx j63).map (kv Value.string (Value.int .i64))) (some (kv Value.string (Value.int .i64) (t68,t69)))::xmap b2 (t10.map (kv Value.string (Value.int .i64)))::xblk ba0 49 ([.map (some y54),.map (some y55),.map (some y56),.bool false])::xmap y54 (a0v_0m.map (kv Value.string (Value.int .i64)))::xmap y56 (a0v_2m.map (kv Value.string (Value.int .i64)))::fs) w66:=hS67
      refine sR 8 (.inRegion (opsOf (cd12 [1,1,1,1,1,0,1,0,0,1,1,0,0])) [0,1,2]::.code (cd12 [1,1,1,1,1,0,1,0,0,1,1,0,1])::td117) ?_
      refine rV (.entry (.tmp 42)) (.tuple #[.string t68,.int .i64 t69]) (fun o ho _ => x_entryM (hS76.at 0 rfl) (by kernel_rfl) ho) ?_
      refine sR 7 (.inRegion (opsOf p12_20) [2,3]::.code p12_21::td117) ?_
      refine rV (.lookup 41 (.tmp 47) (.tmp 48) false) (.int .i64 ((mget t10 t68).getD (0 : Int))) (fun o ho _ => x_lookup1 (eK:=Value.string) (eV:=(Value.int .i64)) (dk:=.string) (b:=b2) (t:=41) (kt:=9) (et:=3) (m:=t10) (kk:=t68) (z:=(0 : Int)) (hS76.at 1 rfl) key_str (by kernel_rfl) (by kernel_rfl) (by kernel_rfl) (by kernel_rfl) (by kernel_rfl) ho) ?_
      refine sI 1 (.inRegion (opsOf p12_20) []::.code p12_21::td117) 50 hp73 (fun hp79 => ?_) fun hp88 => ?_
      ·refine sR 6 (.code p12_22::td117) ?_
       refine r_isret (c:=p12_22) (by kernel_rfl) ?_
       have hS80:=hS76.mrShut
       have hS81:=hS80.pick1
       have hS82:=hS81.drop
       have hS83:=hS82.pick3
       have hS84:=hS83.pick1
       have hS85:=hS84.pick3
       have hS86:=hS85.pick3
       refine rR (.bool false) Try.func12 ?_
       cases hq52 _ (hq75 _ (Option.some.inj hp79))
       exact hR _ _ ⟨rfl,hS86⟩
      refine sR 4 td115 ?_
      have hS89:=hS76.mrOn
      have hS90:=hS89.pick4
      have hS91:=hS90.pick4
      have hS92:=hS91.pick4
      have hS93:=hS92.pick3
      have hS94:=hS93.pick4
      refine sR 1 td116 ?_
      exact rF _ (ih50 j63 hl71 _ (rng_on hq74 (Option.some.inj hp88)) he48 _ _ hS94)
     have hS95:=hS32.pick3
     have hS96:=hS95.pick3
     have hS97:=hS96.pick3
     have hS98:=hS97.pick3
     have hS99:=hS98.pick4
     exact rF _ (L51 a0v_1m _ hv34 rfl _ _ hS99)
    have L108 : ∀ (t100 : List (ByteArray × Int)) (e104 : Sum Unit (Bool × Bool)),weirlaw14_Book__within.l1 t10 t100 = some e104 → e104 = v20 → ∀ (l103 : List Value) (w101 : World) (hS102 : St w0 Z (xblk ba0 49 ([.map (some y54),.map (some y55),.map (some y56),.bool false])::xmr y54 it17 (a0v_0m.map (kv Value.string (Value.int .i64))) (t100.map (kv Value.string (Value.int .i64))) none::xmap y55 (a0v_1m.map (kv Value.string (Value.int .i64)))::xmap y56 (a0v_2m.map (kv Value.string (Value.int .i64)))::xmap b2 (t10.map (kv Value.string (Value.int .i64)))::fs) w101),Runs Try.prog (fx 12) td112 (fill (mk 51 [(0,.pointer (some ⟨ba0,0,none⟩)),(5,.map (some b2)),(29,.pointer (some ⟨it17,0,none⟩))]) l103) w101 R:=by
     refine rng_ind ?_
     intro t100 ih107 e104 hb106 he105 l103 w101 hS102
     unfold weirlaw14_Book__within.l1 at hb106
     have hq109 : ∀ x,Sum.inr x = e104 → x = (q0,q1):=fun x hx => hq25 x (hx.trans he105)
     refine sR 2 (.inRegion (opsOf p12_23) [0,1]::.code (cd12 [1,1,1,1,0,1,0,0,1])::td111) ?_
     have hS110:=hS102.pick1
     refine r_nextM (c:=p12_23) (i:=0) (d:=(some 30)) (ty:=0) (x:=(.tmp 29)) hS110 (by kernel_rfl) (by kernel_rfl) (by kernel_rfl) ?_ ?_
     ·intro hn111; obtain rfl:=List.map_eq_nil_iff.1 hn111
      have hp112:=rng_nil hb106
      have hS113:=hS110.mrShut
      refine sR 5 td109 ?_
      have hS114:=hS113.pick4
      have hS115:=hS114.pick4
      have hS116:=hS115.pick4
      have hS117:=hS116.pick3
      have hS118:=hS117.pick4
      exact rF _ (J26 ((Option.some.inj hp112).trans he105) _ _ hS118)
     intro j119 kx120 hj121 w122 hS123; obtain ⟨⟨t124,t125⟩,hj126,rfl,hl127⟩:=kv_at hj121; rw [kv_erase] at hS123
     obtain ⟨q128,hp129,hq130⟩:=rng_step hb106 hj126; have hq131:=rng_out hq130; try dsimp only at hp129
     have hS132 : St w0 Z (xmr y54 it17 (a0v_0m.map (kv Value.string (Value.int .i64))) ((t100.eraseIdx j119).map (kv Value.string (Value.int .i64))) (some (kv Value.string (Value.int .i64) (t124,t125)))::xblk ba0 49 ([.map (some y54),.map (some y55),.map (some y56),.bool false])::xmap y55 (a0v_1m.map (kv Value.string (Value.int .i64)))::xmap y56 (a0v_2m.map (kv Value.string (Value.int .i64)))::xmap b2 (t10.map (kv Value.string (Value.int .i64)))::fs) w122:=hS123
     refine sR 8 (.inRegion (opsOf (cd12 [1,1,1,1,0,1,0,0,1,1,0,0])) [0,1,2]::.code (cd12 [1,1,1,1,0,1,0,0,1,1,0,1])::td118) ?_
     refine rV (.entry (.tmp 29)) (.tuple #[.string t124,.int .i64 t125]) (fun o ho _ => x_entryM (hS132.at 0 rfl) (by kernel_rfl) ho) ?_
     refine sR 7 (.inRegion (opsOf p12_27) [2,3]::.code p12_28::td118) ?_
     refine rV (.lookup 41 (.tmp 34) (.tmp 35) false) (.int .i64 ((mget t10 t124).getD (0 : Int))) (fun o ho _ => x_lookup1 (eK:=Value.string) (eV:=(Value.int .i64)) (dk:=.string) (b:=b2) (t:=41) (kt:=9) (et:=3) (m:=t10) (kk:=t124) (z:=(0 : Int)) (hS132.at 4 rfl) key_str (by kernel_rfl) (by kernel_rfl) (by kernel_rfl) (by kernel_rfl) (by kernel_rfl) ho) ?_
     refine sI 1 (.inRegion (opsOf p12_27) []::.code p12_28::td118) 37 hp129 (fun hp135 => ?_) fun hp144 => ?_
     ·refine sR 6 (.code p12_29::td118) ?_
      refine r_isret (c:=p12_29) (by kernel_rfl) ?_
      have hS136:=hS132.mrShut
      have hS137:=hS136.pick4
      have hS138:=hS137.drop
      have hS139:=hS138.pick3
      have hS140:=hS139.pick3
      have hS141:=hS140.pick2
      have hS142:=hS141.pick3
      refine rR (.bool false) Try.func12 ?_
      cases hq109 _ (hq131 _ (Option.some.inj hp135))
      exact hR _ _ ⟨rfl,hS142⟩
     refine sR 4 td111 ?_
     have hS145:=hS132.mrOn
     have hS146:=hS145.pick4
     have hS147:=hS146.pick4
     have hS148:=hS147.pick4
     have hS149:=hS148.pick3
     have hS150:=hS149.pick4
     refine sR 1 td112 ?_
     exact rF _ (ih107 j119 hl127 _ (rng_on hq130 (Option.some.inj hp144)) he105 _ _ hS150)
    have hS151:=hS19.pick4
    have hS152:=hS151.pick4
    have hS153:=hS152.pick4
    have hS154:=hS153.pick3
    have hS155:=hS154.pick4
    exact rF _ (L108 a0v_0m _ hv21 rfl _ _ hS155)
   have L166 : ∀ (t156 : Int) (t157 : List (ByteArray × Int)) (e161 : (List (ByteArray × Int))),weirlaw14_Book__within.l0 a1 t156 t157 = some e161 → e161 = v7 → ∀ (l160 : List Value) (w158 : World) (hS159 : St w0 Z (xblk ba0 49 ([.map (some y54),.map (some y55),.map (some y56),.bool false])::xmap y54 (a0v_0m.map (kv Value.string (Value.int .i64)))::xmap y55 (a0v_1m.map (kv Value.string (Value.int .i64)))::xmap y56 (a0v_2m.map (kv Value.string (Value.int .i64)))::xmap b2 (t157.map (kv Value.string (Value.int .i64)))::fs) w158),Runs Try.prog (fx 12) td108 (fill (mk 51 [(0,.pointer (some ⟨ba0,0,none⟩)),(1,.slice Aa1 a1.length ca1),(5,.map (some b2)),(6,.int .i64 t156)]) l160) w158 R:=by
    refine weirlaw14_Book__within.l0.partial_correctness a1 (fun t156 t157 e161 => e161 = v7 → ∀ (l160 : List Value) (w158 : World) (hS159 : St w0 Z (xblk ba0 49 ([.map (some y54),.map (some y55),.map (some y56),.bool false])::xmap y54 (a0v_0m.map (kv Value.string (Value.int .i64)))::xmap y55 (a0v_1m.map (kv Value.string (Value.int .i64)))::xmap y56 (a0v_2m.map (kv Value.string (Value.int .i64)))::xmap b2 (t157.map (kv Value.string (Value.int .i64)))::fs) w158),Runs Try.prog (fx 12) td108 (fill (mk 51 [(0,.pointer (some ⟨ba0,0,none⟩)),(1,.slice Aa1 a1.length ca1),(5,.map (some b2)),(6,.int .i64 t156)]) l160) w158 R) ?_
    intro rec165 ih164 t156 t157 e161 hb163 he162 l160 w158 hS159
    refine sI 7 (.inRegion (opsOf (cd12 [1,1,1,0,1,0,0,0,0])) []::.code (cd12 [1,1,1,0,1,0,0,0,1])::.code (cd12 [1,1,1,0,1,0,0,1])::td107) 17 hb163 (fun hp169 => ?_) fun hp183 => ?_
    ·refine sR 9 (.inRegion (opsOf p12_33) [3,4,5]::.inBlock 1::.code (cd12 [1,1,1,0,1,0,0,1,1])::td107) ?_
     obtain ⟨g170,hp171⟩:=ite_some hp169
     obtain ⟨b172,p173,hA174,hc175⟩:=ha1.atF g170.1 g170.2
     refine r_indexAddr (c:=p12_33) (i:=3) (d:=(some 23)) (ty:=0) (t:=36) (e:=9) (n:=a1.length) (cp:=ca1) (sz:=1) (kk:=.i64) (x:=(.tmp 21)) (y:=(.tmp 22)) (b:=b172) (o':=p173) (j:=t156) (by kernel_rfl) (by kernel_rfl) (slv (by kernel_rfl) hA174) (by kernel_rfl) (by kernel_rfl) (by kernel_rfl) g170.1 g170.2 ?_
     refine rL1 9 (.tmp 23) 0 (hc175.cells hS159) ?_
     have hS176:=hS159.pick4
     refine r_mapUpdate (c:=p12_33) (i:=5) (d:=none) (ty:=0) (eK:=Value.string) (eV:=(Value.int .i64)) (dk:=.string) (b:=b2) (t:=41) (kt:=9) (et:=3) (x:=(.tmp 20)) (y:=(.tmp 24)) (z:=(.const (.int .i64 1))) (m:=t157) (kk:=(gt a1 t156)) (v:=1) hS176 (by kernel_rfl) (by kernel_rfl) key_str (by kernel_rfl) (by kernel_rfl) (by kernel_rfl) (by kernel_rfl) (by kernel_rfl) ?_
     intro w177 hS178
     refine sR 7 td107 ?_
     have hS179:=hS178.pick4
     have hS180:=hS179.pick4
     have hS181:=hS180.pick4
     have hS182:=hS181.pick4
     refine sR 1 td108 ?_
     exact rF _ (ih164 (IntKind.i64.wrap (t156 + 1)) (mput t157 (gt a1 t156) 1) _ hp171 he162 _ _ hS182)
    refine sR 3 td105 ?_
    exact rF _ (J13 t157 ((Option.some.inj hp183).trans he162) _ _ hS159)
   have hS184:=hS6.pick4
   have hS185:=hS184.pick4
   have hS186:=hS185.pick4
   have hS187:=hS186.pick4
   exact rF _ (L166 0 ([] : List (ByteArray × Int)) _ hv8 rfl _ _ hS187)
  have hp188:=ite_t hp0 rfl
  refine sR 5 [.code (cd12 [1,0,1,0,1]),.code (cd12 [1,1])] ?_
  refine rR (.bool false) Try.func12 ?_
  cases Option.some.inj hp188
  exact hR _ _ ⟨rfl,hS0⟩

noncomputable def cd21 (p : List Nat) : Code := sub (bodyOf Try.f21) p
abbrev p21_6:=cd21 [1,1,1]
abbrev p21_16:=cd21 [1,1,1,1,1,1,1,0,1,0,0]
abbrev p21_18:=cd21 [1,1,1,1,1,1,1,1,0,0]
abbrev p21_20:=cd21 [1,1,1,1,1,1,1,1,1]
abbrev p21_22:=cd21 [1,1,1,1,1,1,1,1,1,0]
abbrev p21_23:=cd21 [1,1,1,1,1,1,1,1,1,1]
abbrev p21_27:=cd21 [1,1,1,1,1,1,1,0,1,0,0,1,0,1,0,1,0,0]
abbrev p21_31:=cd21 [1,1,1,1,1,1,1,0,1,0,0,1,0,1,1,1,0,1]
abbrev p21_35:=cd21 [1,1,1,1,1,1,1,0,1,0,0,1,0,1,0,1,0,0,1,0,0,0]
abbrev p21_41:=cd21 [1,1,1,1,1,1,1,0,1,0,0,1,0,1,0,1,0,0,1,0,0,1,0,1,0,0]
abbrev p21_45:=cd21 [1,1,1,1,1,1,1,0,1,0,0,1,0,1,0,1,0,0,1,0,0,1,1,1,0,0]
abbrev p21_46:=cd21 [1,1,1,1,1,1,1,0,1,0,0,1,0,1,0,1,0,0,1,0,0,1,1,1,0,1]
abbrev p21_48:=cd21 [1,1,1,1,1,1,1,0,1,0,0,1,0,1,0,1,0,0,1,0,0,1,1,1,1,0,1,0,0]
abbrev p21_50:=cd21 [1,1,1,1,1,1,1,0,1,0,0,1,0,1,0,1,0,0,1,0,0,1,1,1,1,1,0]
abbrev p21_52:=cd21 [1,1,1,1,1,1,1,0,1,0,0,1,0,1,0,1,0,0,1,0,0,1,1,1,1,0,1,0,0,0,0]
abbrev p21_55:=cd21 [1,1,1,1,1,1,1,0,1,0,0,1,0,1,0,1,0,0,1,0,0,1,1,1,1,0,1,0,0,1,0,0,0]
abbrev p21_58:=cd21 [1,1,1,1,1,1,1,0,1,0,0,1,0,1,0,1,0,0,1,0,0,1,1,1,1,0,1,0,0,1,0,0,1,0]
abbrev p21_59:=cd21 [1,1,1,1,1,1,1,0,1,0,0,1,0,1,0,1,0,0,1,0,0,1,1,1,1,0,1,0,0,1,0,0,1,1]
abbrev p21_60:=cd21 [1,1,1,1,1,1,1,0,1,0,0,1,0,1,0,1,0,0,1,0,0,1,1,1,0,1,0]
abbrev p21_61:=cd21 [1,1,1,1,1,1,1,0,1,0,0,1,0,1,0,1,0,0,1,0,0,1,0,1,0,0,0,0]
abbrev p21_64:=cd21 [1,1,1,1,1,1,1,0,1,0,0,1,0,1,0,1,0,0,1,0,0,1,0,1,0,0,1,0,0]
abbrev td119:List Item:=[.code (cd21 [1,1,1,1,1,1,1,1])]
abbrev td120:List Item:=.inBlock 0::td119
abbrev td121:List Item:=.inLoop p21_16::td120
abbrev td122:List Item:=.code p21_16::td121
abbrev td123:List Item:=.inBlock 1::td121
abbrev td124:List Item:=.code (cd21 [1,1,1,1,1,1,1,0,1,0,0,1,0,1,1])::td123
abbrev td125:List Item:=.inBlock 2::td124
abbrev td126:List Item:=.inLoop p21_27::td125
abbrev td127:List Item:=.code p21_27::td126
abbrev td128:List Item:=.code (cd21 [1,1,1,1,1,1,1,0,1,0,0,1,0,1,0,1,0,0,1,1])::td126
abbrev td129:List Item:=.inBlock 3::td128
abbrev td130:List Item:=.code (cd21 [1,1,1,1,1,1,1,0,1,0,0,1,0,1,0,1,0,0,1,0,0,1,1])::td129
abbrev td131:List Item:=.code (cd21 [1,1,1,1,1,1,1,0,1,0,0,1,0,1,0,1,0,0,1,0,0,1,0,1])::td130
abbrev td132:List Item:=.code (cd21 [1,1,1,1,1,1,1,0,1,0,0,1,0,1,0,1,0,0,1,0,0,1,0,0])::td131
abbrev td133:List Item:=.inBlock 4::td130
abbrev td134:List Item:=.inLoop p21_41::td133
abbrev td135:List Item:=.code p21_41::td134
abbrev td136:List Item:=.code (cd21 [1,1,1,1,1,1,1,0,1,0,0,1,0,1,0,1,0,0,1,0,0,1,1,1,1])::td129
abbrev td137:List Item:=.code (cd21 [1,1,1,1,1,1,1,0,1,0,0,1,0,1,0,1,0,0,1,0,0,1,1,1,1,1])::td129
abbrev td138:List Item:=.inBlock 6::td137
abbrev td139:List Item:=.inLoop p21_48::td138
abbrev td140:List Item:=.code p21_48::td139
abbrev td141:List Item:=.code (cd21 [1,1,1,1,1,1,1,0,1,0,0,1,0,1,0,1,0,0,1,0,0,1,1,1,1,0,1,0,0,1])::td139
abbrev td142:List Item:=.code (cd21 [1,1,1,1,1,1,1,0,1,0,0,1,0,1,0,1,0,0,1,0,0,1,1,1,1,0,1,0,0,0,1])::td141
abbrev td143:List Item:=.code (cd21 [1,1,1,1,1,1,1,0,1,0,0,1,0,1,0,1,0,0,1,0,0,1,1,1,1,0,1,0,0,1,1])::td139
abbrev td144:List Item:=.inBlock 7::td143
abbrev td145:List Item:=.code (cd21 [1,1,1,1,1,1,1,0,1,0,0,1,0,1,0,1,0,0,1,0,0,1,1,1,1,0,1,0,0,1,0,0,1])::td144
abbrev td146:List Item:=.code p21_59::td144
abbrev td147:List Item:=.code (cd21 [1,1,1,1,1,1,1,0,1,0,0,1,0,1,0,1,0,0,1,0,0,1,0,1,0,0,1])::td134
abbrev td148:List Item:=.code (cd21 [1,1,1,1,1,1,1,0,1,0,0,1,0,1,0,1,0,0,1,0,0,1,0,1,0,0,0,1])::td147
abbrev td149:List Item:=.code (cd21 [1,1,1,1,1,1,1,0,1,0,0,1,0,1,0,1,0,0,1,0,0,1,0,1,0,0,1,1])::td134
abbrev td150:List Item:=.inBlock 5::td149
def weirref14_Runs.l3 (t7 : List (List weirref14_Move)) (t184 t279 : Int) (t280 : List Int) (t281 : List Bool) : Option ((List Int) × (List Bool)) :=
  (if 0 ≤ t184 ∧ t184 < (t7.length : Int) then (if (decide (t279 < ((gt t7 t184).length : Int))) = true then (if 0 ≤ t184 ∧ t184 < (t7.length : Int) then (if 0 ≤ t279 ∧ t279 < ((gt t7 t184).length : Int) then (((if 0 ≤ t184 ∧ t184 < (t281.length : Int) then (if (gt t281 t184) = true then (if 0 ≤ t184 ∧ t184 < (t281.length : Int) then some ((setl t281 t184 true)) else none) else (if 0 ≤ ((gt (gt t7 t184) t279).To) ∧ ((gt (gt t7 t184) t279).To) < (t281.length : Int) then (if (gt t281 ((gt (gt t7 t184) t279).To)) = true then (if 0 ≤ t184 ∧ t184 < (t281.length : Int) then some ((setl t281 t184 true)) else none) else (if 0 ≤ t184 ∧ t184 < (t280.length : Int) then (if 0 ≤ ((gt (gt t7 t184) t279).To) ∧ ((gt (gt t7 t184) t279).To) < (t280.length : Int) then (if 0 ≤ t184 ∧ t184 < (t280.length : Int) then (if (decide ((IntKind.u64.wrap ((gt t280 t184) + (gt t280 ((gt (gt t7 t184) t279).To)))) < (gt t280 t184))) = true then (if 0 ≤ t184 ∧ t184 < (t281.length : Int) then some ((setl t281 t184 true)) else none) else (if 0 ≤ t184 ∧ t184 < (t281.length : Int) then some ((setl t281 t184 false)) else none)) else none) else none) else none)) else none)) else none) : Option (List Bool)) >>= (fun t329 => (if 0 ≤ t184 ∧ t184 < (t280.length : Int) then (if 0 ≤ ((gt (gt t7 t184) t279).To) ∧ ((gt (gt t7 t184) t279).To) < (t280.length : Int) then (if 0 ≤ t184 ∧ t184 < (t280.length : Int) then (weirref14_Runs.l3 t7 t184 (IntKind.i64.wrap (t279 + 1)) (setl t280 t184 (IntKind.u64.wrap ((gt t280 t184) + (gt t280 ((gt (gt t7 t184) t279).To))))) t329) else none) else none) else none))) else none) else none) else some ((t280,t281))) else none)
 partial_fixpoint
def weirref14_Runs.l2 (t7 : List (List weirref14_Move)) (t184 : Int) (t185 : List Bool) (t560 : Bool) (t561 : Int) : Option Bool :=
  (if 0 ≤ t184 ∧ t184 < (t7.length : Int) then (if (decide (t561 < ((gt t7 t184).length : Int))) = true then (if t560 = true then (if 0 ≤ t184 ∧ t184 < (t7.length : Int) then (if 0 ≤ t561 ∧ t561 < ((gt t7 t184).length : Int) then (if 0 ≤ ((gt (gt t7 t184) t561).To) ∧ ((gt (gt t7 t184) t561).To) < (t185.length : Int) then (if (gt t185 ((gt (gt t7 t184) t561).To)) = true then (weirref14_Runs.l2 t7 t184 t185 true (IntKind.i64.wrap (t561 + 1))) else (weirref14_Runs.l2 t7 t184 t185 false (IntKind.i64.wrap (t561 + 1)))) else none) else none) else none) else (weirref14_Runs.l2 t7 t184 t185 false (IntKind.i64.wrap (t561 + 1)))) else some (t560)) else none)
 partial_fixpoint
def weirref14_Runs.l1 (t7 : List (List weirref14_Move)) (t8 : List Bool) (t183 t184 : Int) (t185 : List Bool) (t186 : List Int) (t187 : List Bool) : Option (Int × (List Bool) × (List Int) × (List Bool)) :=
  (if (decide (t184 ≥ 0)) = true then (if 0 ≤ t184 ∧ t184 < (t185.length : Int) then (((if (gt t185 t184) = true then some (false) else some (true)) : Option Bool) >>= (fun t209 => (weirref14_Runs.l2 t7 t184 t185 t209 0 >>= (fun t218 => (if (!t218) = true then (weirref14_Runs.l1 t7 t8 (id t183) (IntKind.i64.wrap (t184 - 1)) (id t185) (id t186) (id t187)) else (if 0 ≤ t184 ∧ t184 < (t8.length : Int) then (((if (gt t8 t184) = true then (if 0 ≤ t184 ∧ t184 < (t186.length : Int) then some ((setl t186 t184 1)) else none) else some (t186)) : Option (List Int)) >>= (fun t237 => (weirref14_Runs.l3 t7 t184 0 t237 t187 >>= (fun (t246,t247) => (if 0 ≤ t184 ∧ t184 < (t185.length : Int) then (weirref14_Runs.l1 t7 t8 (IntKind.i64.wrap (t183 - 1)) (IntKind.i64.wrap (t184 - 1)) (setl t185 t184 true) t246 t247) else none))))) else none)))))) else none) else some ((t183,t185,t186,t187)))
 partial_fixpoint
def weirref14_Runs.l0 (t5 : List ByteArray) (t7 : List (List weirref14_Move)) (t8 : List Bool) (t14 : Bool) (t15 t16 t17 : List (ByteArray × Int)) (t137 : Int) (t138 : List Bool) (t139 : List Int) (t140 : List Bool) : Option (Sum ((List Int) × (List Bool)) (Int × Int × Bool × (List (ByteArray × Int)) × (List (ByteArray × Int)) × (List (ByteArray × Int)))) :=
  (if (decide (t137 > 0)) = true then (weirref14_Runs.l1 t7 t8 t137 (IntKind.i64.wrap ((t5.length : Int) - 1)) t138 t139 t140 >>= (fun (t157,t158,t159,t160) => (if (t157 == t137) = true then some (.inr ((0,30,t14,t15,t16,t17))) else (weirref14_Runs.l0 t5 t7 t8 t14 t15 t16 t17 t157 t158 t159 t160)))) else some (.inl (t139,t140)))
 partial_fixpoint
def weirref14_Runs.f (y9 : ByteArray) (a0_1c0vv_0m a0_1c0vv_1m a0_1c0vv_2m : List (ByteArray × Int)) (a0_1c0vv_3 : Bool) (a0_1c1v : weirlaw14_Net) (a1 : Int) : Option (Int × Int × Bool × (List (ByteArray × Int)) × (List (ByteArray × Int)) × (List (ByteArray × Int))) :=
  (weirref14_Lay.f y9 a0_1c0vv_0m a0_1c0vv_1m a0_1c0vv_2m a0_1c0vv_3 a0_1c1v a1 >>= (fun (t5,t6,t7,t8,t9,t10,t11,t12,t13,t14,t15,t16,t17) => (if (!t12) = true then some ((0,1,t14,t15,t16,t17)) else (if 0 ≤ (t5.length : Int) ∧ (t5.length : Int) * 1 ≤ 140737488355328 then (if 0 ≤ (t5.length : Int) ∧ (t5.length : Int) * 8 ≤ 140737488355328 then (if 0 ≤ (t5.length : Int) ∧ (t5.length : Int) * 1 ≤ 140737488355328 then (weirref14_Runs.l0 t5 t7 t8 t14 t15 t16 t17 (t5.length : Int) (List.replicate (t5.length : Int).toNat false) (List.replicate (t5.length : Int).toNat (0 : Int)) (List.replicate (t5.length : Int).toNat false) >>= (fun | .inl (t105,t106) => (if 0 ≤ (0 : Int) ∧ (0 : Int) < (t106.length : Int) then (if (gt t106 (0 : Int)) = true then some ((0,30,t14,t15,t16,t17)) else (if 0 ≤ (0 : Int) ∧ (0 : Int) < (t105.length : Int) then some (((gt t105 (0 : Int)),0,t14,t15,t16,t17)) else none)) else none) | .inr e => some e)) else none) else none) else none))))
theorem weirref14_Runs.ok {y9 : ByteArray} {a0_1c0vv_0m a0_1c0vv_1m a0_1c0vv_2m : List (ByteArray × Int)} {a0_1c0vv_3 : Bool} {a0_1c1v : weirlaw14_Net} {a1 : Int} {ba0_1c0 ba0_1c0v : Nat} {ba0_1c0vv_0 ba0_1c0vv_1 : Nat} {ba0_1c0vv_2 ba0_1c1 : Nat} {Aa0_1c1v_0 : Option Addr} {ca0_1c1v_0 : Nat} {Aa0_1c1v_1 : Option Addr} {ca0_1c1v_1 : Nat} {Aa0_1c1v_2 : Option Addr} {ca0_1c1v_2 : Nat} {q0 q1 : Int} {q2 : Bool} {q3 q4 q5 : List (ByteArray × Int)} (hp0 : weirref14_Runs.f y9 a0_1c0vv_0m a0_1c0vv_1m a0_1c0vv_2m a0_1c0vv_3 a0_1c1v a1 = some (q0,q1,q2,q3,q4,q5)) (hS0 : St w0 Z (xblk ba0_1c0 33 ([.pointer (some ⟨ba0_1c0v,0,none⟩)])::xblk ba0_1c0v 49 ([.map (some ba0_1c0vv_0),.map (some ba0_1c0vv_1),.map (some ba0_1c0vv_2),.bool a0_1c0vv_3])::xmap ba0_1c0vv_0 (a0_1c0vv_0m.map (kv Value.string (Value.int .i64)))::xmap ba0_1c0vv_1 (a0_1c0vv_1m.map (kv Value.string (Value.int .i64)))::xmap ba0_1c0vv_2 (a0_1c0vv_2m.map (kv Value.string (Value.int .i64)))::xblk ba0_1c1 26 ([.slice Aa0_1c1v_0 a0_1c1v.Next.length ca0_1c1v_0,.slice Aa0_1c1v_1 a0_1c1v.End.length ca0_1c1v_1,.slice Aa0_1c1v_2 a0_1c1v.Value.length ca0_1c1v_2,.int .i64 a0_1c1v.Start])::fs) w) (ha0_1c1v_0 : SlZ (repL (flat (encI .i64)) 1) 1 Z Aa0_1c1v_0 ca0_1c1v_0 a0_1c1v.Next) (ha0_1c1v_1 : SlZ (flat encB) 1 Z Aa0_1c1v_1 ca0_1c1v_1 a0_1c1v.End) (ha0_1c1v_2 : SlZ (flat (encI .i64)) 1 Z Aa0_1c1v_2 ca0_1c1v_2 a0_1c1v.Value) :
    Calls Try.prog 21 #[.agg #[.string y9,.func (.func 28) #[] #[.pointer (some ⟨ba0_1c0,0,none⟩),.pointer (some ⟨ba0_1c1,0,none⟩)],.func (.func 31) #[] #[.pointer (some ⟨ba0_1c1,0,none⟩),.pointer (some ⟨ba0_1c0,0,none⟩)],.func (.func 32) #[] #[.pointer (some ⟨ba0_1c0,0,none⟩),.pointer (some ⟨ba0_1c1,0,none⟩)]],.int .i64 a1] w (fun e w' => e = .returned (.tuple #[.int .u64 q0,.int .i64 q1]) ∧ St w0 Z (xblk ba0_1c0 33 ([.pointer (some ⟨ba0_1c0v,0,none⟩)])::xblk ba0_1c0v 49 ([.map (some ba0_1c0vv_0),.map (some ba0_1c0vv_1),.map (some ba0_1c0vv_2),.bool q2])::xmap ba0_1c0vv_0 (q3.map (kv Value.string (Value.int .i64)))::xmap ba0_1c0vv_1 (q4.map (kv Value.string (Value.int .i64)))::xmap ba0_1c0vv_2 (q5.map (kv Value.string (Value.int .i64)))::xblk ba0_1c1 26 ([.slice Aa0_1c1v_0 a0_1c1v.Next.length ca0_1c1v_0,.slice Aa0_1c1v_1 a0_1c1v.End.length ca0_1c1v_1,.slice Aa0_1c1v_2 a0_1c1v.Value.length ca0_1c1v_2,.int .i64 a0_1c1v.Start])::fs) w'):=by
  refine calls_abs ?_; intro R hR
  unfold weirref14_Runs.f at hp0
  refine calls_of_runs (fn:=Try.f21) (c:=cd21 []) Try.func21 (by kernel_rfl) (al:=[.agg #[.string y9,.func (.func 28) #[] #[.pointer (some ⟨ba0_1c0,0,none⟩),.pointer (some ⟨ba0_1c1,0,none⟩)],.func (.func 31) #[] #[.pointer (some ⟨ba0_1c1,0,none⟩),.pointer (some ⟨ba0_1c0,0,none⟩)],.func (.func 32) #[] #[.pointer (some ⟨ba0_1c0,0,none⟩),.pointer (some ⟨ba0_1c1,0,none⟩)]],.int .i64 a1]) rfl (n:=155) rfl ?_
  refine sR 2 [.inRegion (opsOf (cd21 [0])) [0,1,2],.code (cd21 [1])] ?_
  refine r_box (c:=(cd21 [0])) (i:=0) (d:=(some 2)) (ty:=0) (x:=(.tmp 0)) (v:=.agg #[.string y9,.func (.func 28) #[] #[.pointer (some ⟨ba0_1c0,0,none⟩),.pointer (some ⟨ba0_1c1,0,none⟩)],.func (.func 31) #[] #[.pointer (some ⟨ba0_1c1,0,none⟩),.pointer (some ⟨ba0_1c0,0,none⟩)],.func (.func 32) #[] #[.pointer (some ⟨ba0_1c0,0,none⟩),.pointer (some ⟨ba0_1c1,0,none⟩)]]) (t:=32) (cs:=[.string y9,.func (.func 28) #[] #[.pointer (some ⟨ba0_1c0,0,none⟩),.pointer (some ⟨ba0_1c1,0,none⟩)],.func (.func 31) #[] #[.pointer (some ⟨ba0_1c1,0,none⟩),.pointer (some ⟨ba0_1c0,0,none⟩)],.func (.func 32) #[] #[.pointer (some ⟨ba0_1c0,0,none⟩),.pointer (some ⟨ba0_1c1,0,none⟩)]]) hS0 (by kernel_rfl) (by kernel_rfl) (by kernel_rfl) (by kernel_rfl) ?_
  intro b1 w2 hS3
  refine sR 5 [iR (cd21 [1,0]) 0 5,.code (cd21 [1,1])] ?_
  refine rLa 32 (.tmp 2) (hS3.blk 0 rfl) ?_
  refine sR 1 [.inRegion (opsOf (cd21 [1,0])) [2,3,4],.code (cd21 [1,1])] ?_
  obtain ⟨⟨t5,t6,t7,t8,t9,t10,t11,t12,t13,t14,t15,t16,t17⟩,hr34,hp35⟩:=bind_some' hp0
  try dsimp only at hp35
  have hS47:=hS3.pick6
  have hS48:=hS47.pick6
  have hS49:=hS48.pick6
  have hS50:=hS49.pick6
  have hS51:=hS50.pick6
  have hS52:=hS51.pick6
  refine rC (weirref14_Lay.ok hr34 hS52 ha0_1c1v_0 ha0_1c1v_1 ha0_1c1v_2) ?_
  rintro _ w53 ⟨Q18,Q19,Q20,Q21,Q22,Q23,Q24,Q25,Q26,Q27,Q28,Q29,Q30,Q31,Q32,Q33,rfl,hS54⟩
  refine ⟨_,rfl,?_⟩
  have hS55:=hS54.pick2
  obtain ⟨Z56,hz57,hS58,hs59,-⟩:=hS55.lendrr len_weirref14_Move (by omega)
  refine rA 43 (.agg #[.slice none 0 0,.slice none 0 0,.slice none 0 0,.slice none 0 0,.slice none 0 0,.slice none 0 0,.slice none 0 0,.bool false,.map none]) [.slice none 0 0,.slice none 0 0,.slice none 0 0,.slice none 0 0,.slice none 0 0,.slice none 0 0,.slice none 0 0,.bool false,.map none] hS58 ?_
  intro b60 w61 hS62
  refine rS 43 (.tmp 6) (.tmp 20) 0 (.agg #[.slice Q18 t5.length Q19,.slice Q20 t6.length Q21,.slice Q22 t7.length Q23,.slice Q25 t8.length Q26,.slice Q27 t9.length Q28,.slice Q29 t10.length Q30,.slice Q31 t11.length Q32,.bool t12,.map (some Q33)]) [.slice Q18 t5.length Q19,.slice Q20 t6.length Q21,.slice Q22 t7.length Q23,.slice Q25 t8.length Q26,.slice Q27 t9.length Q28,.slice Q29 t10.length Q30,.slice Q31 t11.length Q32,.bool t12,.map (some Q33)] [.slice Q18 t5.length Q19,.slice Q20 t6.length Q21,.slice Q22 t7.length Q23,.slice Q25 t8.length Q26,.slice Q27 t9.length Q28,.slice Q29 t10.length Q30,.slice Q31 t11.length Q32,.bool t12,.map (some Q33)] hS62 ?_
  intro w64 hS65
  refine sR 5 [.inRegion (opsOf (cd21 [1,1,0,0])) [1,2],.code (cd21 [1,1,0,1]),.code p21_6] ?_
  refine rL1 4 (.tmp 21) 7 (hS65.blk 0 rfl) ?_
  refine sI 1 [.inRegion (opsOf (cd21 [1,1,0,0])) [],.code (cd21 [1,1,0,1]),.code p21_6] 23 hp35 (fun hp68 => ?_) fun hp81 => ?_
  ·refine sR 7 [.code (cd21 [1,1,0,1,0,1]),.code p21_6] ?_
   have hS69:=hS65.drop
   have hS70:=hS69.drop
   have hS71:=hS70.drop
   have hS72:=hS71.drop
   have hS73:=hS72.drop
   have hS74:=hS73.drop
   have hS75:=hS74.drop
   have hS76:=hS75.drop
   have hS77:=hS76.pick6
   have hS78:=hS77.drop
   have hS79:=hS78.less hz57
   refine rR (.tuple #[.int .u64 0,.int .i64 1]) Try.func21 ?_
   cases Option.some.inj hp68
   exact hR _ _ ⟨rfl,hS79⟩
  refine sR 6 [.inRegion (opsOf (cd21 [1,1,1,0])) [1,2,3],.code (cd21 [1,1,1,1])] ?_
  refine rL1 36 (.tmp 24) 0 (hS65.blk 0 rfl) ?_
  refine sR 6 [.inRegion (opsOf (cd21 [1,1,1,1,0])) [1,2],.code (cd21 [1,1,1,1,1])] ?_
  obtain ⟨g82,hp83⟩:=ite_some hp81
  refine r_make (c:=(cd21 [1,1,1,1,0])) (i:=1) (d:=(some 28)) (ty:=23) (enc:=encB) (t:=23) (e:=4) (sz:=1) (bytes:=1) (info:=infoOf Try.prog 4) (x:=(.tmp 27)) (y:=(.tmp 27)) (n:=(t5.length : Int)) (kk:=.i64) (kc:=.i64) (z:=.bool false) (x0:=false) hS65 (by kernel_rfl) (by kernel_rfl) (by kernel_rfl) (by kernel_rfl) (by kernel_rfl) (by kernel_rfl) (by kernel_rfl) (by kernel_rfl) (by kernel_rfl) (by kernel_rfl) len_encB (by omega) g82 (by omega) ?_
  intro A84 w85 hS86
  refine rF [none,none,none,none,none,none,none,none,none,none,none,none,none,none,none,none,none,none,none,none,none,none,none,none,none,none,none,none,some (.slice A84 (t5.length : Int).toNat (t5.length : Int).toNat),none,none,none,none,none,none,none,none,none,none,none,none,none,none,none,none,none,none,none,none,none,none,none,none,none,none,none,none,none,none,none,none,none,none,none,none,none,none,none,none,none,none,none,none,none,none,none,none,none,none,none,none,none,none,none,none,none,none,none,none,none,none,none,none,none,none,none,none,none,none,none,none,none,none,none,none,none,none,none,none,none,none,none,none,none,none,none,none,none,none,none,none,none,none,none,none,none,none,none,none,none,none,none,none,none,none,none,none,none,none,none,none,none,none,none,none,none,none,none,none,none,none,none,none,none,none,none,none] ?_
  refine Runs.refill (m':=[none,none,none,none,none,none,none,none,none,none,none,none,none,none,none,none,none,none,none,none,none,none,none,none,none,none,none,none,some (.slice A84 (List.replicate (t5.length : Int).toNat false).length ((t5.length : Int).toNat)),none,none,none,none,none,none,none,none,none,none,none,none,none,none,none,none,none,none,none,none,none,none,none,none,none,none,none,none,none,none,none,none,none,none,none,none,none,none,none,none,none,none,none,none,none,none,none,none,none,none,none,none,none,none,none,none,none,none,none,none,none,none,none,none,none,none,none,none,none,none,none,none,none,none,none,none,none,none,none,none,none,none,none,none,none,none,none,none,none,none,none,none,none,none,none,none,none,none,none,none,none,none,none,none,none,none,none,none,none,none,none,none,none,none,none,none,none,none,none,none,none,none,none,none,none,none,none,none]) (by simp only [List.length_replicate]) ?_
  refine sR 5 [.inRegion (opsOf (cd21 [1,1,1,1,1,0])) [1,2],.code (cd21 [1,1,1,1,1,1])] ?_
  obtain ⟨g88,hp89⟩:=ite_some hp83
  refine r_make (c:=(cd21 [1,1,1,1,1,0])) (i:=1) (d:=(some 30)) (ty:=125) (enc:=(encI .u64)) (t:=125) (e:=63) (sz:=1) (bytes:=8) (info:=infoOf Try.prog 63) (x:=(.tmp 29)) (y:=(.tmp 29)) (n:=(t5.length : Int)) (kk:=.i64) (kc:=.i64) (z:=.int .u64 0) (x0:=0) hS86 (by kernel_rfl) (by kernel_rfl) (by kernel_rfl) (by kernel_rfl) (by kernel_rfl) (by kernel_rfl) (by kernel_rfl) (by kernel_rfl) (by kernel_rfl) (by kernel_rfl) (len_encI .u64) (by omega) g88 (by omega) ?_
  intro A90 w91 hS92
  refine rF [none,none,none,none,none,none,none,none,none,none,none,none,none,none,none,none,none,none,none,none,none,none,none,none,none,none,none,none,none,none,some (.slice A90 (t5.length : Int).toNat (t5.length : Int).toNat),none,none,none,none,none,none,none,none,none,none,none,none,none,none,none,none,none,none,none,none,none,none,none,none,none,none,none,none,none,none,none,none,none,none,none,none,none,none,none,none,none,none,none,none,none,none,none,none,none,none,none,none,none,none,none,none,none,none,none,none,none,none,none,none,none,none,none,none,none,none,none,none,none,none,none,none,none,none,none,none,none,none,none,none,none,none,none,none,none,none,none,none,none,none,none,none,none,none,none,none,none,none,none,none,none,none,none,none,none,none,none,none,none,none,none,none,none,none,none,none,none,none,none,none,none,none] ?_
  refine Runs.refill (m':=[none,none,none,none,none,none,none,none,none,none,none,none,none,none,none,none,none,none,none,none,none,none,none,none,none,none,none,none,none,none,some (.slice A90 (List.replicate (t5.length : Int).toNat (0 : Int)).length ((t5.length : Int).toNat)),none,none,none,none,none,none,none,none,none,none,none,none,none,none,none,none,none,none,none,none,none,none,none,none,none,none,none,none,none,none,none,none,none,none,none,none,none,none,none,none,none,none,none,none,none,none,none,none,none,none,none,none,none,none,none,none,none,none,none,none,none,none,none,none,none,none,none,none,none,none,none,none,none,none,none,none,none,none,none,none,none,none,none,none,none,none,none,none,none,none,none,none,none,none,none,none,none,none,none,none,none,none,none,none,none,none,none,none,none,none,none,none,none,none,none,none,none,none,none,none,none,none,none,none,none,none]) (by simp only [List.length_replicate]) ?_
  refine sR 5 [.inRegion (opsOf (cd21 [1,1,1,1,1,1,0])) [1,2],.code (cd21 [1,1,1,1,1,1,1])] ?_
  obtain ⟨g94,hp95⟩:=ite_some hp89
  refine r_make (c:=(cd21 [1,1,1,1,1,1,0])) (i:=1) (d:=(some 32)) (ty:=23) (enc:=encB) (t:=23) (e:=4) (sz:=1) (bytes:=1) (info:=infoOf Try.prog 4) (x:=(.tmp 31)) (y:=(.tmp 31)) (n:=(t5.length : Int)) (kk:=.i64) (kc:=.i64) (z:=.bool false) (x0:=false) hS92 (by kernel_rfl) (by kernel_rfl) (by kernel_rfl) (by kernel_rfl) (by kernel_rfl) (by kernel_rfl) (by kernel_rfl) (by kernel_rfl) (by kernel_rfl) (by kernel_rfl) len_encB (by omega) g94 (by omega) ?_
  intro A96 w97 hS98
  refine rF [none,none,none,none,none,none,none,none,none,none,none,none,none,none,none,none,none,none,none,none,none,none,none,none,none,none,none,none,none,none,none,none,some (.slice A96 (t5.length : Int).toNat (t5.length : Int).toNat),none,none,none,none,none,none,none,none,none,none,none,none,none,none,none,none,none,none,none,none,none,none,none,none,none,none,none,none,none,none,none,none,none,none,none,none,none,none,none,none,none,none,none,none,none,none,none,none,none,none,none,none,none,none,none,none,none,none,none,none,none,none,none,none,none,none,none,none,none,none,none,none,none,none,none,none,none,none,none,none,none,none,none,none,none,none,none,none,none,none,none,none,none,none,none,none,none,none,none,none,none,none,none,none,none,none,none,none,none,none,none,none,none,none,none,none,none,none,none,none,none,none,none,none] ?_
  refine Runs.refill (m':=[none,none,none,none,none,none,none,none,none,none,none,none,none,none,none,none,none,none,none,none,none,none,none,none,none,none,none,none,none,none,none,none,some (.slice A96 (List.replicate (t5.length : Int).toNat false).length ((t5.length : Int).toNat)),none,none,none,none,none,none,none,none,none,none,none,none,none,none,none,none,none,none,none,none,none,none,none,none,none,none,none,none,none,none,none,none,none,none,none,none,none,none,none,none,none,none,none,none,none,none,none,none,none,none,none,none,none,none,none,none,none,none,none,none,none,none,none,none,none,none,none,none,none,none,none,none,none,none,none,none,none,none,none,none,none,none,none,none,none,none,none,none,none,none,none,none,none,none,none,none,none,none,none,none,none,none,none,none,none,none,none,none,none,none,none,none,none,none,none,none,none,none,none,none,none,none,none,none]) (by simp only [List.length_replicate]) ?_
  refine sR 10 td122 ?_
  have hS100:=hS98.pick17
  have hS101:=hS100.drop
  obtain ⟨v102,hv103,hp104⟩:=bind_some' hp95
  have hq109 : ∀ x,Sum.inr x = v102 → x = (q0,q1,q2,q3,q4,q5):=by intro x hx; subst hx; simpa using hp104
  have J110 : ∀ (t105 : List Int) (t106 : List Bool) (he112 : Sum.inl (t105,t106) = v102) (l111 : List Value) (w107 : World) (hS108 : St w0 Z56 (xrow A90 ((t5.length : Int).toNat) 63 1 (t105.flatMap (encI .u64))::xrow A96 ((t5.length : Int).toNat) 4 1 (t106.flatMap encB)::xblk ba0_1c0 33 ([.pointer (some ⟨ba0_1c0v,0,none⟩)])::xblk ba0_1c0v 49 ([.map (some ba0_1c0vv_0),.map (some ba0_1c0vv_1),.map (some ba0_1c0vv_2),.bool t14])::xmap ba0_1c0vv_0 (t15.map (kv Value.string (Value.int .i64)))::xmap ba0_1c0vv_1 (t16.map (kv Value.string (Value.int .i64)))::xmap ba0_1c0vv_2 (t17.map (kv Value.string (Value.int .i64)))::xblk ba0_1c1 26 ([.slice Aa0_1c1v_0 a0_1c1v.Next.length ca0_1c1v_0,.slice Aa0_1c1v_1 a0_1c1v.End.length ca0_1c1v_1,.slice Aa0_1c1v_2 a0_1c1v.Value.length ca0_1c1v_2,.int .i64 a0_1c1v.Start])::fs) w107),Runs Try.prog (fx 21) td119 (fill (mk 157 [(9,.slice A90 t105.length ((t5.length : Int).toNat)),(10,.slice A96 t106.length ((t5.length : Int).toNat))]) l111) w107 R:=by
   intro t105 t106 he112 l111 w107 hS108
   subst he112
   try dsimp only at hp104
   refine sR 4 [.inRegion (opsOf p21_18) [1,2],.code (cd21 [1,1,1,1,1,1,1,1,0,1]),.code p21_20] ?_
   obtain ⟨g113,hp114⟩:=ite_some hp104
   obtain ⟨b115,p116,hA117,-⟩:=(hS108.row 1 rfl).at_ len_encB (by omega) g113.1 g113.2
   refine r_indexAddr (c:=p21_18) (i:=1) (d:=(some 152)) (ty:=0) (t:=23) (e:=4) (n:=t106.length) (cp:=(t5.length : Int).toNat) (sz:=1) (kk:=.i64) (x:=(.tmp 151)) (y:=(.const (.int .i64 0))) (b:=b115) (o':=p116) (j:=(0 : Int)) (by kernel_rfl) (by kernel_rfl) (slv (by kernel_rfl) hA117) (by kernel_rfl) (by kernel_rfl) (by kernel_rfl) g113.1 g113.2 ?_
   refine rL1 4 (.tmp 152) 0 ((hS108.row 1 rfl).at2 hA117 len_encB (by omega) g113.1 g113.2) ?_
   refine r_split (gt t106 (0 : Int)) (fun h119 => ?_) (fun h120 => ?_)
   ·have hp121:=ite_t hp114 h119
    refine sR 7 [.code (cd21 [1,1,1,1,1,1,1,1,0,1,0,1]),.code p21_20] ?_
    have hS122:=hS108.drop
    have hS123:=hS122.drop
    have hS124:=hS123.less hz57
    refine rR (.tuple #[.int .u64 0,.int .i64 30]) Try.func21 ?_
    cases Option.some.inj hp121
    exact hR _ _ ⟨rfl,hS124⟩
   have hp126:=ite_f hp114 h120
   refine sR 6 [iR p21_22 1 4,.code p21_23] ?_
   obtain ⟨g127,hp128⟩:=ite_some hp126
   obtain ⟨b129,p130,hA131,-⟩:=(hS108.row 0 rfl).at_ (len_encI .u64) (by omega) g127.1 g127.2
   refine r_indexAddr (c:=p21_22) (i:=1) (d:=(some 155)) (ty:=0) (t:=125) (e:=63) (n:=t105.length) (cp:=(t5.length : Int).toNat) (sz:=1) (kk:=.i64) (x:=(.tmp 154)) (y:=(.const (.int .i64 0))) (b:=b129) (o':=p130) (j:=(0 : Int)) (by kernel_rfl) (by kernel_rfl) (slv (by kernel_rfl) hA131) (by kernel_rfl) (by kernel_rfl) (by kernel_rfl) g127.1 g127.2 ?_
   refine rL1 63 (.tmp 155) 0 ((hS108.row 0 rfl).at2 hA131 (len_encI .u64) (by omega) g127.1 g127.2) ?_
   refine sR 3 [.code p21_23] ?_
   have hS133:=hS108.drop
   have hS134:=hS133.drop
   have hS135:=hS134.less hz57
   refine rR (.tuple #[.int .u64 (gt t105 (0 : Int)),.int .i64 0]) Try.func21 ?_
   cases Option.some.inj hp128
   exact hR _ _ ⟨rfl,hS135⟩
  have L149 : ∀ (t137 : Int) (t138 : List Bool) (t139 : List Int) (t140 : List Bool) (e144 : Sum ((List Int) × (List Bool)) (Int × Int × Bool × (List (ByteArray × Int)) × (List (ByteArray × Int)) × (List (ByteArray × Int)))),weirref14_Runs.l0 t5 t7 t8 t14 t15 t16 t17 t137 t138 t139 t140 = some e144 → e144 = v102 → ∀ (l143 : List Value) (w141 : World) (hS142 : St w0 Z56 (xblk b60 43 ([.slice Q18 t5.length Q19,.slice Q20 t6.length Q21,.slice Q22 t7.length Q23,.slice Q25 t8.length Q26,.slice Q27 t9.length Q28,.slice Q29 t10.length Q30,.slice Q31 t11.length Q32,.bool t12,.map (some Q33)])::xrow Q18 Q19 9 1 (t5.flatMap encS)::xrow Q20 Q21 3 1 (t6.flatMap (encI .i64))::xrow Q25 Q26 4 1 (t8.flatMap encB)::xrow Q27 Q28 84 49 (t9.flatMap enc_api_Final)::xrow Q29 Q30 3 1 (t10.flatMap (encI .i64))::xrow Q31 Q32 88 3 (t11.flatMap enc_api_Pick)::xmap Q33 (t13.map (kv Value.string (Value.int .i64)))::xrow A84 ((t5.length : Int).toNat) 4 1 (t138.flatMap encB)::xrow A90 ((t5.length : Int).toNat) 63 1 (t139.flatMap (encI .u64))::xrow A96 ((t5.length : Int).toNat) 4 1 (t140.flatMap encB)::xblk ba0_1c0 33 ([.pointer (some ⟨ba0_1c0v,0,none⟩)])::xblk ba0_1c0v 49 ([.map (some ba0_1c0vv_0),.map (some ba0_1c0vv_1),.map (some ba0_1c0vv_2),.bool t14])::xmap ba0_1c0vv_0 (t15.map (kv Value.string (Value.int .i64)))::xmap ba0_1c0vv_1 (t16.map (kv Value.string (Value.int .i64)))::xmap ba0_1c0vv_2 (t17.map (kv Value.string (Value.int .i64)))::xblk ba0_1c1 26 ([.slice Aa0_1c1v_0 a0_1c1v.Next.length ca0_1c1v_0,.slice Aa0_1c1v_1 a0_1c1v.End.length ca0_1c1v_1,.slice Aa0_1c1v_2 a0_1c1v.Value.length ca0_1c1v_2,.int .i64 a0_1c1v.Start])::fs) w141),Runs Try.prog (fx 21) td122 (fill (mk 157 [(6,.pointer (some ⟨b60,0,none⟩)),(7,.int .i64 (t5.length : Int)),(8,.slice A84 t138.length ((t5.length : Int).toNat)),(9,.slice A90 t139.length ((t5.length : Int).toNat)),(10,.slice A96 t140.length ((t5.length : Int).toNat)),(11,.int .i64 t137)]) l143) w141 R:=by
   refine weirref14_Runs.l0.partial_correctness t5 t7 t8 t14 t15 t16 t17 (fun t137 t138 t139 t140 e144 => e144 = v102 → ∀ (l143 : List Value) (w141 : World) (hS142 : St w0 Z56 (xblk b60 43 ([.slice Q18 t5.length Q19,.slice Q20 t6.length Q21,.slice Q22 t7.length Q23,.slice Q25 t8.length Q26,.slice Q27 t9.length Q28,.slice Q29 t10.length Q30,.slice Q31 t11.length Q32,.bool t12,.map (some Q33)])::xrow Q18 Q19 9 1 (t5.flatMap encS)::xrow Q20 Q21 3 1 (t6.flatMap (encI .i64))::xrow Q25 Q26 4 1 (t8.flatMap encB)::xrow Q27 Q28 84 49 (t9.flatMap enc_api_Final)::xrow Q29 Q30 3 1 (t10.flatMap (encI .i64))::xrow Q31 Q32 88 3 (t11.flatMap enc_api_Pick)::xmap Q33 (t13.map (kv Value.string (Value.int .i64)))::xrow A84 ((t5.length : Int).toNat) 4 1 (t138.flatMap encB)::xrow A90 ((t5.length : Int).toNat) 63 1 (t139.flatMap (encI .u64))::xrow A96 ((t5.length : Int).toNat) 4 1 (t140.flatMap encB)::xblk ba0_1c0 33 ([.pointer (some ⟨ba0_1c0v,0,none⟩)])::xblk ba0_1c0v 49 ([.map (some ba0_1c0vv_0),.map (some ba0_1c0vv_1),.map (some ba0_1c0vv_2),.bool t14])::xmap ba0_1c0vv_0 (t15.map (kv Value.string (Value.int .i64)))::xmap ba0_1c0vv_1 (t16.map (kv Value.string (Value.int .i64)))::xmap ba0_1c0vv_2 (t17.map (kv Value.string (Value.int .i64)))::xblk ba0_1c1 26 ([.slice Aa0_1c1v_0 a0_1c1v.Next.length ca0_1c1v_0,.slice Aa0_1c1v_1 a0_1c1v.End.length ca0_1c1v_1,.slice Aa0_1c1v_2 a0_1c1v.Value.length ca0_1c1v_2,.int .i64 a0_1c1v.Start])::fs) w141),Runs Try.prog (fx 21) td122 (fill (mk 157 [(6,.pointer (some ⟨b60,0,none⟩)),(7,.int .i64 (t5.length : Int)),(8,.slice A84 t138.length ((t5.length : Int).toNat)),(9,.slice A90 t139.length ((t5.length : Int).toNat)),(10,.slice A96 t140.length ((t5.length : Int).toNat)),(11,.int .i64 t137)]) l143) w141 R) ?_
   intro rec148 ih147 t137 t138 t139 t140 e144 hb146 he145 l143 w141 hS142
   have hq150 : ∀ x,Sum.inr x = e144 → x = (q0,q1,q2,q3,q4,q5):=fun x hx => hq109 x (hx.trans he145)
   refine sI 5 (.inRegion (opsOf (cd21 [1,1,1,1,1,1,1,0,1,0,0,0,0])) []::.code (cd21 [1,1,1,1,1,1,1,0,1,0,0,0,1])::.code (cd21 [1,1,1,1,1,1,1,0,1,0,0,1])::td121) 35 hb146 (fun hp153 => ?_) fun hp624 => ?_
   ·refine sR 18 td127 ?_
    obtain ⟨v154,hv155,hp156⟩:=bind_some' hp153
    have J163 : ∀ (t157 : Int) (t158 : List Bool) (t159 : List Int) (t160 : List Bool) (he165 : (t157,t158,t159,t160) = v154) (l164 : List Value) (w161 : World) (hS162 : St w0 Z56 (xblk b60 43 ([.slice Q18 t5.length Q19,.slice Q20 t6.length Q21,.slice Q22 t7.length Q23,.slice Q25 t8.length Q26,.slice Q27 t9.length Q28,.slice Q29 t10.length Q30,.slice Q31 t11.length Q32,.bool t12,.map (some Q33)])::xrow Q18 Q19 9 1 (t5.flatMap encS)::xrow Q20 Q21 3 1 (t6.flatMap (encI .i64))::xrow Q25 Q26 4 1 (t8.flatMap encB)::xrow Q27 Q28 84 49 (t9.flatMap enc_api_Final)::xrow Q29 Q30 3 1 (t10.flatMap (encI .i64))::xrow Q31 Q32 88 3 (t11.flatMap enc_api_Pick)::xmap Q33 (t13.map (kv Value.string (Value.int .i64)))::xrow A84 ((t5.length : Int).toNat) 4 1 (t158.flatMap encB)::xrow A90 ((t5.length : Int).toNat) 63 1 (t159.flatMap (encI .u64))::xrow A96 ((t5.length : Int).toNat) 4 1 (t160.flatMap encB)::xblk ba0_1c0 33 ([.pointer (some ⟨ba0_1c0v,0,none⟩)])::xblk ba0_1c0v 49 ([.map (some ba0_1c0vv_0),.map (some ba0_1c0vv_1),.map (some ba0_1c0vv_2),.bool t14])::xmap ba0_1c0vv_0 (t15.map (kv Value.string (Value.int .i64)))::xmap ba0_1c0vv_1 (t16.map (kv Value.string (Value.int .i64)))::xmap ba0_1c0vv_2 (t17.map (kv Value.string (Value.int .i64)))::xblk ba0_1c1 26 ([.slice Aa0_1c1v_0 a0_1c1v.Next.length ca0_1c1v_0,.slice Aa0_1c1v_1 a0_1c1v.End.length ca0_1c1v_1,.slice Aa0_1c1v_2 a0_1c1v.Value.length ca0_1c1v_2,.int .i64 a0_1c1v.Start])::fs) w161),Runs Try.prog (fx 21) td124 (fill (mk 157 [(6,.pointer (some ⟨b60,0,none⟩)),(7,.int .i64 (t5.length : Int)),(8,.slice A84 t158.length ((t5.length : Int).toNat)),(9,.slice A90 t159.length ((t5.length : Int).toNat)),(10,.slice A96 t160.length ((t5.length : Int).toNat)),(11,.int .i64 t157),(12,.int .i64 t137)]) l164) w161 R:=by
     intro t157 t158 t159 t160 he165 l164 w161 hS162
     subst he165
     try dsimp only at hp156
     refine sI 5 (.inRegion (opsOf (cd21 [1,1,1,1,1,1,1,0,1,0,0,1,0,1,1,0])) []::.code (cd21 [1,1,1,1,1,1,1,0,1,0,0,1,0,1,1,1])::td123) 150 hp156 (fun hp168 => ?_) fun hp182 => ?_
     ·refine sR 7 (.code p21_31::td123) ?_
      refine r_isret (c:=p21_31) (by kernel_rfl) ?_
      have hS169:=hS162.drop
      have hS170:=hS169.drop
      have hS171:=hS170.drop
      have hS172:=hS171.drop
      have hS173:=hS172.drop
      have hS174:=hS173.drop
      have hS175:=hS174.drop
      have hS176:=hS175.drop
      have hS177:=hS176.drop
      have hS178:=hS177.drop
      have hS179:=hS178.drop
      have hS180:=hS179.less hz57
      refine rR (.tuple #[.int .u64 0,.int .i64 30]) Try.func21 ?_
      cases hq150 _ (Option.some.inj hp168)
      exact hR _ _ ⟨rfl,hS180⟩
     refine sR 4 td121 ?_
     refine sR 1 td122 ?_
     exact rF _ (ih147 t157 t158 t159 t160 _ hp182 he145 _ _ hS162)
    have L196 : ∀ (t183 t184 : Int) (t185 : List Bool) (t186 : List Int) (t187 : List Bool) (e191 : (Int × (List Bool) × (List Int) × (List Bool))),weirref14_Runs.l1 t7 t8 t183 t184 t185 t186 t187 = some e191 → e191 = v154 → ∀ (l190 : List Value) (w188 : World) (hS189 : St w0 Z56 (xblk b60 43 ([.slice Q18 t5.length Q19,.slice Q20 t6.length Q21,.slice Q22 t7.length Q23,.slice Q25 t8.length Q26,.slice Q27 t9.length Q28,.slice Q29 t10.length Q30,.slice Q31 t11.length Q32,.bool t12,.map (some Q33)])::xrow Q18 Q19 9 1 (t5.flatMap encS)::xrow Q20 Q21 3 1 (t6.flatMap (encI .i64))::xrow Q25 Q26 4 1 (t8.flatMap encB)::xrow Q27 Q28 84 49 (t9.flatMap enc_api_Final)::xrow Q29 Q30 3 1 (t10.flatMap (encI .i64))::xrow Q31 Q32 88 3 (t11.flatMap enc_api_Pick)::xmap Q33 (t13.map (kv Value.string (Value.int .i64)))::xrow A84 ((t5.length : Int).toNat) 4 1 (t185.flatMap encB)::xrow A90 ((t5.length : Int).toNat) 63 1 (t186.flatMap (encI .u64))::xrow A96 ((t5.length : Int).toNat) 4 1 (t187.flatMap encB)::xblk ba0_1c0 33 ([.pointer (some ⟨ba0_1c0v,0,none⟩)])::xblk ba0_1c0v 49 ([.map (some ba0_1c0vv_0),.map (some ba0_1c0vv_1),.map (some ba0_1c0vv_2),.bool t14])::xmap ba0_1c0vv_0 (t15.map (kv Value.string (Value.int .i64)))::xmap ba0_1c0vv_1 (t16.map (kv Value.string (Value.int .i64)))::xmap ba0_1c0vv_2 (t17.map (kv Value.string (Value.int .i64)))::xblk ba0_1c1 26 ([.slice Aa0_1c1v_0 a0_1c1v.Next.length ca0_1c1v_0,.slice Aa0_1c1v_1 a0_1c1v.End.length ca0_1c1v_1,.slice Aa0_1c1v_2 a0_1c1v.Value.length ca0_1c1v_2,.int .i64 a0_1c1v.Start])::fs) w188),Runs Try.prog (fx 21) td127 (fill (mk 157 [(6,.pointer (some ⟨b60,0,none⟩)),(7,.int .i64 (t5.length : Int)),(8,.slice A84 t185.length ((t5.length : Int).toNat)),(9,.slice A90 t186.length ((t5.length : Int).toNat)),(10,.slice A96 t187.length ((t5.length : Int).toNat)),(11,.int .i64 t183),(12,.int .i64 t137),(13,.int .i64 t184)]) l190) w188 R:=by
     refine weirref14_Runs.l1.partial_correctness t7 t8 (fun t183 t184 t185 t186 t187 e191 => e191 = v154 → ∀ (l190 : List Value) (w188 : World) (hS189 : St w0 Z56 (xblk b60 43 ([.slice Q18 t5.length Q19,.slice Q20 t6.length Q21,.slice Q22 t7.length Q23,.slice Q25 t8.length Q26,.slice Q27 t9.length Q28,.slice Q29 t10.length Q30,.slice Q31 t11.length Q32,.bool t12,.map (some Q33)])::xrow Q18 Q19 9 1 (t5.flatMap encS)::xrow Q20 Q21 3 1 (t6.flatMap (encI .i64))::xrow Q25 Q26 4 1 (t8.flatMap encB)::xrow Q27 Q28 84 49 (t9.flatMap enc_api_Final)::xrow Q29 Q30 3 1 (t10.flatMap (encI .i64))::xrow Q31 Q32 88 3 (t11.flatMap enc_api_Pick)::xmap Q33 (t13.map (kv Value.string (Value.int .i64)))::xrow A84 ((t5.length : Int).toNat) 4 1 (t185.flatMap encB)::xrow A90 ((t5.length : Int).toNat) 63 1 (t186.flatMap (encI .u64))::xrow A96 ((t5.length : Int).toNat) 4 1 (t187.flatMap encB)::xblk ba0_1c0 33 ([.pointer (some ⟨ba0_1c0v,0,none⟩)])::xblk ba0_1c0v 49 ([.map (some ba0_1c0vv_0),.map (some ba0_1c0vv_1),.map (some ba0_1c0vv_2),.bool t14])::xmap ba0_1c0vv_0 (t15.map (kv Value.string (Value.int .i64)))::xmap ba0_1c0vv_1 (t16.map (kv Value.string (Value.int .i64)))::xmap ba0_1c0vv_2 (t17.map (kv Value.string (Value.int .i64)))::xblk ba0_1c1 26 ([.slice Aa0_1c1v_0 a0_1c1v.Next.length ca0_1c1v_0,.slice Aa0_1c1v_1 a0_1c1v.End.length ca0_1c1v_1,.slice Aa0_1c1v_2 a0_1c1v.Value.length ca0_1c1v_2,.int .i64 a0_1c1v.Start])::fs) w188),Runs Try.prog (fx 21) td127 (fill (mk 157 [(6,.pointer (some ⟨b60,0,none⟩)),(7,.int .i64 (t5.length : Int)),(8,.slice A84 t185.length ((t5.length : Int).toNat)),(9,.slice A90 t186.length ((t5.length : Int).toNat)),(10,.slice A96 t187.length ((t5.length : Int).toNat)),(11,.int .i64 t183),(12,.int .i64 t137),(13,.int .i64 t184)]) l190) w188 R) ?_
     intro rec195 ih194 t183 t184 t185 t186 t187 e191 hb193 he192 l190 w188 hS189
     refine sI 5 (.inRegion (opsOf (cd21 [1,1,1,1,1,1,1,0,1,0,0,1,0,1,0,1,0,0,0,0])) []::.code (cd21 [1,1,1,1,1,1,1,0,1,0,0,1,0,1,0,1,0,0,0,1])::.code (cd21 [1,1,1,1,1,1,1,0,1,0,0,1,0,1,0,1,0,0,1])::td126) 40 hb193 (fun hp199 => ?_) fun hp623 => ?_
     ·refine sR 9 (iR p21_35 2 4::.code (cd21 [1,1,1,1,1,1,1,0,1,0,0,1,0,1,0,1,0,0,1,0,0,1])::td129) ?_
      obtain ⟨g200,hp201⟩:=ite_some hp199
      obtain ⟨b202,p203,hA204,-⟩:=(hS189.row 8 rfl).at_ len_encB (by omega) g200.1 g200.2
      refine r_indexAddr (c:=p21_35) (i:=2) (d:=(some 45)) (ty:=0) (t:=23) (e:=4) (n:=t185.length) (cp:=(t5.length : Int).toNat) (sz:=1) (kk:=.i64) (x:=(.tmp 43)) (y:=(.tmp 44)) (b:=b202) (o':=p203) (j:=t184) (by kernel_rfl) (by kernel_rfl) (slv (by kernel_rfl) hA204) (by kernel_rfl) (by kernel_rfl) (by kernel_rfl) g200.1 g200.2 ?_
      refine rL1 4 (.tmp 45) 0 ((hS189.row 8 rfl).at2 hA204 len_encB (by omega) g200.1 g200.2) ?_
      obtain ⟨v206,hv207,hp208⟩:=bind_some' hp201
      have J212 : ∀ (t209 : Bool) (he214 : t209 = v206) (l213 : List Value) (w210 : World) (hS211 : St w0 Z56 (xblk b60 43 ([.slice Q18 t5.length Q19,.slice Q20 t6.length Q21,.slice Q22 t7.length Q23,.slice Q25 t8.length Q26,.slice Q27 t9.length Q28,.slice Q29 t10.length Q30,.slice Q31 t11.length Q32,.bool t12,.map (some Q33)])::xrow Q18 Q19 9 1 (t5.flatMap encS)::xrow Q20 Q21 3 1 (t6.flatMap (encI .i64))::xrow Q25 Q26 4 1 (t8.flatMap encB)::xrow Q27 Q28 84 49 (t9.flatMap enc_api_Final)::xrow Q29 Q30 3 1 (t10.flatMap (encI .i64))::xrow Q31 Q32 88 3 (t11.flatMap enc_api_Pick)::xmap Q33 (t13.map (kv Value.string (Value.int .i64)))::xrow A84 ((t5.length : Int).toNat) 4 1 (t185.flatMap encB)::xrow A90 ((t5.length : Int).toNat) 63 1 (t186.flatMap (encI .u64))::xrow A96 ((t5.length : Int).toNat) 4 1 (t187.flatMap encB)::xblk ba0_1c0 33 ([.pointer (some ⟨ba0_1c0v,0,none⟩)])::xblk ba0_1c0v 49 ([.map (some ba0_1c0vv_0),.map (some ba0_1c0vv_1),.map (some ba0_1c0vv_2),.bool t14])::xmap ba0_1c0vv_0 (t15.map (kv Value.string (Value.int .i64)))::xmap ba0_1c0vv_1 (t16.map (kv Value.string (Value.int .i64)))::xmap ba0_1c0vv_2 (t17.map (kv Value.string (Value.int .i64)))::xblk ba0_1c1 26 ([.slice Aa0_1c1v_0 a0_1c1v.Next.length ca0_1c1v_0,.slice Aa0_1c1v_1 a0_1c1v.End.length ca0_1c1v_1,.slice Aa0_1c1v_2 a0_1c1v.Value.length ca0_1c1v_2,.int .i64 a0_1c1v.Start])::fs) w210),Runs Try.prog (fx 21) td132 (fill (mk 157 [(6,.pointer (some ⟨b60,0,none⟩)),(7,.int .i64 (t5.length : Int)),(8,.slice A84 t185.length ((t5.length : Int).toNat)),(9,.slice A90 t186.length ((t5.length : Int).toNat)),(10,.slice A96 t187.length ((t5.length : Int).toNat)),(11,.int .i64 t183),(12,.int .i64 t137),(13,.int .i64 t184),(14,.bool t209)]) l213) w210 R:=by
       intro t209 he214 l213 w210 hS211
       subst he214
       try dsimp only at hp208
       refine sR 5 td135 ?_
       obtain ⟨v215,hv216,hp217⟩:=bind_some' hp208
       have J221 : ∀ (t218 : Bool) (he223 : t218 = v215) (l222 : List Value) (w219 : World) (hS220 : St w0 Z56 (xblk b60 43 ([.slice Q18 t5.length Q19,.slice Q20 t6.length Q21,.slice Q22 t7.length Q23,.slice Q25 t8.length Q26,.slice Q27 t9.length Q28,.slice Q29 t10.length Q30,.slice Q31 t11.length Q32,.bool t12,.map (some Q33)])::xrow Q18 Q19 9 1 (t5.flatMap encS)::xrow Q20 Q21 3 1 (t6.flatMap (encI .i64))::xrow Q25 Q26 4 1 (t8.flatMap encB)::xrow Q27 Q28 84 49 (t9.flatMap enc_api_Final)::xrow Q29 Q30 3 1 (t10.flatMap (encI .i64))::xrow Q31 Q32 88 3 (t11.flatMap enc_api_Pick)::xmap Q33 (t13.map (kv Value.string (Value.int .i64)))::xrow A84 ((t5.length : Int).toNat) 4 1 (t185.flatMap encB)::xrow A90 ((t5.length : Int).toNat) 63 1 (t186.flatMap (encI .u64))::xrow A96 ((t5.length : Int).toNat) 4 1 (t187.flatMap encB)::xblk ba0_1c0 33 ([.pointer (some ⟨ba0_1c0v,0,none⟩)])::xblk ba0_1c0v 49 ([.map (some ba0_1c0vv_0),.map (some ba0_1c0vv_1),.map (some ba0_1c0vv_2),.bool t14])::xmap ba0_1c0vv_0 (t15.map (kv Value.string (Value.int .i64)))::xmap ba0_1c0vv_1 (t16.map (kv Value.string (Value.int .i64)))::xmap ba0_1c0vv_2 (t17.map (kv Value.string (Value.int .i64)))::xblk ba0_1c1 26 ([.slice Aa0_1c1v_0 a0_1c1v.Next.length ca0_1c1v_0,.slice Aa0_1c1v_1 a0_1c1v.End.length ca0_1c1v_1,.slice Aa0_1c1v_2 a0_1c1v.Value.length ca0_1c1v_2,.int .i64 a0_1c1v.Start])::fs) w219),Runs Try.prog (fx 21) td130 (fill (mk 157 [(6,.pointer (some ⟨b60,0,none⟩)),(7,.int .i64 (t5.length : Int)),(8,.slice A84 t185.length ((t5.length : Int).toNat)),(9,.slice A90 t186.length ((t5.length : Int).toNat)),(10,.slice A96 t187.length ((t5.length : Int).toNat)),(11,.int .i64 t183),(12,.int .i64 t137),(13,.int .i64 t184),(14,.bool t218)]) l222) w219 R:=by
        intro t218 he223 l222 w219 hS220
        subst he223
        try dsimp only at hp217
        refine sI 5 (.inRegion (opsOf (cd21 [1,1,1,1,1,1,1,0,1,0,0,1,0,1,0,1,0,0,1,0,0,1,1,0,0])) []::.code (cd21 [1,1,1,1,1,1,1,0,1,0,0,1,0,1,0,1,0,0,1,0,0,1,1,0,1])::.code (cd21 [1,1,1,1,1,1,1,0,1,0,0,1,0,1,0,1,0,0,1,0,0,1,1,1])::td129) 74 hp217 (fun hp226 => ?_) fun hp227 => ?_
        ·refine sR 8 td126 ?_
         refine sR 1 td127 ?_
         exact rF _ (ih194 (id t183) (IntKind.i64.wrap (t184 - 1)) (id t185) (id t186) (id t187) _ hp226 he192 _ _ hS220)
        refine sR 7 (iR p21_45 1 4::.code p21_46::td136) ?_
        refine rL1 23 (.tmp 75) 3 (hS220.blk 0 rfl) ?_
        refine sR 1 (.inRegion (opsOf p21_45) [3,4]::.code p21_46::td136) ?_
        obtain ⟨g228,hp229⟩:=ite_some hp227
        obtain ⟨b230,p231,hA232,-⟩:=(hS220.row 3 rfl).at_ len_encB (by omega) g228.1 g228.2
        refine r_indexAddr (c:=p21_45) (i:=3) (d:=(some 78)) (ty:=0) (t:=23) (e:=4) (n:=t8.length) (cp:=Q26) (sz:=1) (kk:=.i64) (x:=(.tmp 76)) (y:=(.tmp 77)) (b:=b230) (o':=p231) (j:=t184) (by kernel_rfl) (by kernel_rfl) (slv (by kernel_rfl) hA232) (by kernel_rfl) (by kernel_rfl) (by kernel_rfl) g228.1 g228.2 ?_
        refine rL1 4 (.tmp 78) 0 ((hS220.row 3 rfl).at2 hA232 len_encB (by omega) g228.1 g228.2) ?_
        obtain ⟨v234,hv235,hp236⟩:=bind_some' hp229
        have J240 : ∀ (t237 : List Int) (he242 : t237 = v234) (l241 : List Value) (w238 : World) (hS239 : St w0 Z56 (xblk b60 43 ([.slice Q18 t5.length Q19,.slice Q20 t6.length Q21,.slice Q22 t7.length Q23,.slice Q25 t8.length Q26,.slice Q27 t9.length Q28,.slice Q29 t10.length Q30,.slice Q31 t11.length Q32,.bool t12,.map (some Q33)])::xrow Q18 Q19 9 1 (t5.flatMap encS)::xrow Q20 Q21 3 1 (t6.flatMap (encI .i64))::xrow Q25 Q26 4 1 (t8.flatMap encB)::xrow Q27 Q28 84 49 (t9.flatMap enc_api_Final)::xrow Q29 Q30 3 1 (t10.flatMap (encI .i64))::xrow Q31 Q32 88 3 (t11.flatMap enc_api_Pick)::xmap Q33 (t13.map (kv Value.string (Value.int .i64)))::xrow A84 ((t5.length : Int).toNat) 4 1 (t185.flatMap encB)::xrow A90 ((t5.length : Int).toNat) 63 1 (t237.flatMap (encI .u64))::xrow A96 ((t5.length : Int).toNat) 4 1 (t187.flatMap encB)::xblk ba0_1c0 33 ([.pointer (some ⟨ba0_1c0v,0,none⟩)])::xblk ba0_1c0v 49 ([.map (some ba0_1c0vv_0),.map (some ba0_1c0vv_1),.map (some ba0_1c0vv_2),.bool t14])::xmap ba0_1c0vv_0 (t15.map (kv Value.string (Value.int .i64)))::xmap ba0_1c0vv_1 (t16.map (kv Value.string (Value.int .i64)))::xmap ba0_1c0vv_2 (t17.map (kv Value.string (Value.int .i64)))::xblk ba0_1c1 26 ([.slice Aa0_1c1v_0 a0_1c1v.Next.length ca0_1c1v_0,.slice Aa0_1c1v_1 a0_1c1v.End.length ca0_1c1v_1,.slice Aa0_1c1v_2 a0_1c1v.Value.length ca0_1c1v_2,.int .i64 a0_1c1v.Start])::fs) w238),Runs Try.prog (fx 21) td136 (fill (mk 157 [(6,.pointer (some ⟨b60,0,none⟩)),(7,.int .i64 (t5.length : Int)),(8,.slice A84 t185.length ((t5.length : Int).toNat)),(9,.slice A90 t237.length ((t5.length : Int).toNat)),(10,.slice A96 t187.length ((t5.length : Int).toNat)),(11,.int .i64 t183),(12,.int .i64 t137),(13,.int .i64 t184)]) l241) w238 R:=by
         intro t237 he242 l241 w238 hS239
         subst he242
         try dsimp only at hp236
         refine sR 7 td140 ?_
         obtain ⟨v243,hv244,hp245⟩:=bind_some' hp236
         have J250 : ∀ (t246 : List Int) (t247 : List Bool) (he252 : (t246,t247) = v243) (l251 : List Value) (w248 : World) (hS249 : St w0 Z56 (xblk b60 43 ([.slice Q18 t5.length Q19,.slice Q20 t6.length Q21,.slice Q22 t7.length Q23,.slice Q25 t8.length Q26,.slice Q27 t9.length Q28,.slice Q29 t10.length Q30,.slice Q31 t11.length Q32,.bool t12,.map (some Q33)])::xrow Q18 Q19 9 1 (t5.flatMap encS)::xrow Q20 Q21 3 1 (t6.flatMap (encI .i64))::xrow Q25 Q26 4 1 (t8.flatMap encB)::xrow Q27 Q28 84 49 (t9.flatMap enc_api_Final)::xrow Q29 Q30 3 1 (t10.flatMap (encI .i64))::xrow Q31 Q32 88 3 (t11.flatMap enc_api_Pick)::xmap Q33 (t13.map (kv Value.string (Value.int .i64)))::xrow A84 ((t5.length : Int).toNat) 4 1 (t185.flatMap encB)::xrow A90 ((t5.length : Int).toNat) 63 1 (t246.flatMap (encI .u64))::xrow A96 ((t5.length : Int).toNat) 4 1 (t247.flatMap encB)::xblk ba0_1c0 33 ([.pointer (some ⟨ba0_1c0v,0,none⟩)])::xblk ba0_1c0v 49 ([.map (some ba0_1c0vv_0),.map (some ba0_1c0vv_1),.map (some ba0_1c0vv_2),.bool t14])::xmap ba0_1c0vv_0 (t15.map (kv Value.string (Value.int .i64)))::xmap ba0_1c0vv_1 (t16.map (kv Value.string (Value.int .i64)))::xmap ba0_1c0vv_2 (t17.map (kv Value.string (Value.int .i64)))::xblk ba0_1c1 26 ([.slice Aa0_1c1v_0 a0_1c1v.Next.length ca0_1c1v_0,.slice Aa0_1c1v_1 a0_1c1v.End.length ca0_1c1v_1,.slice Aa0_1c1v_2 a0_1c1v.Value.length ca0_1c1v_2,.int .i64 a0_1c1v.Start])::fs) w248),Runs Try.prog (fx 21) td137 (fill (mk 157 [(6,.pointer (some ⟨b60,0,none⟩)),(7,.int .i64 (t5.length : Int)),(8,.slice A84 t185.length ((t5.length : Int).toNat)),(9,.slice A90 t246.length ((t5.length : Int).toNat)),(10,.slice A96 t247.length ((t5.length : Int).toNat)),(11,.int .i64 t183),(12,.int .i64 t137),(13,.int .i64 t184)]) l251) w248 R:=by
          intro t246 t247 he252 l251 w248 hS249
          subst he252
          try dsimp only at hp245
          refine sR 4 (.inRegion (opsOf p21_50) [2,3]::.code (cd21 [1,1,1,1,1,1,1,0,1,0,0,1,0,1,0,1,0,0,1,0,0,1,1,1,1,1,1])::td129) ?_
          obtain ⟨g253,hp254⟩:=ite_some hp245
          obtain ⟨b255,p256,hA257,-⟩:=(hS249.row 8 rfl).at_ len_encB (by omega) g253.1 g253.2
          refine r_indexAddr (c:=p21_50) (i:=2) (d:=(some 145)) (ty:=0) (t:=23) (e:=4) (n:=t185.length) (cp:=(t5.length : Int).toNat) (sz:=1) (kk:=.i64) (x:=(.tmp 143)) (y:=(.tmp 144)) (b:=b255) (o':=p256) (j:=t184) (by kernel_rfl) (by kernel_rfl) (slv (by kernel_rfl) hA257) (by kernel_rfl) (by kernel_rfl) (by kernel_rfl) g253.1 g253.2 ?_
          have hS259:=hS249.pick8
          refine r_storeEl (c:=p21_50) (i:=3) (d:=none) (ty:=0) (enc:=encB) (e:=4) (t:=4) (sz:=1) (cp:=(t5.length : Int).toNat) (A:=A84) (xs:=t185) (x:=(.tmp 145)) (y:=(.const (.bool true))) (el:=gt t185 t184) (el':=true) (j:=t184) (off:=0) (b:=b255) (p:=p256) (v:=.bool true) (vs:=[.bool true]) (ad:=⟨b255,p256 + t184.toNat * 1,none⟩) hS259 (by kernel_rfl) (by kernel_rfl) (by kernel_rfl) (by simp) (by kernel_rfl) hA257 g253 rfl len_encB (by kernel_rfl) (by kernel_rfl) (by kernel_rfl) (Nat.le_of_ble_eq_true (by kernel_rfl)) (Nat.le_of_ble_eq_true (by kernel_rfl)) (by kernel_rfl) ?_
          intro w260 hS261
          refine rF [none,none,none,none,none,none,none,none,some (.slice A84 t185.length ((t5.length : Int).toNat)),none,none,none,none,none,none,none,none,none,none,none,none,none,none,none,none,none,none,none,none,none,none,none,none,none,none,none,none,none,none,none,none,none,none,none,none,none,none,none,none,none,none,none,none,none,none,none,none,none,none,none,none,none,none,none,none,none,none,none,none,none,none,none,none,none,none,none,none,none,none,none,none,none,none,none,none,none,none,none,none,none,none,none,none,none,none,none,none,none,none,none,none,none,none,none,none,none,none,none,none,none,none,none,none,none,none,none,none,none,none,none,none,none,none,none,none,none,none,none,none,none,none,none,none,none,none,none,none,none,none,none,none,none,none,some (.slice A84 t185.length ((t5.length : Int).toNat)),none,none,none,none,none,none,none,none,none,none,none,none,none] ?_
          refine Runs.refill (m':=[none,none,none,none,none,none,none,none,some (.slice A84 (setl t185 t184 true).length ((t5.length : Int).toNat)),none,none,none,none,none,none,none,none,none,none,none,none,none,none,none,none,none,none,none,none,none,none,none,none,none,none,none,none,none,none,none,none,none,none,none,none,none,none,none,none,none,none,none,none,none,none,none,none,none,none,none,none,none,none,none,none,none,none,none,none,none,none,none,none,none,none,none,none,none,none,none,none,none,none,none,none,none,none,none,none,none,none,none,none,none,none,none,none,none,none,none,none,none,none,none,none,none,none,none,none,none,none,none,none,none,none,none,none,none,none,none,none,none,none,none,none,none,none,none,none,none,none,none,none,none,none,none,none,none,none,none,none,none,none,some (.slice A84 (setl t185 t184 true).length ((t5.length : Int).toNat)),none,none,none,none,none,none,none,none,none,none,none,none,none]) (by simp only [setl_len]) ?_
          refine sR 12 td126 ?_
          have hS262:=hS261.pick16
          have hS263:=hS262.pick16
          have hS264:=hS263.pick16
          have hS265:=hS264.pick16
          have hS266:=hS265.pick16
          have hS267:=hS266.pick16
          have hS268:=hS267.pick16
          have hS269:=hS268.pick16
          have hS270:=hS269.pick8
          have hS271:=hS270.pick16
          have hS272:=hS271.pick16
          have hS273:=hS272.pick16
          have hS274:=hS273.pick16
          have hS275:=hS274.pick16
          have hS276:=hS275.pick16
          have hS277:=hS276.pick16
          have hS278:=hS277.pick16
          refine sR 1 td127 ?_
          exact rF _ (ih194 (IntKind.i64.wrap (t183 - 1)) (IntKind.i64.wrap (t184 - 1)) (setl t185 t184 true) t246 t247 _ hp254 he192 _ _ hS278)
         have L290 : ∀ (t279 : Int) (t280 : List Int) (t281 : List Bool) (e285 : ((List Int) × (List Bool))),weirref14_Runs.l3 t7 t184 t279 t280 t281 = some e285 → e285 = v243 → ∀ (l284 : List Value) (w282 : World) (hS283 : St w0 Z56 (xblk b60 43 ([.slice Q18 t5.length Q19,.slice Q20 t6.length Q21,.slice Q22 t7.length Q23,.slice Q25 t8.length Q26,.slice Q27 t9.length Q28,.slice Q29 t10.length Q30,.slice Q31 t11.length Q32,.bool t12,.map (some Q33)])::xrow Q18 Q19 9 1 (t5.flatMap encS)::xrow Q20 Q21 3 1 (t6.flatMap (encI .i64))::xrow Q25 Q26 4 1 (t8.flatMap encB)::xrow Q27 Q28 84 49 (t9.flatMap enc_api_Final)::xrow Q29 Q30 3 1 (t10.flatMap (encI .i64))::xrow Q31 Q32 88 3 (t11.flatMap enc_api_Pick)::xmap Q33 (t13.map (kv Value.string (Value.int .i64)))::xrow A84 ((t5.length : Int).toNat) 4 1 (t185.flatMap encB)::xrow A90 ((t5.length : Int).toNat) 63 1 (t280.flatMap (encI .u64))::xrow A96 ((t5.length : Int).toNat) 4 1 (t281.flatMap encB)::xblk ba0_1c0 33 ([.pointer (some ⟨ba0_1c0v,0,none⟩)])::xblk ba0_1c0v 49 ([.map (some ba0_1c0vv_0),.map (some ba0_1c0vv_1),.map (some ba0_1c0vv_2),.bool t14])::xmap ba0_1c0vv_0 (t15.map (kv Value.string (Value.int .i64)))::xmap ba0_1c0vv_1 (t16.map (kv Value.string (Value.int .i64)))::xmap ba0_1c0vv_2 (t17.map (kv Value.string (Value.int .i64)))::xblk ba0_1c1 26 ([.slice Aa0_1c1v_0 a0_1c1v.Next.length ca0_1c1v_0,.slice Aa0_1c1v_1 a0_1c1v.End.length ca0_1c1v_1,.slice Aa0_1c1v_2 a0_1c1v.Value.length ca0_1c1v_2,.int .i64 a0_1c1v.Start])::fs) w282),Runs Try.prog (fx 21) td140 (fill (mk 157 [(6,.pointer (some ⟨b60,0,none⟩)),(7,.int .i64 (t5.length : Int)),(8,.slice A84 t185.length ((t5.length : Int).toNat)),(9,.slice A90 t280.length ((t5.length : Int).toNat)),(10,.slice A96 t281.length ((t5.length : Int).toNat)),(11,.int .i64 t183),(12,.int .i64 t137),(13,.int .i64 t184),(16,.int .i64 t279)]) l284) w282 R:=by
          refine weirref14_Runs.l3.partial_correctness t7 t184 (fun t279 t280 t281 e285 => e285 = v243 → ∀ (l284 : List Value) (w282 : World) (hS283 : St w0 Z56 (xblk b60 43 ([.slice Q18 t5.length Q19,.slice Q20 t6.length Q21,.slice Q22 t7.length Q23,.slice Q25 t8.length Q26,.slice Q27 t9.length Q28,.slice Q29 t10.length Q30,.slice Q31 t11.length Q32,.bool t12,.map (some Q33)])::xrow Q18 Q19 9 1 (t5.flatMap encS)::xrow Q20 Q21 3 1 (t6.flatMap (encI .i64))::xrow Q25 Q26 4 1 (t8.flatMap encB)::xrow Q27 Q28 84 49 (t9.flatMap enc_api_Final)::xrow Q29 Q30 3 1 (t10.flatMap (encI .i64))::xrow Q31 Q32 88 3 (t11.flatMap enc_api_Pick)::xmap Q33 (t13.map (kv Value.string (Value.int .i64)))::xrow A84 ((t5.length : Int).toNat) 4 1 (t185.flatMap encB)::xrow A90 ((t5.length : Int).toNat) 63 1 (t280.flatMap (encI .u64))::xrow A96 ((t5.length : Int).toNat) 4 1 (t281.flatMap encB)::xblk ba0_1c0 33 ([.pointer (some ⟨ba0_1c0v,0,none⟩)])::xblk ba0_1c0v 49 ([.map (some ba0_1c0vv_0),.map (some ba0_1c0vv_1),.map (some ba0_1c0vv_2),.bool t14])::xmap ba0_1c0vv_0 (t15.map (kv Value.string (Value.int .i64)))::xmap ba0_1c0vv_1 (t16.map (kv Value.string (Value.int .i64)))::xmap ba0_1c0vv_2 (t17.map (kv Value.string (Value.int .i64)))::xblk ba0_1c1 26 ([.slice Aa0_1c1v_0 a0_1c1v.Next.length ca0_1c1v_0,.slice Aa0_1c1v_1 a0_1c1v.End.length ca0_1c1v_1,.slice Aa0_1c1v_2 a0_1c1v.Value.length ca0_1c1v_2,.int .i64 a0_1c1v.Start])::fs) w282),Runs Try.prog (fx 21) td140 (fill (mk 157 [(6,.pointer (some ⟨b60,0,none⟩)),(7,.int .i64 (t5.length : Int)),(8,.slice A84 t185.length ((t5.length : Int).toNat)),(9,.slice A90 t280.length ((t5.length : Int).toNat)),(10,.slice A96 t281.length ((t5.length : Int).toNat)),(11,.int .i64 t183),(12,.int .i64 t137),(13,.int .i64 t184),(16,.int .i64 t279)]) l284) w282 R) ?_
          intro rec289 ih288 t279 t280 t281 e285 hb287 he286 l284 w282 hS283
          refine sR 5 (iR p21_52 2 6::td142) ?_
          refine rL1 38 (.tmp 84) 2 (hS283.blk 0 rfl) ?_
          refine sR 1 (iR p21_52 4 4::td142) ?_
          obtain ⟨g291,hp292⟩:=ite_some hb287
          obtain ⟨b293,p294,cs297,hA295,hr298,hl299,hc296⟩:=hs59.at_ g291.1 g291.2
          obtain ⟨A300,c301,rfl,hs302⟩:=hr298
          refine r_indexAddr (c:=p21_52) (i:=4) (d:=(some 87)) (ty:=0) (t:=38) (e:=93) (n:=t7.length) (cp:=Q23) (sz:=1) (kk:=.i64) (x:=(.tmp 85)) (y:=(.tmp 86)) (b:=b293) (o':=p294) (j:=t184) (by kernel_rfl) (by kernel_rfl) (slv (by kernel_rfl) hA295) (by kernel_rfl) (by kernel_rfl) (by kernel_rfl) g291.1 g291.2 ?_
          refine rL1 93 (.tmp 87) 0 (hc296.cells hS283) ?_
          refine sI 2 (.inRegion (opsOf p21_52) []::td142) 90 hp292 (fun hp306 => ?_) fun hp529 => ?_
          ·refine sR 8 (iR p21_55 1 9::td145) ?_
           refine rL1 38 (.tmp 93) 2 (hS283.blk 0 rfl) ?_
           refine sR 1 (iR p21_55 3 7::td145) ?_
           obtain ⟨g307,hp308⟩:=ite_some hp306
           obtain ⟨b309,p310,cs313,hA311,hr314,hl315,hc312⟩:=hs59.at_ g307.1 g307.2
           obtain ⟨A316,c317,rfl,hs318⟩:=hr314
           refine r_indexAddr (c:=p21_55) (i:=3) (d:=(some 96)) (ty:=0) (t:=38) (e:=93) (n:=t7.length) (cp:=Q23) (sz:=1) (kk:=.i64) (x:=(.tmp 94)) (y:=(.tmp 95)) (b:=b309) (o':=p310) (j:=t184) (by kernel_rfl) (by kernel_rfl) (slv (by kernel_rfl) hA311) (by kernel_rfl) (by kernel_rfl) (by kernel_rfl) g307.1 g307.2 ?_
           refine rL1 93 (.tmp 96) 0 (hc312.cells hS283) ?_
           refine sR 1 (iR p21_55 6 4::td145) ?_
           obtain ⟨g320,hp321⟩:=ite_some hp308
           obtain ⟨b322,p323,hA324,hc325⟩:=hs318.atF g320.1 g320.2
           refine r_indexAddr (c:=p21_55) (i:=6) (d:=(some 99)) (ty:=0) (t:=93) (e:=95) (n:=(gt t7 t184).length) (cp:=c317) (sz:=4) (kk:=.i64) (x:=(.tmp 97)) (y:=(.tmp 98)) (b:=b322) (o':=p323) (j:=t279) (by kernel_rfl) (by kernel_rfl) (slv (by kernel_rfl) hA324) (by kernel_rfl) (by kernel_rfl) (by kernel_rfl) g320.1 g320.2 ?_
           refine sR 1 (.inRegion (opsOf p21_55) [8,9]::td145) ?_
           refine rL1 3 (.tmp 100) 0 (hc325.cells hS283) ?_
           refine sR 3 (.code p21_58::td146) ?_
           obtain ⟨v326,hv327,hp328⟩:=bind_some' hp321
           have J332 : ∀ (t329 : List Bool) (he334 : t329 = v326) (l333 : List Value) (w330 : World) (hS331 : St w0 Z56 (xblk b60 43 ([.slice Q18 t5.length Q19,.slice Q20 t6.length Q21,.slice Q22 t7.length Q23,.slice Q25 t8.length Q26,.slice Q27 t9.length Q28,.slice Q29 t10.length Q30,.slice Q31 t11.length Q32,.bool t12,.map (some Q33)])::xrow Q18 Q19 9 1 (t5.flatMap encS)::xrow Q20 Q21 3 1 (t6.flatMap (encI .i64))::xrow Q25 Q26 4 1 (t8.flatMap encB)::xrow Q27 Q28 84 49 (t9.flatMap enc_api_Final)::xrow Q29 Q30 3 1 (t10.flatMap (encI .i64))::xrow Q31 Q32 88 3 (t11.flatMap enc_api_Pick)::xmap Q33 (t13.map (kv Value.string (Value.int .i64)))::xrow A84 ((t5.length : Int).toNat) 4 1 (t185.flatMap encB)::xrow A90 ((t5.length : Int).toNat) 63 1 (t280.flatMap (encI .u64))::xrow A96 ((t5.length : Int).toNat) 4 1 (t329.flatMap encB)::xblk ba0_1c0 33 ([.pointer (some ⟨ba0_1c0v,0,none⟩)])::xblk ba0_1c0v 49 ([.map (some ba0_1c0vv_0),.map (some ba0_1c0vv_1),.map (some ba0_1c0vv_2),.bool t14])::xmap ba0_1c0vv_0 (t15.map (kv Value.string (Value.int .i64)))::xmap ba0_1c0vv_1 (t16.map (kv Value.string (Value.int .i64)))::xmap ba0_1c0vv_2 (t17.map (kv Value.string (Value.int .i64)))::xblk ba0_1c1 26 ([.slice Aa0_1c1v_0 a0_1c1v.Next.length ca0_1c1v_0,.slice Aa0_1c1v_1 a0_1c1v.End.length ca0_1c1v_1,.slice Aa0_1c1v_2 a0_1c1v.Value.length ca0_1c1v_2,.int .i64 a0_1c1v.Start])::fs) w330),Runs Try.prog (fx 21) td146 (fill (mk 157 [(6,.pointer (some ⟨b60,0,none⟩)),(7,.int .i64 (t5.length : Int)),(8,.slice A84 t185.length ((t5.length : Int).toNat)),(9,.slice A90 t280.length ((t5.length : Int).toNat)),(10,.slice A96 t329.length ((t5.length : Int).toNat)),(11,.int .i64 t183),(12,.int .i64 t137),(13,.int .i64 t184),(16,.int .i64 t279),(17,.int .i64 ((gt (gt t7 t184) t279).To))]) l333) w330 R:=by
            intro t329 he334 l333 w330 hS331
            subst he334
            try dsimp only at hp328
            refine r_drawn3 (C:=St w0 Z56 (xblk b60 43 ([.slice Q18 t5.length Q19,.slice Q20 t6.length Q21,.slice Q22 t7.length Q23,.slice Q25 t8.length Q26,.slice Q27 t9.length Q28,.slice Q29 t10.length Q30,.slice Q31 t11.length Q32,.bool t12,.map (some Q33)])::xrow Q18 Q19 9 1 (t5.flatMap encS)::xrow Q20 Q21 3 1 (t6.flatMap (encI .i64))::xrow Q25 Q26 4 1 (t8.flatMap encB)::xrow Q27 Q28 84 49 (t9.flatMap enc_api_Final)::xrow Q29 Q30 3 1 (t10.flatMap (encI .i64))::xrow Q31 Q32 88 3 (t11.flatMap enc_api_Pick)::xmap Q33 (t13.map (kv Value.string (Value.int .i64)))::xrow A84 ((t5.length : Int).toNat) 4 1 (t185.flatMap encB)::xrow A90 ((t5.length : Int).toNat) 63 1 (t280.flatMap (encI .u64))::xrow A96 ((t5.length : Int).toNat) 4 1 (t329.flatMap encB)::xblk ba0_1c0 33 ([.pointer (some ⟨ba0_1c0v,0,none⟩)])::xblk ba0_1c0v 49 ([.map (some ba0_1c0vv_0),.map (some ba0_1c0vv_1),.map (some ba0_1c0vv_2),.bool t14])::xmap ba0_1c0vv_0 (t15.map (kv Value.string (Value.int .i64)))::xmap ba0_1c0vv_1 (t16.map (kv Value.string (Value.int .i64)))::xmap ba0_1c0vv_2 (t17.map (kv Value.string (Value.int .i64)))::xblk ba0_1c1 26 ([.slice Aa0_1c1v_0 a0_1c1v.Next.length ca0_1c1v_0,.slice Aa0_1c1v_1 a0_1c1v.End.length ca0_1c1v_1,.slice Aa0_1c1v_2 a0_1c1v.Value.length ca0_1c1v_2,.int .i64 a0_1c1v.Start])::fs)) (c:=p21_59) (id:=27) (by kernel_rfl) (by kernel_rfl) 12 (Nat.le_of_ble_eq_true (by kernel_rfl)) (by kernel_rfl) (by kernel_rfl) (by kernel_rfl) (is:=[0,1,2,3,4,5,6,7,8,9,10,11]) (rest:=[12]) (by kernel_rfl) (by kernel_rfl) hS331.drew ?_
            refine qR 4 (rg 4 8) ?_
            obtain ⟨g335,hp336⟩:=ite_some hp328
            obtain ⟨b337,p338,hA339,-⟩:=(hS331.row 9 rfl).at_ (len_encI .u64) (by omega) g335.1 g335.2
            refine q_indexAddr (c:=(hd p21_59 12)) (i:=4) (d:=(some 135)) (ty:=0) (t:=125) (e:=63) (n:=t280.length) (cp:=(t5.length : Int).toNat) (sz:=1) (kk:=.i64) (x:=(.tmp 133)) (y:=(.tmp 134)) (b:=b337) (o':=p338) (j:=t184) (by kernel_rfl) (by kernel_rfl) (slv (by kernel_rfl) hA339) (by kernel_rfl) (by kernel_rfl) (by kernel_rfl) g335.1 g335.2 ?_
            refine qL1 63 (.tmp 135) 0 (fun w hC => ((hC.row 9 rfl).at2 hA339 (len_encI .u64) (by omega) g335.1 g335.2)) ?_
            refine qR 2 (rg 8 4) ?_
            obtain ⟨g341,hp342⟩:=ite_some hp336
            obtain ⟨b343,p344,hA345,-⟩:=(hS331.row 9 rfl).at_ (len_encI .u64) (by omega) g341.1 g341.2
            refine q_indexAddr (c:=(hd p21_59 12)) (i:=8) (d:=(some 139)) (ty:=0) (t:=125) (e:=63) (n:=t280.length) (cp:=(t5.length : Int).toNat) (sz:=1) (kk:=.i64) (x:=(.tmp 137)) (y:=(.tmp 138)) (b:=b343) (o':=p344) (j:=(gt (gt t7 t184) t279).To) (by kernel_rfl) (by kernel_rfl) (slv (by kernel_rfl) hA345) (by kernel_rfl) (by kernel_rfl) (by kernel_rfl) g341.1 g341.2 ?_
            refine qL1 63 (.tmp 139) 0 (fun w hC => ((hC.row 9 rfl).at2 hA345 (len_encI .u64) (by omega) g341.1 g341.2)) ?_
            refine qR 1 [11] ?_
            obtain ⟨g347,hp348⟩:=ite_some hp342
            obtain ⟨b349,p350,hA351,-⟩:=(hS331.row 9 rfl).at_ (len_encI .u64) (by omega) g347.1 g347.2
            refine q_indexAddr (c:=(hd p21_59 12)) (i:=11) (d:=(some 142)) (ty:=0) (t:=125) (e:=63) (n:=t280.length) (cp:=(t5.length : Int).toNat) (sz:=1) (kk:=.i64) (x:=(.tmp 131)) (y:=(.tmp 132)) (b:=b349) (o':=p350) (j:=t184) (by kernel_rfl) (by kernel_rfl) (slv (by kernel_rfl) hA351) (by kernel_rfl) (by kernel_rfl) (by kernel_rfl) g347.1 g347.2 ?_
            refine Qs.nil ?_
            intro w353 hS354
            have hS355:=hS354.pick9
            refine r_storeEl (c:=p21_59) (i:=12) (d:=none) (ty:=0) (enc:=(encI .u64)) (e:=63) (t:=63) (sz:=1) (cp:=(t5.length : Int).toNat) (A:=A90) (xs:=t280) (x:=(.tmp 142)) (y:=(.tmp 141)) (el:=gt t280 t184) (el':=(IntKind.u64.wrap ((gt t280 t184) + (gt t280 ((gt (gt t7 t184) t279).To))))) (j:=t184) (off:=0) (b:=b349) (p:=p350) (v:=.int .u64 (IntKind.u64.wrap ((gt t280 t184) + (gt t280 ((gt (gt t7 t184) t279).To))))) (vs:=[.int .u64 (IntKind.u64.wrap ((gt t280 t184) + (gt t280 ((gt (gt t7 t184) t279).To))))]) (ad:=⟨b349,p350 + t184.toNat * 1,none⟩) hS355 (by kernel_rfl) (by kernel_rfl) (by kernel_rfl) (by simp) (by kernel_rfl) hA351 g347 rfl (len_encI .u64) (by kernel_rfl) (by kernel_rfl) (by kernel_rfl) (Nat.le_of_ble_eq_true (by kernel_rfl)) (Nat.le_of_ble_eq_true (by kernel_rfl)) (by kernel_rfl) ?_
            intro w356 hS357
            refine rF [none,none,none,none,none,none,none,none,none,some (.slice A90 t280.length ((t5.length : Int).toNat)),none,none,none,none,none,none,none,none,none,none,none,none,none,none,none,none,none,none,none,none,none,none,none,none,none,none,none,none,none,none,none,none,none,none,none,none,none,none,none,none,none,none,none,none,none,none,none,none,none,none,none,none,none,none,none,none,none,none,none,none,none,none,none,none,none,none,none,none,none,none,none,none,none,none,none,none,none,none,none,none,none,none,none,none,none,none,none,none,none,none,none,none,none,none,none,none,none,none,none,none,none,none,none,none,none,none,none,none,none,none,none,none,none,none,none,none,none,none,none,none,none,some (.slice A90 t280.length ((t5.length : Int).toNat)),none,some (.slice A90 t280.length ((t5.length : Int).toNat)),none,none,none,some (.slice A90 t280.length ((t5.length : Int).toNat)),none,none,none,none,none,none,none,none,none,none,none,none,none,none,none,none,none,none,none] ?_
            refine Runs.refill (m':=[none,none,none,none,none,none,none,none,none,some (.slice A90 (setl t280 t184 (IntKind.u64.wrap ((gt t280 t184) + (gt t280 ((gt (gt t7 t184) t279).To))))).length ((t5.length : Int).toNat)),none,none,none,none,none,none,none,none,none,none,none,none,none,none,none,none,none,none,none,none,none,none,none,none,none,none,none,none,none,none,none,none,none,none,none,none,none,none,none,none,none,none,none,none,none,none,none,none,none,none,none,none,none,none,none,none,none,none,none,none,none,none,none,none,none,none,none,none,none,none,none,none,none,none,none,none,none,none,none,none,none,none,none,none,none,none,none,none,none,none,none,none,none,none,none,none,none,none,none,none,none,none,none,none,none,none,none,none,none,none,none,none,none,none,none,none,none,none,none,none,none,some (.slice A90 (setl t280 t184 (IntKind.u64.wrap ((gt t280 t184) + (gt t280 ((gt (gt t7 t184) t279).To))))).length ((t5.length : Int).toNat)),none,some (.slice A90 (setl t280 t184 (IntKind.u64.wrap ((gt t280 t184) + (gt t280 ((gt (gt t7 t184) t279).To))))).length ((t5.length : Int).toNat)),none,none,none,some (.slice A90 (setl t280 t184 (IntKind.u64.wrap ((gt t280 t184) + (gt t280 ((gt (gt t7 t184) t279).To))))).length ((t5.length : Int).toNat)),none,none,none,none,none,none,none,none,none,none,none,none,none,none,none,none,none,none,none]) (by simp only [setl_len]) ?_
            refine sR 7 td139 ?_
            have hS358:=hS357.pick16
            have hS359:=hS358.pick16
            have hS360:=hS359.pick16
            have hS361:=hS360.pick16
            have hS362:=hS361.pick16
            have hS363:=hS362.pick16
            have hS364:=hS363.pick16
            have hS365:=hS364.pick7
            have hS366:=hS365.pick16
            have hS367:=hS366.pick16
            have hS368:=hS367.pick16
            have hS369:=hS368.pick16
            have hS370:=hS369.pick16
            have hS371:=hS370.pick16
            have hS372:=hS371.pick16
            have hS373:=hS372.pick16
            have hS374:=hS373.pick16
            refine sR 1 td140 ?_
            exact rF _ (ih288 (IntKind.i64.wrap (t279 + 1)) (setl t280 t184 (IntKind.u64.wrap ((gt t280 t184) + (gt t280 ((gt (gt t7 t184) t279).To))))) t329 _ hp348 he286 _ _ hS374)
           refine r_drawn3 (C:=St w0 Z56 (xblk b60 43 ([.slice Q18 t5.length Q19,.slice Q20 t6.length Q21,.slice Q22 t7.length Q23,.slice Q25 t8.length Q26,.slice Q27 t9.length Q28,.slice Q29 t10.length Q30,.slice Q31 t11.length Q32,.bool t12,.map (some Q33)])::xrow Q18 Q19 9 1 (t5.flatMap encS)::xrow Q20 Q21 3 1 (t6.flatMap (encI .i64))::xrow Q25 Q26 4 1 (t8.flatMap encB)::xrow Q27 Q28 84 49 (t9.flatMap enc_api_Final)::xrow Q29 Q30 3 1 (t10.flatMap (encI .i64))::xrow Q31 Q32 88 3 (t11.flatMap enc_api_Pick)::xmap Q33 (t13.map (kv Value.string (Value.int .i64)))::xrow A84 ((t5.length : Int).toNat) 4 1 (t185.flatMap encB)::xrow A90 ((t5.length : Int).toNat) 63 1 (t280.flatMap (encI .u64))::xrow A96 ((t5.length : Int).toNat) 4 1 (t281.flatMap encB)::xblk ba0_1c0 33 ([.pointer (some ⟨ba0_1c0v,0,none⟩)])::xblk ba0_1c0v 49 ([.map (some ba0_1c0vv_0),.map (some ba0_1c0vv_1),.map (some ba0_1c0vv_2),.bool t14])::xmap ba0_1c0vv_0 (t15.map (kv Value.string (Value.int .i64)))::xmap ba0_1c0vv_1 (t16.map (kv Value.string (Value.int .i64)))::xmap ba0_1c0vv_2 (t17.map (kv Value.string (Value.int .i64)))::xblk ba0_1c1 26 ([.slice Aa0_1c1v_0 a0_1c1v.Next.length ca0_1c1v_0,.slice Aa0_1c1v_1 a0_1c1v.End.length ca0_1c1v_1,.slice Aa0_1c1v_2 a0_1c1v.Value.length ca0_1c1v_2,.int .i64 a0_1c1v.Start])::fs)) (c:=p21_58) (id:=26) (by kernel_rfl) (by kernel_rfl) 29 (Nat.le_of_ble_eq_true (by kernel_rfl)) (by kernel_rfl) (by kernel_rfl) (by kernel_rfl) (is:=[0,1,2,3,4,5,6,7,8,9,10,11,12,13,14,15,16,17,18,19,20,21,22,23,24,25,26,27,28]) (rest:=[29]) (by kernel_rfl) (by kernel_rfl) hS283.drew ?_
           refine qR 4 (rg 4 25) ?_
           obtain ⟨g375,hp376⟩:=ite_some hv327
           obtain ⟨b377,p378,hA379,-⟩:=(hS283.row 10 rfl).at_ len_encB (by omega) g375.1 g375.2
           refine q_indexAddr (c:=(hd p21_58 29)) (i:=4) (d:=(some 106)) (ty:=0) (t:=23) (e:=4) (n:=t281.length) (cp:=(t5.length : Int).toNat) (sz:=1) (kk:=.i64) (x:=(.tmp 104)) (y:=(.tmp 105)) (b:=b377) (o':=p378) (j:=t184) (by kernel_rfl) (by kernel_rfl) (slv (by kernel_rfl) hA379) (by kernel_rfl) (by kernel_rfl) (by kernel_rfl) g375.1 g375.2 ?_
           refine qL1 4 (.tmp 106) 0 (fun w hC => ((hC.row 10 rfl).at2 hA379 len_encB (by omega) g375.1 g375.2)) ?_
           refine q_split (gt t281 t184) (fun h381 => ?_) (fun h382 => ?_)
           ·have hp383:=ite_t hp376 h381
            refine qR 22 [28] ?_
            obtain ⟨g384,hp385⟩:=ite_some hp383
            obtain ⟨b386,p387,hA388,-⟩:=(hS283.row 10 rfl).at_ len_encB (by omega) g384.1 g384.2
            refine q_indexAddr (c:=(hd p21_58 29)) (i:=28) (d:=(some 130)) (ty:=0) (t:=23) (e:=4) (n:=t281.length) (cp:=(t5.length : Int).toNat) (sz:=1) (kk:=.i64) (x:=(.tmp 102)) (y:=(.tmp 103)) (b:=b386) (o':=p387) (j:=t184) (by kernel_rfl) (by kernel_rfl) (slv (by kernel_rfl) hA388) (by kernel_rfl) (by kernel_rfl) (by kernel_rfl) g384.1 g384.2 ?_
            refine Qs.nil ?_
            intro w390 hS391
            have hS392:=hS391.pick10
            refine r_storeEl (c:=p21_58) (i:=29) (d:=none) (ty:=0) (enc:=encB) (e:=4) (t:=4) (sz:=1) (cp:=(t5.length : Int).toNat) (A:=A96) (xs:=t281) (x:=(.tmp 130)) (y:=(.tmp 129)) (el:=gt t281 t184) (el':=true) (j:=t184) (off:=0) (b:=b386) (p:=p387) (v:=.bool true) (vs:=[.bool true]) (ad:=⟨b386,p387 + t184.toNat * 1,none⟩) hS392 (by kernel_rfl) (by kernel_rfl) (by kernel_rfl) (by simp) (by kernel_rfl) hA388 g384 rfl len_encB (by kernel_rfl) (by kernel_rfl) (by kernel_rfl) (Nat.le_of_ble_eq_true (by kernel_rfl)) (Nat.le_of_ble_eq_true (by kernel_rfl)) (by kernel_rfl) ?_
            intro w393 hS394
            refine rF [none,none,none,none,none,none,none,none,none,none,some (.slice A96 t281.length ((t5.length : Int).toNat)),none,none,none,none,none,none,none,none,none,none,none,none,none,none,none,none,none,none,none,none,none,none,none,none,none,none,none,none,none,none,none,none,none,none,none,none,none,none,none,none,none,none,none,none,none,none,none,none,none,none,none,none,none,none,none,none,none,none,none,none,none,none,none,none,none,none,none,none,none,none,none,none,none,none,none,none,none,none,none,none,none,none,none,none,none,none,none,none,none,none,none,some (.slice A96 t281.length ((t5.length : Int).toNat)),none,some (.slice A96 t281.length ((t5.length : Int).toNat)),none,none,none,none,none,none,none,none,none,none,none,none,none,none,none,none,none,none,none,none,none,none,none,none,none,none,none,none,none,none,none,none,none,none,none,none,none,none,none,none,none,none,none,none,none,none,none,none,none,none,none,none] ?_
            refine Runs.refill (m':=[none,none,none,none,none,none,none,none,none,none,some (.slice A96 (setl t281 t184 true).length ((t5.length : Int).toNat)),none,none,none,none,none,none,none,none,none,none,none,none,none,none,none,none,none,none,none,none,none,none,none,none,none,none,none,none,none,none,none,none,none,none,none,none,none,none,none,none,none,none,none,none,none,none,none,none,none,none,none,none,none,none,none,none,none,none,none,none,none,none,none,none,none,none,none,none,none,none,none,none,none,none,none,none,none,none,none,none,none,none,none,none,none,none,none,none,none,none,none,some (.slice A96 (setl t281 t184 true).length ((t5.length : Int).toNat)),none,some (.slice A96 (setl t281 t184 true).length ((t5.length : Int).toNat)),none,none,none,none,none,none,none,none,none,none,none,none,none,none,none,none,none,none,none,none,none,none,none,none,none,none,none,none,none,none,none,none,none,none,none,none,none,none,none,none,none,none,none,none,none,none,none,none,none,none,none,none]) (by simp only [setl_len]) ?_
            refine sR 1 td146 ?_
            have hS395:=hS394.pick16
            have hS396:=hS395.pick16
            have hS397:=hS396.pick16
            have hS398:=hS397.pick16
            have hS399:=hS398.pick16
            have hS400:=hS399.pick16
            have hS401:=hS400.pick6
            have hS402:=hS401.pick16
            have hS403:=hS402.pick16
            have hS404:=hS403.pick16
            have hS405:=hS404.pick16
            have hS406:=hS405.pick16
            have hS407:=hS406.pick16
            have hS408:=hS407.pick16
            have hS409:=hS408.pick16
            have hS410:=hS409.pick16
            have hS411:=hS410.pick16
            exact rF _ (J332 (setl t281 t184 true) (Option.some.inj hp385) _ _ hS411)
           have hp412:=ite_f hp376 h382
           refine qR 3 (rg 9 20) ?_
           obtain ⟨g413,hp414⟩:=ite_some hp412
           obtain ⟨b415,p416,hA417,-⟩:=(hS283.row 10 rfl).at_ len_encB (by omega) g413.1 g413.2
           refine q_indexAddr (c:=(hd p21_58 29)) (i:=9) (d:=(some 111)) (ty:=0) (t:=23) (e:=4) (n:=t281.length) (cp:=(t5.length : Int).toNat) (sz:=1) (kk:=.i64) (x:=(.tmp 109)) (y:=(.tmp 110)) (b:=b415) (o':=p416) (j:=(gt (gt t7 t184) t279).To) (by kernel_rfl) (by kernel_rfl) (slv (by kernel_rfl) hA417) (by kernel_rfl) (by kernel_rfl) (by kernel_rfl) g413.1 g413.2 ?_
           refine qL1 4 (.tmp 111) 0 (fun w hC => ((hC.row 10 rfl).at2 hA417 len_encB (by omega) g413.1 g413.2)) ?_
           refine q_split (gt t281 ((gt (gt t7 t184) t279).To)) (fun h419 => ?_) (fun h420 => ?_)
           ·have hp421:=ite_t hp414 h419
            refine qR 17 [28] ?_
            obtain ⟨g422,hp423⟩:=ite_some hp421
            obtain ⟨b424,p425,hA426,-⟩:=(hS283.row 10 rfl).at_ len_encB (by omega) g422.1 g422.2
            refine q_indexAddr (c:=(hd p21_58 29)) (i:=28) (d:=(some 130)) (ty:=0) (t:=23) (e:=4) (n:=t281.length) (cp:=(t5.length : Int).toNat) (sz:=1) (kk:=.i64) (x:=(.tmp 102)) (y:=(.tmp 103)) (b:=b424) (o':=p425) (j:=t184) (by kernel_rfl) (by kernel_rfl) (slv (by kernel_rfl) hA426) (by kernel_rfl) (by kernel_rfl) (by kernel_rfl) g422.1 g422.2 ?_
            refine Qs.nil ?_
            intro w428 hS429
            have hS430:=hS429.pick10
            refine r_storeEl (c:=p21_58) (i:=29) (d:=none) (ty:=0) (enc:=encB) (e:=4) (t:=4) (sz:=1) (cp:=(t5.length : Int).toNat) (A:=A96) (xs:=t281) (x:=(.tmp 130)) (y:=(.tmp 129)) (el:=gt t281 t184) (el':=true) (j:=t184) (off:=0) (b:=b424) (p:=p425) (v:=.bool true) (vs:=[.bool true]) (ad:=⟨b424,p425 + t184.toNat * 1,none⟩) hS430 (by kernel_rfl) (by kernel_rfl) (by kernel_rfl) (by simp) (by kernel_rfl) hA426 g422 rfl len_encB (by kernel_rfl) (by kernel_rfl) (by kernel_rfl) (Nat.le_of_ble_eq_true (by kernel_rfl)) (Nat.le_of_ble_eq_true (by kernel_rfl)) (by kernel_rfl) ?_
            intro w431 hS432
            refine rF [none,none,none,none,none,none,none,none,none,none,some (.slice A96 t281.length ((t5.length : Int).toNat)),none,none,none,none,none,none,none,none,none,none,none,none,none,none,none,none,none,none,none,none,none,none,none,none,none,none,none,none,none,none,none,none,none,none,none,none,none,none,none,none,none,none,none,none,none,none,none,none,none,none,none,none,none,none,none,none,none,none,none,none,none,none,none,none,none,none,none,none,none,none,none,none,none,none,none,none,none,none,none,none,none,none,none,none,none,none,none,none,none,none,none,some (.slice A96 t281.length ((t5.length : Int).toNat)),none,some (.slice A96 t281.length ((t5.length : Int).toNat)),none,none,none,none,some (.slice A96 t281.length ((t5.length : Int).toNat)),none,none,none,none,none,none,none,none,none,none,none,none,none,none,none,none,none,none,none,none,none,none,none,none,none,none,none,none,none,none,none,none,none,none,none,none,none,none,none,none,none,none,none,none,none,none,none] ?_
            refine Runs.refill (m':=[none,none,none,none,none,none,none,none,none,none,some (.slice A96 (setl t281 t184 true).length ((t5.length : Int).toNat)),none,none,none,none,none,none,none,none,none,none,none,none,none,none,none,none,none,none,none,none,none,none,none,none,none,none,none,none,none,none,none,none,none,none,none,none,none,none,none,none,none,none,none,none,none,none,none,none,none,none,none,none,none,none,none,none,none,none,none,none,none,none,none,none,none,none,none,none,none,none,none,none,none,none,none,none,none,none,none,none,none,none,none,none,none,none,none,none,none,none,none,some (.slice A96 (setl t281 t184 true).length ((t5.length : Int).toNat)),none,some (.slice A96 (setl t281 t184 true).length ((t5.length : Int).toNat)),none,none,none,none,some (.slice A96 (setl t281 t184 true).length ((t5.length : Int).toNat)),none,none,none,none,none,none,none,none,none,none,none,none,none,none,none,none,none,none,none,none,none,none,none,none,none,none,none,none,none,none,none,none,none,none,none,none,none,none,none,none,none,none,none,none,none,none,none]) (by simp only [setl_len]) ?_
            refine sR 1 td146 ?_
            have hS433:=hS432.pick16
            have hS434:=hS433.pick16
            have hS435:=hS434.pick16
            have hS436:=hS435.pick16
            have hS437:=hS436.pick16
            have hS438:=hS437.pick16
            have hS439:=hS438.pick6
            have hS440:=hS439.pick16
            have hS441:=hS440.pick16
            have hS442:=hS441.pick16
            have hS443:=hS442.pick16
            have hS444:=hS443.pick16
            have hS445:=hS444.pick16
            have hS446:=hS445.pick16
            have hS447:=hS446.pick16
            have hS448:=hS447.pick16
            have hS449:=hS448.pick16
            exact rF _ (J332 (setl t281 t184 true) (Option.some.inj hp423) _ _ hS449)
           have hp450:=ite_f hp414 h420
           refine qR 4 (rg 15 14) ?_
           obtain ⟨g451,hp452⟩:=ite_some hp450
           obtain ⟨b453,p454,hA455,-⟩:=(hS283.row 9 rfl).at_ (len_encI .u64) (by omega) g451.1 g451.2
           refine q_indexAddr (c:=(hd p21_58 29)) (i:=15) (d:=(some 117)) (ty:=0) (t:=125) (e:=63) (n:=t280.length) (cp:=(t5.length : Int).toNat) (sz:=1) (kk:=.i64) (x:=(.tmp 115)) (y:=(.tmp 116)) (b:=b453) (o':=p454) (j:=t184) (by kernel_rfl) (by kernel_rfl) (slv (by kernel_rfl) hA455) (by kernel_rfl) (by kernel_rfl) (by kernel_rfl) g451.1 g451.2 ?_
           refine qL1 63 (.tmp 117) 0 (fun w hC => ((hC.row 9 rfl).at2 hA455 (len_encI .u64) (by omega) g451.1 g451.2)) ?_
           refine qR 2 (rg 19 10) ?_
           obtain ⟨g457,hp458⟩:=ite_some hp452
           obtain ⟨b459,p460,hA461,-⟩:=(hS283.row 9 rfl).at_ (len_encI .u64) (by omega) g457.1 g457.2
           refine q_indexAddr (c:=(hd p21_58 29)) (i:=19) (d:=(some 121)) (ty:=0) (t:=125) (e:=63) (n:=t280.length) (cp:=(t5.length : Int).toNat) (sz:=1) (kk:=.i64) (x:=(.tmp 119)) (y:=(.tmp 120)) (b:=b459) (o':=p460) (j:=(gt (gt t7 t184) t279).To) (by kernel_rfl) (by kernel_rfl) (slv (by kernel_rfl) hA461) (by kernel_rfl) (by kernel_rfl) (by kernel_rfl) g457.1 g457.2 ?_
           refine qL1 63 (.tmp 121) 0 (fun w hC => ((hC.row 9 rfl).at2 hA461 (len_encI .u64) (by omega) g457.1 g457.2)) ?_
           refine qR 3 (rg 24 5) ?_
           obtain ⟨g463,hp464⟩:=ite_some hp458
           obtain ⟨b465,p466,hA467,-⟩:=(hS283.row 9 rfl).at_ (len_encI .u64) (by omega) g463.1 g463.2
           refine q_indexAddr (c:=(hd p21_58 29)) (i:=24) (d:=(some 126)) (ty:=0) (t:=125) (e:=63) (n:=t280.length) (cp:=(t5.length : Int).toNat) (sz:=1) (kk:=.i64) (x:=(.tmp 124)) (y:=(.tmp 125)) (b:=b465) (o':=p466) (j:=t184) (by kernel_rfl) (by kernel_rfl) (slv (by kernel_rfl) hA467) (by kernel_rfl) (by kernel_rfl) (by kernel_rfl) g463.1 g463.2 ?_
           refine qL1 63 (.tmp 126) 0 (fun w hC => ((hC.row 9 rfl).at2 hA467 (len_encI .u64) (by omega) g463.1 g463.2)) ?_
           refine qI 1 [27,28] 128 hp464 (fun hp471 => ?_) fun hp500 => ?_
           ·refine qR 1 [28] ?_
            obtain ⟨g472,hp473⟩:=ite_some hp471
            obtain ⟨b474,p475,hA476,-⟩:=(hS283.row 10 rfl).at_ len_encB (by omega) g472.1 g472.2
            refine q_indexAddr (c:=(hd p21_58 29)) (i:=28) (d:=(some 130)) (ty:=0) (t:=23) (e:=4) (n:=t281.length) (cp:=(t5.length : Int).toNat) (sz:=1) (kk:=.i64) (x:=(.tmp 102)) (y:=(.tmp 103)) (b:=b474) (o':=p475) (j:=t184) (by kernel_rfl) (by kernel_rfl) (slv (by kernel_rfl) hA476) (by kernel_rfl) (by kernel_rfl) (by kernel_rfl) g472.1 g472.2 ?_
            refine Qs.nil ?_
            intro w478 hS479
            have hS480:=hS479.pick10
            refine r_storeEl (c:=p21_58) (i:=29) (d:=none) (ty:=0) (enc:=encB) (e:=4) (t:=4) (sz:=1) (cp:=(t5.length : Int).toNat) (A:=A96) (xs:=t281) (x:=(.tmp 130)) (y:=(.tmp 129)) (el:=gt t281 t184) (el':=true) (j:=t184) (off:=0) (b:=b474) (p:=p475) (v:=.bool true) (vs:=[.bool true]) (ad:=⟨b474,p475 + t184.toNat * 1,none⟩) hS480 (by kernel_rfl) (by kernel_rfl) (by kernel_rfl) (by simp) (by kernel_rfl) hA476 g472 rfl len_encB (by kernel_rfl) (by kernel_rfl) (by kernel_rfl) (Nat.le_of_ble_eq_true (by kernel_rfl)) (Nat.le_of_ble_eq_true (by kernel_rfl)) (by kernel_rfl) ?_
            intro w481 hS482
            refine rF [none,none,none,none,none,none,none,none,none,none,some (.slice A96 t281.length ((t5.length : Int).toNat)),none,none,none,none,none,none,none,none,none,none,none,none,none,none,none,none,none,none,none,none,none,none,none,none,none,none,none,none,none,none,none,none,none,none,none,none,none,none,none,none,none,none,none,none,none,none,none,none,none,none,none,none,none,none,none,none,none,none,none,none,none,none,none,none,none,none,none,none,none,none,none,none,none,none,none,none,none,none,none,none,none,none,none,none,none,none,none,none,none,none,none,some (.slice A96 t281.length ((t5.length : Int).toNat)),none,some (.slice A96 t281.length ((t5.length : Int).toNat)),none,none,none,none,some (.slice A96 t281.length ((t5.length : Int).toNat)),none,none,none,none,none,none,none,none,none,none,none,none,none,none,none,none,none,none,none,none,none,none,none,none,none,none,none,none,none,none,none,none,none,none,none,none,none,none,none,none,none,none,none,none,none,none,none] ?_
            refine Runs.refill (m':=[none,none,none,none,none,none,none,none,none,none,some (.slice A96 (setl t281 t184 true).length ((t5.length : Int).toNat)),none,none,none,none,none,none,none,none,none,none,none,none,none,none,none,none,none,none,none,none,none,none,none,none,none,none,none,none,none,none,none,none,none,none,none,none,none,none,none,none,none,none,none,none,none,none,none,none,none,none,none,none,none,none,none,none,none,none,none,none,none,none,none,none,none,none,none,none,none,none,none,none,none,none,none,none,none,none,none,none,none,none,none,none,none,none,none,none,none,none,none,some (.slice A96 (setl t281 t184 true).length ((t5.length : Int).toNat)),none,some (.slice A96 (setl t281 t184 true).length ((t5.length : Int).toNat)),none,none,none,none,some (.slice A96 (setl t281 t184 true).length ((t5.length : Int).toNat)),none,none,none,none,none,none,none,none,none,none,none,none,none,none,none,none,none,none,none,none,none,none,none,none,none,none,none,none,none,none,none,none,none,none,none,none,none,none,none,none,none,none,none,none,none,none,none]) (by simp only [setl_len]) ?_
            refine sR 1 td146 ?_
            have hS483:=hS482.pick16
            have hS484:=hS483.pick16
            have hS485:=hS484.pick16
            have hS486:=hS485.pick16
            have hS487:=hS486.pick16
            have hS488:=hS487.pick16
            have hS489:=hS488.pick6
            have hS490:=hS489.pick16
            have hS491:=hS490.pick16
            have hS492:=hS491.pick16
            have hS493:=hS492.pick16
            have hS494:=hS493.pick16
            have hS495:=hS494.pick16
            have hS496:=hS495.pick16
            have hS497:=hS496.pick16
            have hS498:=hS497.pick16
            have hS499:=hS498.pick16
            exact rF _ (J332 (setl t281 t184 true) (Option.some.inj hp473) _ _ hS499)
           refine qR 1 [28] ?_
           obtain ⟨g501,hp502⟩:=ite_some hp500
           obtain ⟨b503,p504,hA505,-⟩:=(hS283.row 10 rfl).at_ len_encB (by omega) g501.1 g501.2
           refine q_indexAddr (c:=(hd p21_58 29)) (i:=28) (d:=(some 130)) (ty:=0) (t:=23) (e:=4) (n:=t281.length) (cp:=(t5.length : Int).toNat) (sz:=1) (kk:=.i64) (x:=(.tmp 102)) (y:=(.tmp 103)) (b:=b503) (o':=p504) (j:=t184) (by kernel_rfl) (by kernel_rfl) (slv (by kernel_rfl) hA505) (by kernel_rfl) (by kernel_rfl) (by kernel_rfl) g501.1 g501.2 ?_
           refine Qs.nil ?_
           intro w507 hS508
           have hS509:=hS508.pick10
           refine r_storeEl (c:=p21_58) (i:=29) (d:=none) (ty:=0) (enc:=encB) (e:=4) (t:=4) (sz:=1) (cp:=(t5.length : Int).toNat) (A:=A96) (xs:=t281) (x:=(.tmp 130)) (y:=(.tmp 129)) (el:=gt t281 t184) (el':=false) (j:=t184) (off:=0) (b:=b503) (p:=p504) (v:=.bool false) (vs:=[.bool false]) (ad:=⟨b503,p504 + t184.toNat * 1,none⟩) hS509 (by kernel_rfl) (by kernel_rfl) (by kernel_rfl) (by simp) (by kernel_rfl) hA505 g501 rfl len_encB (by kernel_rfl) (by kernel_rfl) (by kernel_rfl) (Nat.le_of_ble_eq_true (by kernel_rfl)) (Nat.le_of_ble_eq_true (by kernel_rfl)) (by kernel_rfl) ?_
           intro w510 hS511
           refine rF [none,none,none,none,none,none,none,none,none,none,some (.slice A96 t281.length ((t5.length : Int).toNat)),none,none,none,none,none,none,none,none,none,none,none,none,none,none,none,none,none,none,none,none,none,none,none,none,none,none,none,none,none,none,none,none,none,none,none,none,none,none,none,none,none,none,none,none,none,none,none,none,none,none,none,none,none,none,none,none,none,none,none,none,none,none,none,none,none,none,none,none,none,none,none,none,none,none,none,none,none,none,none,none,none,none,none,none,none,none,none,none,none,none,none,some (.slice A96 t281.length ((t5.length : Int).toNat)),none,some (.slice A96 t281.length ((t5.length : Int).toNat)),none,none,none,none,some (.slice A96 t281.length ((t5.length : Int).toNat)),none,none,none,none,none,none,none,none,none,none,none,none,none,none,none,none,none,none,none,none,none,none,none,none,none,none,none,none,none,none,none,none,none,none,none,none,none,none,none,none,none,none,none,none,none,none,none] ?_
           refine Runs.refill (m':=[none,none,none,none,none,none,none,none,none,none,some (.slice A96 (setl t281 t184 false).length ((t5.length : Int).toNat)),none,none,none,none,none,none,none,none,none,none,none,none,none,none,none,none,none,none,none,none,none,none,none,none,none,none,none,none,none,none,none,none,none,none,none,none,none,none,none,none,none,none,none,none,none,none,none,none,none,none,none,none,none,none,none,none,none,none,none,none,none,none,none,none,none,none,none,none,none,none,none,none,none,none,none,none,none,none,none,none,none,none,none,none,none,none,none,none,none,none,none,some (.slice A96 (setl t281 t184 false).length ((t5.length : Int).toNat)),none,some (.slice A96 (setl t281 t184 false).length ((t5.length : Int).toNat)),none,none,none,none,some (.slice A96 (setl t281 t184 false).length ((t5.length : Int).toNat)),none,none,none,none,none,none,none,none,none,none,none,none,none,none,none,none,none,none,none,none,none,none,none,none,none,none,none,none,none,none,none,none,none,none,none,none,none,none,none,none,none,none,none,none,none,none,none]) (by simp only [setl_len]) ?_
           refine sR 1 td146 ?_
           have hS512:=hS511.pick16
           have hS513:=hS512.pick16
           have hS514:=hS513.pick16
           have hS515:=hS514.pick16
           have hS516:=hS515.pick16
           have hS517:=hS516.pick16
           have hS518:=hS517.pick6
           have hS519:=hS518.pick16
           have hS520:=hS519.pick16
           have hS521:=hS520.pick16
           have hS522:=hS521.pick16
           have hS523:=hS522.pick16
           have hS524:=hS523.pick16
           have hS525:=hS524.pick16
           have hS526:=hS525.pick16
           have hS527:=hS526.pick16
           have hS528:=hS527.pick16
           exact rF _ (J332 (setl t281 t184 false) (Option.some.inj hp502) _ _ hS528)
          refine sR 3 td137 ?_
          exact rF _ (J250 t280 t281 ((Option.some.inj hp529).trans he286) _ _ hS283)
         exact rF _ (L290 0 t237 t187 _ hv244 rfl _ _ hS239)
        refine r_split (gt t8 t184) (fun h530 => ?_) (fun h531 => ?_)
        ·have hp532:=ite_t hv235 h530
         refine sR 5 (.inRegion (opsOf p21_60) [2,3]::td136) ?_
         obtain ⟨g533,hp534⟩:=ite_some hp532
         obtain ⟨b535,p536,hA537,-⟩:=(hS220.row 9 rfl).at_ (len_encI .u64) (by omega) g533.1 g533.2
         refine r_indexAddr (c:=p21_60) (i:=2) (d:=(some 82)) (ty:=0) (t:=125) (e:=63) (n:=t186.length) (cp:=(t5.length : Int).toNat) (sz:=1) (kk:=.i64) (x:=(.tmp 80)) (y:=(.tmp 81)) (b:=b535) (o':=p536) (j:=t184) (by kernel_rfl) (by kernel_rfl) (slv (by kernel_rfl) hA537) (by kernel_rfl) (by kernel_rfl) (by kernel_rfl) g533.1 g533.2 ?_
         have hS539:=hS220.pick9
         refine r_storeEl (c:=p21_60) (i:=3) (d:=none) (ty:=0) (enc:=(encI .u64)) (e:=63) (t:=63) (sz:=1) (cp:=(t5.length : Int).toNat) (A:=A90) (xs:=t186) (x:=(.tmp 82)) (y:=(.const (.int .u64 1))) (el:=gt t186 t184) (el':=1) (j:=t184) (off:=0) (b:=b535) (p:=p536) (v:=.int .u64 1) (vs:=[.int .u64 1]) (ad:=⟨b535,p536 + t184.toNat * 1,none⟩) hS539 (by kernel_rfl) (by kernel_rfl) (by kernel_rfl) (by simp) (by kernel_rfl) hA537 g533 rfl (len_encI .u64) (by kernel_rfl) (by kernel_rfl) (by kernel_rfl) (Nat.le_of_ble_eq_true (by kernel_rfl)) (Nat.le_of_ble_eq_true (by kernel_rfl)) (by kernel_rfl) ?_
         intro w540 hS541
         refine rF [none,none,none,none,none,none,none,none,none,some (.slice A90 t186.length ((t5.length : Int).toNat)),none,none,none,none,none,none,none,none,none,none,none,none,none,none,none,none,none,none,none,none,none,none,none,none,none,none,none,none,none,none,none,none,none,none,none,none,none,none,none,none,none,none,none,none,none,none,none,none,none,none,none,none,none,none,none,none,none,none,none,none,none,none,none,none,none,none,none,none,none,none,some (.slice A90 t186.length ((t5.length : Int).toNat)),none,none,none,none,none,none,none,none,none,none,none,none,none,none,none,none,none,none,none,none,none,none,none,none,none,none,none,none,none,none,none,none,none,none,none,none,none,none,none,none,none,none,none,none,none,none,none,none,none,none,none,none,none,none,none,none,none,none,none,none,none,none,none,none,none,none,none,none,none,none,none,none,none,none,none,none] ?_
         refine Runs.refill (m':=[none,none,none,none,none,none,none,none,none,some (.slice A90 (setl t186 t184 1).length ((t5.length : Int).toNat)),none,none,none,none,none,none,none,none,none,none,none,none,none,none,none,none,none,none,none,none,none,none,none,none,none,none,none,none,none,none,none,none,none,none,none,none,none,none,none,none,none,none,none,none,none,none,none,none,none,none,none,none,none,none,none,none,none,none,none,none,none,none,none,none,none,none,none,none,none,none,some (.slice A90 (setl t186 t184 1).length ((t5.length : Int).toNat)),none,none,none,none,none,none,none,none,none,none,none,none,none,none,none,none,none,none,none,none,none,none,none,none,none,none,none,none,none,none,none,none,none,none,none,none,none,none,none,none,none,none,none,none,none,none,none,none,none,none,none,none,none,none,none,none,none,none,none,none,none,none,none,none,none,none,none,none,none,none,none,none,none,none,none,none]) (by simp only [setl_len]) ?_
         refine sR 1 td136 ?_
         have hS542:=hS541.pick16
         have hS543:=hS542.pick16
         have hS544:=hS543.pick16
         have hS545:=hS544.pick16
         have hS546:=hS545.pick16
         have hS547:=hS546.pick16
         have hS548:=hS547.pick16
         have hS549:=hS548.pick7
         have hS550:=hS549.pick16
         have hS551:=hS550.pick16
         have hS552:=hS551.pick16
         have hS553:=hS552.pick16
         have hS554:=hS553.pick16
         have hS555:=hS554.pick16
         have hS556:=hS555.pick16
         have hS557:=hS556.pick16
         have hS558:=hS557.pick16
         exact rF _ (J240 (setl t186 t184 1) (Option.some.inj hp534) _ _ hS558)
        have hp559:=ite_f hv235 h531
        refine sR 3 td136 ?_
        exact rF _ (J240 t186 (Option.some.inj hp559) _ _ hS220)
       have L570 : ∀ (t560 : Bool) (t561 : Int) (e565 : Bool),weirref14_Runs.l2 t7 t184 t185 t560 t561 = some e565 → e565 = v215 → ∀ (l564 : List Value) (w562 : World) (hS563 : St w0 Z56 (xblk b60 43 ([.slice Q18 t5.length Q19,.slice Q20 t6.length Q21,.slice Q22 t7.length Q23,.slice Q25 t8.length Q26,.slice Q27 t9.length Q28,.slice Q29 t10.length Q30,.slice Q31 t11.length Q32,.bool t12,.map (some Q33)])::xrow Q18 Q19 9 1 (t5.flatMap encS)::xrow Q20 Q21 3 1 (t6.flatMap (encI .i64))::xrow Q25 Q26 4 1 (t8.flatMap encB)::xrow Q27 Q28 84 49 (t9.flatMap enc_api_Final)::xrow Q29 Q30 3 1 (t10.flatMap (encI .i64))::xrow Q31 Q32 88 3 (t11.flatMap enc_api_Pick)::xmap Q33 (t13.map (kv Value.string (Value.int .i64)))::xrow A84 ((t5.length : Int).toNat) 4 1 (t185.flatMap encB)::xrow A90 ((t5.length : Int).toNat) 63 1 (t186.flatMap (encI .u64))::xrow A96 ((t5.length : Int).toNat) 4 1 (t187.flatMap encB)::xblk ba0_1c0 33 ([.pointer (some ⟨ba0_1c0v,0,none⟩)])::xblk ba0_1c0v 49 ([.map (some ba0_1c0vv_0),.map (some ba0_1c0vv_1),.map (some ba0_1c0vv_2),.bool t14])::xmap ba0_1c0vv_0 (t15.map (kv Value.string (Value.int .i64)))::xmap ba0_1c0vv_1 (t16.map (kv Value.string (Value.int .i64)))::xmap ba0_1c0vv_2 (t17.map (kv Value.string (Value.int .i64)))::xblk ba0_1c1 26 ([.slice Aa0_1c1v_0 a0_1c1v.Next.length ca0_1c1v_0,.slice Aa0_1c1v_1 a0_1c1v.End.length ca0_1c1v_1,.slice Aa0_1c1v_2 a0_1c1v.Value.length ca0_1c1v_2,.int .i64 a0_1c1v.Start])::fs) w562),Runs Try.prog (fx 21) td135 (fill (mk 157 [(6,.pointer (some ⟨b60,0,none⟩)),(7,.int .i64 (t5.length : Int)),(8,.slice A84 t185.length ((t5.length : Int).toNat)),(9,.slice A90 t186.length ((t5.length : Int).toNat)),(10,.slice A96 t187.length ((t5.length : Int).toNat)),(11,.int .i64 t183),(12,.int .i64 t137),(13,.int .i64 t184),(14,.bool t560),(15,.int .i64 t561)]) l564) w562 R:=by
        refine weirref14_Runs.l2.partial_correctness t7 t184 t185 (fun t560 t561 e565 => e565 = v215 → ∀ (l564 : List Value) (w562 : World) (hS563 : St w0 Z56 (xblk b60 43 ([.slice Q18 t5.length Q19,.slice Q20 t6.length Q21,.slice Q22 t7.length Q23,.slice Q25 t8.length Q26,.slice Q27 t9.length Q28,.slice Q29 t10.length Q30,.slice Q31 t11.length Q32,.bool t12,.map (some Q33)])::xrow Q18 Q19 9 1 (t5.flatMap encS)::xrow Q20 Q21 3 1 (t6.flatMap (encI .i64))::xrow Q25 Q26 4 1 (t8.flatMap encB)::xrow Q27 Q28 84 49 (t9.flatMap enc_api_Final)::xrow Q29 Q30 3 1 (t10.flatMap (encI .i64))::xrow Q31 Q32 88 3 (t11.flatMap enc_api_Pick)::xmap Q33 (t13.map (kv Value.string (Value.int .i64)))::xrow A84 ((t5.length : Int).toNat) 4 1 (t185.flatMap encB)::xrow A90 ((t5.length : Int).toNat) 63 1 (t186.flatMap (encI .u64))::xrow A96 ((t5.length : Int).toNat) 4 1 (t187.flatMap encB)::xblk ba0_1c0 33 ([.pointer (some ⟨ba0_1c0v,0,none⟩)])::xblk ba0_1c0v 49 ([.map (some ba0_1c0vv_0),.map (some ba0_1c0vv_1),.map (some ba0_1c0vv_2),.bool t14])::xmap ba0_1c0vv_0 (t15.map (kv Value.string (Value.int .i64)))::xmap ba0_1c0vv_1 (t16.map (kv Value.string (Value.int .i64)))::xmap ba0_1c0vv_2 (t17.map (kv Value.string (Value.int .i64)))::xblk ba0_1c1 26 ([.slice Aa0_1c1v_0 a0_1c1v.Next.length ca0_1c1v_0,.slice Aa0_1c1v_1 a0_1c1v.End.length ca0_1c1v_1,.slice Aa0_1c1v_2 a0_1c1v.Value.length ca0_1c1v_2,.int .i64 a0_1c1v.Start])::fs) w562),Runs Try.prog (fx 21) td135 (fill (mk 157 [(6,.pointer (some ⟨b60,0,none⟩)),(7,.int .i64 (t5.length : Int)),(8,.slice A84 t185.length ((t5.length : Int).toNat)),(9,.slice A90 t186.length ((t5.length : Int).toNat)),(10,.slice A96 t187.length ((t5.length : Int).toNat)),(11,.int .i64 t183),(12,.int .i64 t137),(13,.int .i64 t184),(14,.bool t560),(15,.int .i64 t561)]) l564) w562 R) ?_
        intro rec569 ih568 t560 t561 e565 hb567 he566 l564 w562 hS563
        refine sR 5 (iR p21_61 2 6::td148) ?_
        refine rL1 38 (.tmp 49) 2 (hS563.blk 0 rfl) ?_
        refine sR 1 (iR p21_61 4 4::td148) ?_
        obtain ⟨g571,hp572⟩:=ite_some hb567
        obtain ⟨b573,p574,cs577,hA575,hr578,hl579,hc576⟩:=hs59.at_ g571.1 g571.2
        obtain ⟨A580,c581,rfl,hs582⟩:=hr578
        refine r_indexAddr (c:=p21_61) (i:=4) (d:=(some 52)) (ty:=0) (t:=38) (e:=93) (n:=t7.length) (cp:=Q23) (sz:=1) (kk:=.i64) (x:=(.tmp 50)) (y:=(.tmp 51)) (b:=b573) (o':=p574) (j:=t184) (by kernel_rfl) (by kernel_rfl) (slv (by kernel_rfl) hA575) (by kernel_rfl) (by kernel_rfl) (by kernel_rfl) g571.1 g571.2 ?_
        refine rL1 93 (.tmp 52) 0 (hc576.cells hS563) ?_
        refine sI 2 (.inRegion (opsOf p21_61) []::td148) 55 hp572 (fun hp586 => ?_) fun hp618 => ?_
        ·refine sR 8 (iR p21_64 2 14::td150) ?_
         cases t560
         ·have hp587:=ite_f hp586 rfl
          refine sR 21 td134 ?_
          refine sR 1 td135 ?_
          exact rF _ (ih568 false (IntKind.i64.wrap (t561 + 1)) _ hp587 he566 _ _ hS563)
         have hp588:=ite_t hp586 rfl
         refine sR 2 (iR p21_64 4 12::td150) ?_
         refine rL1 38 (.tmp 61) 2 (hS563.blk 0 rfl) ?_
         refine sR 1 (iR p21_64 6 10::td150) ?_
         obtain ⟨g589,hp590⟩:=ite_some hp588
         obtain ⟨b591,p592,cs595,hA593,hr596,hl597,hc594⟩:=hs59.at_ g589.1 g589.2
         obtain ⟨A598,c599,rfl,hs600⟩:=hr596
         refine r_indexAddr (c:=p21_64) (i:=6) (d:=(some 64)) (ty:=0) (t:=38) (e:=93) (n:=t7.length) (cp:=Q23) (sz:=1) (kk:=.i64) (x:=(.tmp 62)) (y:=(.tmp 63)) (b:=b591) (o':=p592) (j:=t184) (by kernel_rfl) (by kernel_rfl) (slv (by kernel_rfl) hA593) (by kernel_rfl) (by kernel_rfl) (by kernel_rfl) g589.1 g589.2 ?_
         refine rL1 93 (.tmp 64) 0 (hc594.cells hS563) ?_
         refine sR 1 (iR p21_64 9 7::td150) ?_
         obtain ⟨g602,hp603⟩:=ite_some hp590
         obtain ⟨b604,p605,hA606,hc607⟩:=hs600.atF g602.1 g602.2
         refine r_indexAddr (c:=p21_64) (i:=9) (d:=(some 67)) (ty:=0) (t:=93) (e:=95) (n:=(gt t7 t184).length) (cp:=c599) (sz:=4) (kk:=.i64) (x:=(.tmp 65)) (y:=(.tmp 66)) (b:=b604) (o':=p605) (j:=t561) (by kernel_rfl) (by kernel_rfl) (slv (by kernel_rfl) hA606) (by kernel_rfl) (by kernel_rfl) (by kernel_rfl) g602.1 g602.2 ?_
         refine sR 1 (iR p21_64 11 5::td150) ?_
         refine rL1 3 (.tmp 68) 0 (hc607.cells hS563) ?_
         obtain ⟨g608,hp609⟩:=ite_some hp603
         obtain ⟨b610,p611,hA612,-⟩:=(hS563.row 8 rfl).at_ len_encB (by omega) g608.1 g608.2
         refine r_indexAddr (c:=p21_64) (i:=12) (d:=(some 70)) (ty:=0) (t:=23) (e:=4) (n:=t185.length) (cp:=(t5.length : Int).toNat) (sz:=1) (kk:=.i64) (x:=(.tmp 60)) (y:=(.tmp 69)) (b:=b610) (o':=p611) (j:=(gt (gt t7 t184) t561).To) (by kernel_rfl) (by kernel_rfl) (slv (by kernel_rfl) hA612) (by kernel_rfl) (by kernel_rfl) (by kernel_rfl) g608.1 g608.2 ?_
         refine rL1 4 (.tmp 70) 0 ((hS563.row 8 rfl).at2 hA612 len_encB (by omega) g608.1 g608.2) ?_
         refine r_split (gt t185 ((gt (gt t7 t184) t561).To)) (fun h614 => ?_) (fun h615 => ?_)
         ·have hp616:=ite_t hp609 h614
          refine sR 9 td134 ?_
          refine sR 1 td135 ?_
          exact rF _ (ih568 true (IntKind.i64.wrap (t561 + 1)) _ hp616 he566 _ _ hS563)
         have hp617:=ite_f hp609 h615
         refine sR 9 td134 ?_
         refine sR 1 td135 ?_
         exact rF _ (ih568 false (IntKind.i64.wrap (t561 + 1)) _ hp617 he566 _ _ hS563)
        refine sR 3 td130 ?_
        exact rF _ (J221 t560 ((Option.some.inj hp618).trans he566) _ _ hS563)
       exact rF _ (L570 t209 0 _ hv216 rfl _ _ hS211)
      refine r_split (gt t185 t184) (fun h619 => ?_) (fun h620 => ?_)
      ·have hp621:=ite_t hv207 h619
       refine sR 5 td132 ?_
       exact rF _ (J212 false (Option.some.inj hp621) _ _ hS189)
      have hp622:=ite_f hv207 h620
      refine sR 5 td132 ?_
      exact rF _ (J212 true (Option.some.inj hp622) _ _ hS189)
     refine sR 3 td124 ?_
     exact rF _ (J163 t183 t185 t186 t187 ((Option.some.inj hp623).trans he192) _ _ hS189)
    exact rF _ (L196 t137 (IntKind.i64.wrap ((t5.length : Int) - 1)) t138 t139 t140 _ hv155 rfl _ _ hS142)
   refine sR 3 td119 ?_
   have hS625:=hS142.drop
   have hS626:=hS625.drop
   have hS627:=hS626.drop
   have hS628:=hS627.drop
   have hS629:=hS628.drop
   have hS630:=hS629.drop
   have hS631:=hS630.drop
   have hS632:=hS631.drop
   have hS633:=hS632.drop
   exact rF _ (J110 t139 t140 ((Option.some.inj hp624).trans he145) _ _ hS633)
  have hS634:=hS101.pick16
  have hS635:=hS634.pick16
  have hS636:=hS635.pick16
  have hS637:=hS636.pick16
  have hS638:=hS637.pick16
  have hS639:=hS638.pick16
  have hS640:=hS639.pick6
  have hS641:=hS640.pick7
  have hS642:=hS641.pick8
  have hS643:=hS642.pick16
  have hS644:=hS643.pick16
  have hS645:=hS644.pick16
  have hS646:=hS645.pick16
  have hS647:=hS646.pick16
  have hS648:=hS647.pick16
  have hS649:=hS648.pick16
  have hS650:=hS649.pick16
  exact rF _ (L149 (t5.length : Int) (List.replicate (t5.length : Int).toNat false) (List.replicate (t5.length : Int).toNat (0 : Int)) (List.replicate (t5.length : Int).toNat false) _ hv103 rfl _ _ hS650)

noncomputable def cd19 (p : List Nat) : Code := sub (bodyOf Try.f19) p
def weirlaw14_num.f (a0 : Int) : Option Int :=
  some (a0)
theorem weirlaw14_num.ok {a0 q0 : Int} (hp0 : weirlaw14_num.f a0 = some q0) (hS0 : St w0 Z (fs) w) :
    Calls Try.prog 19 #[.int .i64 a0] w (fun e w' => e = .returned (.int .i64 q0) ∧ St w0 Z (fs) w'):=by
  refine calls_abs ?_; intro R hR
  unfold weirlaw14_num.f at hp0
  refine calls_of_runs (fn:=Try.f19) (c:=cd19 []) Try.func19 (by kernel_rfl) (al:=[.int .i64 a0]) rfl (n:=3) rfl ?_
  refine sR 9 [.code (cd19 [1,1])] ?_
  refine rR (.int .i64 a0) Try.func19 ?_
  cases Option.some.inj hp0
  exact hR _ _ ⟨rfl,hS0⟩

noncomputable def cd5 (p : List Nat) : Code := sub (bodyOf Try.f5) p
abbrev p5_2:=cd5 [1,0,0]
abbrev p5_16:=cd5 [1,1,1,1,1,1,1,0]
abbrev td151:List Item:=[.code (cd5 [1,1])]
abbrev td152:List Item:=.code (cd5 [1,0,1])::td151
abbrev td153:List Item:=[.code (cd5 [1,1,1,1,1,1,1,1])]
def weirlaw14_ExploreRuns.f (a0 : weirlaw14_Net) (a1 : Int) : Option Bool :=
  (weirlaw14_Net__fine.f a0 >>= (fun t5 => (if (!t5) = true then some (true) else (if (decide ((a0.Next.length : Int) > 2000)) = true then some (true) else (weirlaw14_Net__machine.f a0 >>= (fun (t22,t23,t24,t25,t26,t27) => (explore_Runs.f t22 t23 t24 t25 t26 t27 a1 >>= (fun (t62,t63,t64,t65,t66,t67) => (weirlaw14_reachable.f a0 >>= (fun t81 => (weirlaw14_Book__within.f t65 t66 t67 t64 t81 >>= (fun (t89,t90) => (weirlaw14_Net__machine.f a0 >>= (fun (t105,t106,t107,t108,t109,t110) => (weirref14_Runs.f t105 t106 t107 t108 t109 t110 (bmin a1 70000) >>= (fun (t145,t146,t147,t148,t149,t150) => (if t89 = true then (if (t62 == t145) = true then (weirlaw14_num.f t63 >>= (fun t186 => (if (t186 == t146) = true then some (true) else some (false)))) else some (false)) else some (false))))))))))))))))))
theorem weirlaw14_ExploreRuns.ok (a0 : weirlaw14_Net) (a1 : Int) (y0 : Option Addr) (y1 : Nat) (y2 : Option Addr) (y3 : Nat) (y4 : Option Addr) (y5 : Nat) (hS0 : St w0 Z (fs) w) (y6 : SlZ (repL (flat (encI .i64)) 1) 1 Z y0 y1 a0.Next) (y7 : SlZ (flat encB) 1 Z y2 y3 a0.End) (y8 : SlZ (flat (encI .i64)) 1 Z y4 y5 a0.Value) {q0 : Bool} (hp0 : weirlaw14_ExploreRuns.f a0 a1 = some q0) :
    Calls Try.prog 5 #[.agg #[.slice y0 a0.Next.length y1,.slice y2 a0.End.length y3,.slice y4 a0.Value.length y5,.int .i64 a0.Start],.int .i64 a1] w (fun e w' => e = .returned (.bool q0) ∧ St w0 Z (fs) w'):=by
  refine calls_abs ?_; intro R hR
  unfold weirlaw14_ExploreRuns.f at hp0
  refine calls_of_runs (fn:=Try.f5) (c:=cd5 []) Try.func5 (by kernel_rfl) (al:=[.agg #[.slice y0 a0.Next.length y1,.slice y2 a0.End.length y3,.slice y4 a0.Value.length y5,.int .i64 a0.Start],.int .i64 a1]) rfl (n:=60) rfl ?_
  refine sR 2 [.inRegion (opsOf (cd5 [0])) [0,1],.code (cd5 [1])] ?_
  refine r_box (c:=(cd5 [0])) (i:=0) (d:=(some 2)) (ty:=0) (x:=(.tmp 0)) (v:=.agg #[.slice y0 a0.Next.length y1,.slice y2 a0.End.length y3,.slice y4 a0.Value.length y5,.int .i64 a0.Start]) (t:=26) (cs:=[.slice y0 a0.Next.length y1,.slice y2 a0.End.length y3,.slice y4 a0.Value.length y5,.int .i64 a0.Start]) hS0 (by kernel_rfl) (by kernel_rfl) (by kernel_rfl) (by kernel_rfl) ?_
  intro b1 w2 hS3
  refine sR 5 (iR p5_2 0 9::td152) ?_
  refine rLa 26 (.tmp 2) (hS3.blk 0 rfl) ?_
  obtain ⟨t5,hr6,hp7⟩:=bind_some' hp0
  refine rC (weirlaw14_Net__fine.ok hr6 hS3 y6 y7 y8) ?_
  rintro _ w8 ⟨rfl,hS9⟩
  refine ⟨_,rfl,?_⟩
  refine sI 1 (iR p5_2 3 6::td152) 16 hp7 (fun hp12 => ?_) fun hp15 => ?_
  ·refine sR 12 (.code (cd5 [1,0,1,0,1])::td151) ?_
   have hS13:=hS9.drop
   refine rR (.bool true) Try.func5 ?_
   cases Option.some.inj hp12
   exact hR _ _ ⟨rfl,hS13⟩
  refine sR 2 (iR p5_2 5 4::td152) ?_
  refine rL1 22 (.tmp 18) 0 (hS9.blk 0 rfl) ?_
  refine sI 2 (.inRegion (opsOf p5_2) [8]::td152) 21 hp15 (fun hp18 => ?_) fun hp21 => ?_
  ·refine sR 7 (.code (cd5 [1,0,1,0,1])::td151) ?_
   have hS19:=hS9.drop
   refine rR (.bool true) Try.func5 ?_
   cases Option.some.inj hp18
   exact hR _ _ ⟨rfl,hS19⟩
  refine sR 6 [iR (cd5 [1,1,0]) 0 8,.code (cd5 [1,1,1])] ?_
  refine rLa 26 (.tmp 2) (hS9.blk 0 rfl) ?_
  obtain ⟨⟨t22,t23,t24,t25,t26,t27⟩,hr40,hp41⟩:=bind_some' hp21
  try dsimp only at hp41
  refine rC (weirlaw14_Net__machine.ok hr40 hS9 y6 y7 y8) ?_
  rintro _ w51 ⟨Q28,Q29,Q30,Q31,Q32,Q33,Q34,Q35,Q36,Q37,Q38,Q39,rfl,hS52,hs53,hs54,hs55⟩
  refine ⟨_,rfl,?_⟩
  refine sR 3 [.inRegion (opsOf (cd5 [1,1,0])) [5,6,7],.code (cd5 [1,1,1])] ?_
  refine rA 32 (.agg #[.string (⟨#[]⟩ : ByteArray),.nilFunc,.nilFunc,.nilFunc]) [.string (⟨#[]⟩ : ByteArray),.nilFunc,.nilFunc,.nilFunc] hS52 ?_
  intro b56 w57 hS58
  refine rS 32 (.tmp 5) (.tmp 26) 0 (.agg #[.string t22,.func (.func 28) #[] #[.pointer (some ⟨Q28,0,none⟩),.pointer (some ⟨Q33,0,none⟩)],.func (.func 31) #[] #[.pointer (some ⟨Q33,0,none⟩),.pointer (some ⟨Q28,0,none⟩)],.func (.func 32) #[] #[.pointer (some ⟨Q28,0,none⟩),.pointer (some ⟨Q33,0,none⟩)]]) [.string t22,.func (.func 28) #[] #[.pointer (some ⟨Q28,0,none⟩),.pointer (some ⟨Q33,0,none⟩)],.func (.func 31) #[] #[.pointer (some ⟨Q33,0,none⟩),.pointer (some ⟨Q28,0,none⟩)],.func (.func 32) #[] #[.pointer (some ⟨Q28,0,none⟩),.pointer (some ⟨Q33,0,none⟩)]] [.string t22,.func (.func 28) #[] #[.pointer (some ⟨Q28,0,none⟩),.pointer (some ⟨Q33,0,none⟩)],.func (.func 31) #[] #[.pointer (some ⟨Q33,0,none⟩),.pointer (some ⟨Q28,0,none⟩)],.func (.func 32) #[] #[.pointer (some ⟨Q28,0,none⟩),.pointer (some ⟨Q33,0,none⟩)]] hS58 ?_
  intro w60 hS61
  refine sR 4 [iR (cd5 [1,1,1,0]) 0 8,.code (cd5 [1,1,1,1])] ?_
  refine rLa 32 (.tmp 5) (hS61.blk 0 rfl) ?_
  refine sR 1 [iR (cd5 [1,1,1,0]) 2 6,.code (cd5 [1,1,1,1])] ?_
  obtain ⟨⟨t62,t63,t64,t65,t66,t67⟩,hr68,hp69⟩:=bind_some' hp41
  try dsimp only at hp69
  have hS73:=hS61.pick6
  have hS74:=hS73.pick6
  have hS75:=hS74.pick6
  have hS76:=hS75.pick6
  have hS77:=hS76.pick6
  have hS78:=hS77.pick6
  refine rC (explore_Runs.ok hr68 hS78 hs53 hs54 hs55) ?_
  rintro _ w79 ⟨rfl,hS80⟩
  refine ⟨_,rfl,?_⟩
  refine sR 9 [iR (cd5 [1,1,1,1,0]) 1 4,.code (cd5 [1,1,1,1,1])] ?_
  refine rLa 26 (.tmp 2) (hS80.blk 7 rfl) ?_
  obtain ⟨t81,hr84,hp85⟩:=bind_some' hp69
  refine rC (weirlaw14_reachable.ok hr84 hS80 y6 y7 y8) ?_
  rintro _ w87 ⟨Q82,Q83,rfl,hS88⟩
  refine ⟨_,rfl,?_⟩
  obtain ⟨⟨t89,t90⟩,hr91,hp92⟩:=bind_some' hp85
  try dsimp only at hp92
  obtain ⟨Z93,hz94,hS95,hs96,hb97⟩:=hS88.lendrow len_encS (by omega)
  have hS98:=hS95.pick4
  have hS99:=hS98.pick4
  have hS100:=hS99.pick4
  have hS101:=hS100.pick4
  refine rC (weirlaw14_Book__within.ok hr91 hS101 hs96) ?_
  rintro _ w102 ⟨rfl,hS103⟩
  refine ⟨_,rfl,?_⟩
  have hS104:=hb97 _ _ hS103
  refine sR 4 [iR (cd5 [1,1,1,1,1,0]) 0 8,.code (cd5 [1,1,1,1,1,1])] ?_
  refine rLa 26 (.tmp 2) (hS104.blk 8 rfl) ?_
  obtain ⟨⟨t105,t106,t107,t108,t109,t110⟩,hr123,hp124⟩:=bind_some' hp92
  try dsimp only at hp124
  refine rC (weirlaw14_Net__machine.ok hr123 hS104 y6 y7 y8) ?_
  rintro _ w134 ⟨Q111,Q112,Q113,Q114,Q115,Q116,Q117,Q118,Q119,Q120,Q121,Q122,rfl,hS135,hs136,hs137,hs138⟩
  refine ⟨_,rfl,?_⟩
  refine sR 3 [.inRegion (opsOf (cd5 [1,1,1,1,1,0])) [5,6,7],.code (cd5 [1,1,1,1,1,1])] ?_
  refine rA 32 (.agg #[.string (⟨#[]⟩ : ByteArray),.nilFunc,.nilFunc,.nilFunc]) [.string (⟨#[]⟩ : ByteArray),.nilFunc,.nilFunc,.nilFunc] hS135 ?_
  intro b139 w140 hS141
  refine rS 32 (.tmp 10) (.tmp 41) 0 (.agg #[.string t105,.func (.func 28) #[] #[.pointer (some ⟨Q111,0,none⟩),.pointer (some ⟨Q116,0,none⟩)],.func (.func 31) #[] #[.pointer (some ⟨Q116,0,none⟩),.pointer (some ⟨Q111,0,none⟩)],.func (.func 32) #[] #[.pointer (some ⟨Q111,0,none⟩),.pointer (some ⟨Q116,0,none⟩)]]) [.string t105,.func (.func 28) #[] #[.pointer (some ⟨Q111,0,none⟩),.pointer (some ⟨Q116,0,none⟩)],.func (.func 31) #[] #[.pointer (some ⟨Q116,0,none⟩),.pointer (some ⟨Q111,0,none⟩)],.func (.func 32) #[] #[.pointer (some ⟨Q111,0,none⟩),.pointer (some ⟨Q116,0,none⟩)]] [.string t105,.func (.func 28) #[] #[.pointer (some ⟨Q111,0,none⟩),.pointer (some ⟨Q116,0,none⟩)],.func (.func 31) #[] #[.pointer (some ⟨Q116,0,none⟩),.pointer (some ⟨Q111,0,none⟩)],.func (.func 32) #[] #[.pointer (some ⟨Q111,0,none⟩),.pointer (some ⟨Q116,0,none⟩)]] hS141 ?_
  intro w143 hS144
  refine sR 4 [iR (cd5 [1,1,1,1,1,1,0]) 0 9,.code (cd5 [1,1,1,1,1,1,1])] ?_
  refine rLa 32 (.tmp 10) (hS144.blk 0 rfl) ?_
  refine sR 2 [iR (cd5 [1,1,1,1,1,1,0]) 3 6,.code (cd5 [1,1,1,1,1,1,1])] ?_
  obtain ⟨⟨t145,t146,t147,t148,t149,t150⟩,hr151,hp152⟩:=bind_some' hp124
  try dsimp only at hp152
  have hS156:=hS144.pick6
  have hS157:=hS156.pick6
  have hS158:=hS157.pick6
  have hS159:=hS158.pick6
  have hS160:=hS159.pick6
  have hS161:=hS160.pick6
  refine rC (weirref14_Runs.ok hr151 hS161 hs136 hs137 hs138) ?_
  rintro _ w162 ⟨rfl,hS163⟩
  refine ⟨_,rfl,?_⟩
  refine sR 10 (iR p5_16 2 11::td153) ?_
  cases t89
  ·have hp164:=ite_f hp152 rfl
   refine sR 12 td153 ?_
   have hS165:=hS163.drop
   have hS166:=hS165.drop
   have hS167:=hS166.drop
   have hS168:=hS167.drop
   have hS169:=hS168.drop
   have hS170:=hS169.drop
   have hS171:=hS170.drop
   have hS172:=hS171.drop
   have hS173:=hS172.drop
   have hS174:=hS173.drop
   have hS175:=hS174.drop
   have hS176:=hS175.drop
   have hS177:=hS176.drop
   have hS178:=hS177.drop
   have hS179:=hS178.drop
   have hS180:=hS179.drop
   refine rR (.bool false) Try.func5 ?_
   cases Option.some.inj hp164
   exact hR _ _ ⟨rfl,hS180⟩
  have hp182:=ite_t hp152 rfl
  refine sI 3 (iR p5_16 5 8::td153) 54 hp182 (fun hp185 => ?_) fun hp229 => ?_
  ·refine sR 3 (iR p5_16 8 5::td153) ?_
   obtain ⟨t186,hr187,hp188⟩:=bind_some' hp185
   refine rC (weirlaw14_num.ok hr187 hS163) ?_
   rintro _ w189 ⟨rfl,hS190⟩
   refine ⟨_,rfl,?_⟩
   refine sI 2 (.inRegion (opsOf p5_16) [11,12]::td153) 60 hp188 (fun hp193 => ?_) fun hp211 => ?_
   ·refine sR 3 td153 ?_
    have hS194:=hS190.drop
    have hS195:=hS194.drop
    have hS196:=hS195.drop
    have hS197:=hS196.drop
    have hS198:=hS197.drop
    have hS199:=hS198.drop
    have hS200:=hS199.drop
    have hS201:=hS200.drop
    have hS202:=hS201.drop
    have hS203:=hS202.drop
    have hS204:=hS203.drop
    have hS205:=hS204.drop
    have hS206:=hS205.drop
    have hS207:=hS206.drop
    have hS208:=hS207.drop
    have hS209:=hS208.drop
    refine rR (.bool true) Try.func5 ?_
    cases Option.some.inj hp193
    exact hR _ _ ⟨rfl,hS209⟩
   refine sR 3 td153 ?_
   have hS212:=hS190.drop
   have hS213:=hS212.drop
   have hS214:=hS213.drop
   have hS215:=hS214.drop
   have hS216:=hS215.drop
   have hS217:=hS216.drop
   have hS218:=hS217.drop
   have hS219:=hS218.drop
   have hS220:=hS219.drop
   have hS221:=hS220.drop
   have hS222:=hS221.drop
   have hS223:=hS222.drop
   have hS224:=hS223.drop
   have hS225:=hS224.drop
   have hS226:=hS225.drop
   have hS227:=hS226.drop
   refine rR (.bool false) Try.func5 ?_
   cases Option.some.inj hp211
   exact hR _ _ ⟨rfl,hS227⟩
  refine sR 9 td153 ?_
  have hS230:=hS163.drop
  have hS231:=hS230.drop
  have hS232:=hS231.drop
  have hS233:=hS232.drop
  have hS234:=hS233.drop
  have hS235:=hS234.drop
  have hS236:=hS235.drop
  have hS237:=hS236.drop
  have hS238:=hS237.drop
  have hS239:=hS238.drop
  have hS240:=hS239.drop
  have hS241:=hS240.drop
  have hS242:=hS241.drop
  have hS243:=hS242.drop
  have hS244:=hS243.drop
  have hS245:=hS244.drop
  refine rR (.bool false) Try.func5 ?_
  cases Option.some.inj hp229
  exact hR _ _ ⟨rfl,hS245⟩

end
end Go.Proofs.Ytfiamlhhhkiiaaa.K
