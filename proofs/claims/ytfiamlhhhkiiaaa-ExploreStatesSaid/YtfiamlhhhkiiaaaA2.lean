/- The walk, part 2: each Go function as a plain Lean function, and that its call answers as that function says. No condition. -/
import Derived.Test.YtfiamlhhhkiiaaaE
import Derived.Test.YtfiamlhhhkiiaaaNG
import Derived.Test.YtfiamlhhhkiiaaaNP
import Derived.Test.YtfiamlhhhkiiaaaNM
import Derived.Test.YtfiamlhhhkiiaaaNQ
import Derived.Test.YtfiamlhhhkiiaaaNI
import Derived.Test.YtfiamlhhhkiiaaaNX
import Derived.Test.YtfiamlhhhkiiaaaNY
import Derived.Test.YtfiamlhhhkiiaaaNC
import Derived.Test.YtfiamlhhhkiiaaaNF
import Derived.Test.YtfiamlhhhkiiaaaNW
import Derived.Test.YtfiamlhhhkiiaaaNK
import Derived.Test.YtfiamlhhhkiiaaaND
import Derived.Test.YtfiamlhhhkiiaaaA1
set_option linter.unusedVariables false
set_option linter.unusedSimpArgs false
set_option maxRecDepth 100000
set_option synthInstance.maxSize 100000
set_option synthInstance.maxHeartbeats 4000000
namespace Go.Proofs.Ytfiamlhhhkiiaaa.K
open Go Go.RowKit
noncomputable section
set_option maxHeartbeats 16000000
variable {w0 : World} {Z : Zm} {fs : List XObj} {w : World}
noncomputable def cd10 (p : List Nat) : Code := sub (bodyOf Try.f10) p
abbrev p10_4:=cd10 [1,1,0]
abbrev p10_5:=cd10 [1,1,1]
abbrev p10_10:=cd10 [1,1,1,0,1,0,0,0,0]
abbrev p10_11:=cd10 [1,1,1,0,1,0,0,0,1]
abbrev p10_13:=cd10 [1,1,1,0,1,0,0,1,0,0,0]
abbrev p10_16:=cd10 [1,1,1,0,1,0,0,1,0,0,1,1,0,0]
abbrev p10_20:=cd10 [1,1,1,0,1,0,0,1,0,0,1,1,0,0,1,0,0,0]
abbrev p10_26:=cd10 [1,1,1,0,1,0,0,1,0,0,1,1,0,0,1,0,0,1,1,0]
abbrev p10_30:=cd10 [1,1,1,0,1,0,0,1,0,0,1,1,0,0,1,0,0,1,1,1,1,0]
abbrev td29:List Item:=[.code (cd10 [1,1,1,1])]
abbrev td30:List Item:=.inBlock 0::td29
abbrev td31:List Item:=.inLoop (cd10 [1,1,1,0,1,0,0])::td30
abbrev td32:List Item:=.code (cd10 [1,1,1,0,1,0,0])::td31
abbrev td33:List Item:=.code (cd10 [1,1,1,0,1,0,0,1,1])::td31
abbrev td34:List Item:=.inBlock 1::td33
abbrev td35:List Item:=.inBlock 2::td34
abbrev td36:List Item:=.inLoop p10_16::td35
abbrev td37:List Item:=.code p10_16::td36
abbrev td38:List Item:=.code (cd10 [1,1,1,0,1,0,0,1,0,0,1,1,0,0,1,1])::td36
abbrev td39:List Item:=.inBlock 3::td38
def weirref14_Lay.l1 (y43 : ByteArray) (a0_1c1v : weirlaw14_Net) (a1 t138 : Int) (t194 : List api_Pick) (t196 : List (ByteArray × Int)) (t255 : Int) (t256 : Bool) (t257 t258 t259 : List (ByteArray × Int)) (t260 : List ByteArray) (t264 : List Int) (t268 : List (List weirref14_Move)) (t273 : List Bool) (t277 : List api_Final) (t281 : List Int) (t285 : List api_Pick) (t289 : Bool) : Option (Bool × (List (ByteArray × Int)) × (List (ByteArray × Int)) × (List ByteArray) × (List Int) × (List (List weirref14_Move)) × (List Bool) × (List api_Final) × (List Int) × (List api_Pick) × Bool × (List (ByteArray × Int))) :=
  (if (decide (t255 < (t194.length : Int))) = true then (if 0 ≤ t138 ∧ t138 < (t260.length : Int) then (if 0 ≤ t255 ∧ t255 < (t194.length : Int) then (weirlaw14_Net__machine_2.f (gt t260 t138) (gt t194 t255) a0_1c1v t196 t258 t257 t256 >>= (fun (t326,t327,t328,t329) => (if (!t327) = true then (weirref14_Lay.l1 y43 a0_1c1v a1 t138 t194 t196 (IntKind.i64.wrap (t255 + 1)) t328 t329 (id t258) (id t259) (id t260) (id t264) (id t268) (id t273) (id t277) (id t281) (id t285) (id t289)) else (if 0 ≤ t138 ∧ t138 < (t264.length : Int) then (if 0 ≤ t255 ∧ t255 < (t194.length : Int) then (weirref14_Graph__put.f t260 t264 t268 t273 t277 t281 t285 t289 t259 y43 t196 t258 t329 t328 a0_1c1v a1 t326 (IntKind.i64.wrap ((gt t264 t138) + 1)) t138 (gt t194 t255) >>= (fun (t421,t422,t423,t424,t425,t426,t427,t428,t429,t430,t431,t432) => (if (decide (t421 ≥ 0)) = true then (if 0 ≤ t138 ∧ t138 < (t424.length : Int) then (if 0 ≤ t255 ∧ t255 < (t194.length : Int) then (if ((gt t424 t138).length + ([(⟨t421,(gt t194 t255)⟩ : weirref14_Move)] : List weirref14_Move).length) * 32 ≤ 140737488355328 then (weirref14_Lay.l1 y43 a0_1c1v a1 t138 t194 t196 (IntKind.i64.wrap (t255 + 1)) t431 t329 t432 t430 t422 t423 (setl t424 t138 ((gt t424 t138) ++ ([(⟨t421,(gt t194 t255)⟩ : weirref14_Move)] : List weirref14_Move))) t425 t426 t427 t428 t429) else none) else none) else none) else (weirref14_Lay.l1 y43 a0_1c1v a1 t138 t194 t196 (IntKind.i64.wrap (t255 + 1)) t431 t329 t432 t430 t422 t423 t424 t425 t426 t427 t428 t429)))) else none) else none)))) else none) else none) else some ((t256,t258,t257,t260,t264,t268,t273,t277,t281,t285,t289,t259)))
 partial_fixpoint
def weirref14_Lay.l0 (y43 : ByteArray) (a0_1c1v : weirlaw14_Net) (a1 t138 : Int) (t139 : Bool) (t140 t141 : List (ByteArray × Int)) (t142 t143 : List (ByteArray × Int)) (t144 : List ByteArray) (t148 : List Int) (t152 : List (List weirref14_Move)) (t157 : List Bool) (t161 : List api_Final) (t165 : List Int) (t169 : List api_Pick) (t173 : Bool) : Option ((List ByteArray) × (List Int) × (List (List weirref14_Move)) × (List Bool) × (List api_Final) × (List Int) × (List api_Pick) × Bool × (List (ByteArray × Int)) × Bool × (List (ByteArray × Int)) × (List (ByteArray × Int)) × (List (ByteArray × Int))) :=
  (if (decide (t138 < (t144.length : Int))) = true then (if 0 ≤ t138 ∧ t138 < (t144.length : Int) then (weirlaw14_Net__machine_1.f (gt t144 t138) t140 t141 t142 t139 a0_1c1v >>= (fun (t194,t195,t196) => (weirref14_Lay.l1 y43 a0_1c1v a1 t138 t194 t196 0 t195 t142 t141 t143 t144 t148 t152 t157 t161 t165 t169 t173 >>= (fun (t216,t217,t218,t219,t223,t227,t232,t236,t240,t244,t248,t249) => (weirref14_Lay.l0 y43 a0_1c1v a1 (IntKind.i64.wrap (t138 + 1)) t216 t196 t217 t218 t249 t219 t223 t227 t232 t236 t240 t244 t248))))) else none) else some ((t144,t148,t152,t157,t161,t165,t169,t173,t143,t139,t140,t141,t142)))
 partial_fixpoint
def weirref14_Lay.f (y43 : ByteArray) (a0_1c0vv_0m a0_1c0vv_1m a0_1c0vv_2m : List (ByteArray × Int)) (a0_1c0vv_3 : Bool) (a0_1c1v : weirlaw14_Net) (a1 : Int) : Option ((List ByteArray) × (List Int) × (List (List weirref14_Move)) × (List Bool) × (List api_Final) × (List Int) × (List api_Pick) × Bool × (List (ByteArray × Int)) × Bool × (List (ByteArray × Int)) × (List (ByteArray × Int)) × (List (ByteArray × Int))) :=
  (weirref14_Graph__put.f ([] : List ByteArray) ([] : List Int) ([] : List (List weirref14_Move)) ([] : List Bool) ([] : List api_Final) ([] : List Int) ([] : List api_Pick) true ([] : List (ByteArray × Int)) y43 a0_1c0vv_0m a0_1c0vv_1m a0_1c0vv_2m a0_1c0vv_3 a0_1c1v a1 y43 0 (-1) (⟨0,0,0⟩ : api_Pick) >>= (fun (t34,t35,t36,t37,t38,t39,t40,t41,t42,t43,t44,t45) => (weirref14_Lay.l0 y43 a0_1c1v a1 0 t44 a0_1c0vv_0m t45 a0_1c0vv_2m t43 t35 t36 t37 t38 t39 t40 t41 t42 >>= (fun (t93,t97,t101,t106,t110,t114,t118,t122,t123,t124,t125,t126,t127) => some ((t93,t97,t101,t106,t110,t114,t118,t122,t123,t124,t125,t126,t127))))))
theorem weirref14_Lay.ok {y43 : ByteArray} {a0_1c0vv_0m a0_1c0vv_1m a0_1c0vv_2m : List (ByteArray × Int)} {a0_1c0vv_3 : Bool} {a0_1c1v : weirlaw14_Net} {a1 : Int} {ba0_1c0 ba0_1c0v : Nat} {ba0_1c0vv_0 ba0_1c0vv_1 : Nat} {ba0_1c0vv_2 ba0_1c1 : Nat} {Aa0_1c1v_0 : Option Addr} {ca0_1c1v_0 : Nat} {Aa0_1c1v_1 : Option Addr} {ca0_1c1v_1 : Nat} {Aa0_1c1v_2 : Option Addr} {ca0_1c1v_2 : Nat} {q0 : List ByteArray} {q1 : List Int} {q2 : List (List weirref14_Move)} {q3 : List Bool} {q4 : List api_Final} {q5 : List Int} {q6 : List api_Pick} {q7 : Bool} {q8 : List (ByteArray × Int)} {q9 : Bool} {q10 q11 q12 : List (ByteArray × Int)} (hp0 : weirref14_Lay.f y43 a0_1c0vv_0m a0_1c0vv_1m a0_1c0vv_2m a0_1c0vv_3 a0_1c1v a1 = some (q0,q1,q2,q3,q4,q5,q6,q7,q8,q9,q10,q11,q12)) (hS0 : St w0 Z (xblk ba0_1c0 33 ([.pointer (some ⟨ba0_1c0v,0,none⟩)])::xblk ba0_1c0v 49 ([.map (some ba0_1c0vv_0),.map (some ba0_1c0vv_1),.map (some ba0_1c0vv_2),.bool a0_1c0vv_3])::xmap ba0_1c0vv_0 (a0_1c0vv_0m.map (kv Value.string (Value.int .i64)))::xmap ba0_1c0vv_1 (a0_1c0vv_1m.map (kv Value.string (Value.int .i64)))::xmap ba0_1c0vv_2 (a0_1c0vv_2m.map (kv Value.string (Value.int .i64)))::xblk ba0_1c1 26 ([.slice Aa0_1c1v_0 a0_1c1v.Next.length ca0_1c1v_0,.slice Aa0_1c1v_1 a0_1c1v.End.length ca0_1c1v_1,.slice Aa0_1c1v_2 a0_1c1v.Value.length ca0_1c1v_2,.int .i64 a0_1c1v.Start])::fs) w) (ha0_1c1v_0 : SlZ (repL (flat (encI .i64)) 1) 1 Z Aa0_1c1v_0 ca0_1c1v_0 a0_1c1v.Next) (ha0_1c1v_1 : SlZ (flat encB) 1 Z Aa0_1c1v_1 ca0_1c1v_1 a0_1c1v.End) (ha0_1c1v_2 : SlZ (flat (encI .i64)) 1 Z Aa0_1c1v_2 ca0_1c1v_2 a0_1c1v.Value) :
    Calls Try.prog 10 #[.agg #[.string y43,.func (.func 28) #[] #[.pointer (some ⟨ba0_1c0,0,none⟩),.pointer (some ⟨ba0_1c1,0,none⟩)],.func (.func 31) #[] #[.pointer (some ⟨ba0_1c1,0,none⟩),.pointer (some ⟨ba0_1c0,0,none⟩)],.func (.func 32) #[] #[.pointer (some ⟨ba0_1c0,0,none⟩),.pointer (some ⟨ba0_1c1,0,none⟩)]],.int .i64 a1] w (fun e w' => ∃ (QA0 : Option Addr) (Qc0 : Nat) (QA2 : Option Addr) (Qc2 : Nat) (QA4 : Option Addr) (Qc4 : Nat) (Qh4 : Nat → Option Addr × Nat) (QA7 : Option Addr) (Qc7 : Nat) (QA9 : Option Addr) (Qc9 : Nat) (QA11 : Option Addr) (Qc11 : Nat) (QA13 : Option Addr) (Qc13 : Nat) (Qb15 : Nat),e = .returned (.agg #[.slice QA0 q0.length Qc0,.slice QA2 q1.length Qc2,.slice QA4 q2.length Qc4,.slice QA7 q3.length Qc7,.slice QA9 q4.length Qc9,.slice QA11 q5.length Qc11,.slice QA13 q6.length Qc13,.bool q7,.map (some Qb15)]) ∧ St w0 Z (xrow QA0 Qc0 9 1 (q0.flatMap encS)::xrow QA2 Qc2 3 1 (q1.flatMap (encI .i64))::xrr QA4 Qc4 93 Qh4 95 4 enc_weirref14_Move q2::xrow QA7 Qc7 4 1 (q3.flatMap encB)::xrow QA9 Qc9 84 49 (q4.flatMap enc_api_Final)::xrow QA11 Qc11 3 1 (q5.flatMap (encI .i64))::xrow QA13 Qc13 88 3 (q6.flatMap enc_api_Pick)::xmap Qb15 (q8.map (kv Value.string (Value.int .i64)))::xblk ba0_1c0 33 ([.pointer (some ⟨ba0_1c0v,0,none⟩)])::xblk ba0_1c0v 49 ([.map (some ba0_1c0vv_0),.map (some ba0_1c0vv_1),.map (some ba0_1c0vv_2),.bool q9])::xmap ba0_1c0vv_0 (q10.map (kv Value.string (Value.int .i64)))::xmap ba0_1c0vv_1 (q11.map (kv Value.string (Value.int .i64)))::xmap ba0_1c0vv_2 (q12.map (kv Value.string (Value.int .i64)))::xblk ba0_1c1 26 ([.slice Aa0_1c1v_0 a0_1c1v.Next.length ca0_1c1v_0,.slice Aa0_1c1v_1 a0_1c1v.End.length ca0_1c1v_1,.slice Aa0_1c1v_2 a0_1c1v.Value.length ca0_1c1v_2,.int .i64 a0_1c1v.Start])::fs) w'):=by
  refine calls_abs ?_; intro R hR
  unfold weirref14_Lay.f at hp0
  refine calls_of_runs (fn:=Try.f10) (c:=cd10 []) Try.func10 (by kernel_rfl) (al:=[.agg #[.string y43,.func (.func 28) #[] #[.pointer (some ⟨ba0_1c0,0,none⟩),.pointer (some ⟨ba0_1c1,0,none⟩)],.func (.func 31) #[] #[.pointer (some ⟨ba0_1c1,0,none⟩),.pointer (some ⟨ba0_1c0,0,none⟩)],.func (.func 32) #[] #[.pointer (some ⟨ba0_1c0,0,none⟩),.pointer (some ⟨ba0_1c1,0,none⟩)]],.int .i64 a1]) rfl (n:=91) rfl ?_
  refine sR 2 [.inRegion (opsOf (cd10 [0])) [0,1],.code (cd10 [1])] ?_
  refine r_box (c:=(cd10 [0])) (i:=0) (d:=(some 2)) (ty:=0) (x:=(.tmp 0)) (v:=.agg #[.string y43,.func (.func 28) #[] #[.pointer (some ⟨ba0_1c0,0,none⟩),.pointer (some ⟨ba0_1c1,0,none⟩)],.func (.func 31) #[] #[.pointer (some ⟨ba0_1c1,0,none⟩),.pointer (some ⟨ba0_1c0,0,none⟩)],.func (.func 32) #[] #[.pointer (some ⟨ba0_1c0,0,none⟩),.pointer (some ⟨ba0_1c1,0,none⟩)]]) (t:=32) (cs:=[.string y43,.func (.func 28) #[] #[.pointer (some ⟨ba0_1c0,0,none⟩),.pointer (some ⟨ba0_1c1,0,none⟩)],.func (.func 31) #[] #[.pointer (some ⟨ba0_1c1,0,none⟩),.pointer (some ⟨ba0_1c0,0,none⟩)],.func (.func 32) #[] #[.pointer (some ⟨ba0_1c0,0,none⟩),.pointer (some ⟨ba0_1c1,0,none⟩)]]) hS0 (by kernel_rfl) (by kernel_rfl) (by kernel_rfl) (by kernel_rfl) ?_
  intro b1 w2 hS3
  refine rA 43 (.agg #[.slice none 0 0,.slice none 0 0,.slice none 0 0,.slice none 0 0,.slice none 0 0,.slice none 0 0,.slice none 0 0,.bool false,.map none]) [.slice none 0 0,.slice none 0 0,.slice none 0 0,.slice none 0 0,.slice none 0 0,.slice none 0 0,.slice none 0 0,.bool false,.map none] hS3 ?_
  intro b5 w6 hS7
  refine sR 3 [iR (cd10 [1,0]) 0 4,.code (cd10 [1,1])] ?_
  refine r_makeMap (c:=(cd10 [1,0])) (i:=0) (d:=(some 12)) (ty:=41) (t:=41) hS7 (by kernel_rfl) (by kernel_rfl) ?_
  intro b9 w10 hS11
  have hS13 : St w0 Z (xmap b9 (([] : List (ByteArray × Int)).map (kv Value.string (Value.int .i64)))::xblk b5 43 ([.slice none 0 0,.slice none 0 0,.slice none 0 0,.slice none 0 0,.slice none 0 0,.slice none 0 0,.slice none 0 0,.bool false,.map none])::xblk b1 32 ([.string y43,.func (.func 28) #[] #[.pointer (some ⟨ba0_1c0,0,none⟩),.pointer (some ⟨ba0_1c1,0,none⟩)],.func (.func 31) #[] #[.pointer (some ⟨ba0_1c1,0,none⟩),.pointer (some ⟨ba0_1c0,0,none⟩)],.func (.func 32) #[] #[.pointer (some ⟨ba0_1c0,0,none⟩),.pointer (some ⟨ba0_1c1,0,none⟩)]])::xblk ba0_1c0 33 ([.pointer (some ⟨ba0_1c0v,0,none⟩)])::xblk ba0_1c0v 49 ([.map (some ba0_1c0vv_0),.map (some ba0_1c0vv_1),.map (some ba0_1c0vv_2),.bool a0_1c0vv_3])::xmap ba0_1c0vv_0 (a0_1c0vv_0m.map (kv Value.string (Value.int .i64)))::xmap ba0_1c0vv_1 (a0_1c0vv_1m.map (kv Value.string (Value.int .i64)))::xmap ba0_1c0vv_2 (a0_1c0vv_2m.map (kv Value.string (Value.int .i64)))::xblk ba0_1c1 26 ([.slice Aa0_1c1v_0 a0_1c1v.Next.length ca0_1c1v_0,.slice Aa0_1c1v_1 a0_1c1v.End.length ca0_1c1v_1,.slice Aa0_1c1v_2 a0_1c1v.Value.length ca0_1c1v_2,.int .i64 a0_1c1v.Start])::fs) w10:=hS11
  refine sR 1 [.inRegion (opsOf (cd10 [1,0])) [2,3],.code (cd10 [1,1])] ?_
  refine rA 43 (.agg #[.slice none 0 0,.slice none 0 0,.slice none 0 0,.slice none 0 0,.slice none 0 0,.slice none 0 0,.slice none 0 0,.bool false,.map none]) [.slice none 0 0,.slice none 0 0,.slice none 0 0,.slice none 0 0,.slice none 0 0,.slice none 0 0,.slice none 0 0,.bool false,.map none] hS13 ?_
  intro b14 w15 hS16
  refine rS 43 (.tmp 5) (.tmp 13) 0 (.agg #[.slice none 0 0,.slice none 0 0,.slice none 0 0,.slice none 0 0,.slice none 0 0,.slice none 0 0,.slice none 0 0,.bool true,.map (some b9)]) [.slice none 0 0,.slice none 0 0,.slice none 0 0,.slice none 0 0,.slice none 0 0,.slice none 0 0,.slice none 0 0,.bool true,.map (some b9)] [.slice none 0 0,.slice none 0 0,.slice none 0 0,.slice none 0 0,.slice none 0 0,.slice none 0 0,.slice none 0 0,.bool true,.map (some b9)] hS16 ?_
  intro w18 hS19
  refine sR 3 [iR p10_4 0 6,.code p10_5] ?_
  refine rLa 32 (.tmp 2) (hS19.blk 3 rfl) ?_
  refine sR 2 [.inRegion (opsOf p10_4) [3,4,5],.code p10_5] ?_
  refine rL1 9 (.tmp 16) 0 (hS19.blk 3 rfl) ?_
  refine sR 1 [.inRegion (opsOf p10_4) [5],.code p10_5] ?_
  have hS21:=hS19.nilrow none 9 1
  have hS23:=hS21.nilrow none 3 1
  have hS25:=hS23.rrNone 93 95 4 enc_weirref14_Move
  have hS27:=hS25.nilrow none 4 1
  have hS29:=hS27.nilrow none 84 49
  have hS31:=hS29.nilrow none 3 1
  have hS33:=hS31.nilrow none 88 3
  obtain ⟨⟨t34,t35,t36,t37,t38,t39,t40,t41,t42,t43,t44,t45⟩,hr61,hp62⟩:=bind_some' hp0
  try dsimp only at hp62
  have hS73:=hS33.pick16
  have hS74:=hS73.pick16
  have hS75:=hS74.pick16
  have hS76:=hS75.pick16
  have hS77:=hS76.pick16
  have hS78:=hS77.pick16
  have hS79:=hS78.pick14
  have hS80:=hS79.pick7
  have hS81:=hS80.pick8
  have hS82:=hS81.pick9
  have hS83:=hS82.pick10
  have hS84:=hS83.pick11
  have hS85:=hS84.pick12
  have hS86:=hS85.pick13
  have hS87:=hS86.pick14
  refine rC (weirref14_Graph__put.ok hr61 hS87 ha0_1c1v_0 ha0_1c1v_1 ha0_1c1v_2) ?_
  rintro _ w88 ⟨Q46,Q47,Q48,Q49,Q50,Q51,Q52,Q53,Q54,Q55,Q56,Q57,Q58,Q59,Q60,rfl,hS89⟩
  refine ⟨_,rfl,?_⟩
  refine sR 8 td32 ?_
  obtain ⟨v90,hv91,hp92⟩:=bind_some' hp62
  have J130 : ∀ (t93 : List ByteArray) (t97 : List Int) (t101 : List (List weirref14_Move)) (t106 : List Bool) (t110 : List api_Final) (t114 : List Int) (t118 : List api_Pick) (t122 : Bool) (t123 : List (ByteArray × Int)) (t124 : Bool) (t125 t126 t127 : List (ByteArray × Int)) (he132 : (t93,t97,t101,t106,t110,t114,t118,t122,t123,t124,t125,t126,t127) = v90) (l131 : List Value) (A94 : Option Addr) (c95 : Nat) (A98 : Option Addr) (c99 : Nat) (A102 : Option Addr) (c103 : Nat) (h105 : Nat → Option Addr × Nat) (A107 : Option Addr) (c108 : Nat) (A111 : Option Addr) (c112 : Nat) (A115 : Option Addr) (c116 : Nat) (A119 : Option Addr) (c120 : Nat) (w128 : World) (hS129 : St w0 Z (xblk b5 43 ([.slice none 0 0,.slice none 0 0,.slice none 0 0,.slice none 0 0,.slice none 0 0,.slice none 0 0,.slice none 0 0,.bool false,.map none])::xblk b14 43 ([.slice A94 t93.length c95,.slice A98 t97.length c99,.slice A102 t101.length c103,.slice A107 t106.length c108,.slice A111 t110.length c112,.slice A115 t114.length c116,.slice A119 t118.length c120,.bool t122,.map (some b9)])::xrow A94 c95 9 1 (t93.flatMap encS)::xrow A98 c99 3 1 (t97.flatMap (encI .i64))::xrr A102 c103 93 h105 95 4 enc_weirref14_Move t101::xrow A107 c108 4 1 (t106.flatMap encB)::xrow A111 c112 84 49 (t110.flatMap enc_api_Final)::xrow A115 c116 3 1 (t114.flatMap (encI .i64))::xrow A119 c120 88 3 (t118.flatMap enc_api_Pick)::xmap b9 (t123.map (kv Value.string (Value.int .i64)))::xblk ba0_1c0 33 ([.pointer (some ⟨ba0_1c0v,0,none⟩)])::xblk ba0_1c0v 49 ([.map (some ba0_1c0vv_0),.map (some ba0_1c0vv_1),.map (some ba0_1c0vv_2),.bool t124])::xmap ba0_1c0vv_0 (t125.map (kv Value.string (Value.int .i64)))::xmap ba0_1c0vv_1 (t126.map (kv Value.string (Value.int .i64)))::xmap ba0_1c0vv_2 (t127.map (kv Value.string (Value.int .i64)))::xblk ba0_1c1 26 ([.slice Aa0_1c1v_0 a0_1c1v.Next.length ca0_1c1v_0,.slice Aa0_1c1v_1 a0_1c1v.End.length ca0_1c1v_1,.slice Aa0_1c1v_2 a0_1c1v.Value.length ca0_1c1v_2,.int .i64 a0_1c1v.Start])::fs) w128),Runs Try.prog (fx 10) td29 (fill (mk 93 [(4,.pointer (some ⟨b5,0,none⟩)),(5,.pointer (some ⟨b14,0,none⟩))]) l131) w128 R:=by
   intro t93 t97 t101 t106 t110 t114 t118 t122 t123 t124 t125 t126 t127 he132 l131 A94 c95 A98 c99 A102 c103 h105 A107 c108 A111 c112 A115 c116 A119 c120 w128 hS129
   subst he132
   try dsimp only at hp92
   refine sR 2 [.inRegion (opsOf (cd10 [1,1,1,1,0])) [0,1],.code (cd10 [1,1,1,1,1])] ?_
   refine rLa 43 (.tmp 5) (hS129.blk 1 rfl) ?_
   refine rS 43 (.tmp 4) (.tmp 92) 0 (.agg #[.slice A94 t93.length c95,.slice A98 t97.length c99,.slice A102 t101.length c103,.slice A107 t106.length c108,.slice A111 t110.length c112,.slice A115 t114.length c116,.slice A119 t118.length c120,.bool t122,.map (some b9)]) [.slice A94 t93.length c95,.slice A98 t97.length c99,.slice A102 t101.length c103,.slice A107 t106.length c108,.slice A111 t110.length c112,.slice A115 t114.length c116,.slice A119 t118.length c120,.bool t122,.map (some b9)] [.slice A94 t93.length c95,.slice A98 t97.length c99,.slice A102 t101.length c103,.slice A107 t106.length c108,.slice A111 t110.length c112,.slice A115 t114.length c116,.slice A119 t118.length c120,.bool t122,.map (some b9)] hS129 ?_
   intro w133 hS134
   refine sR 1 [.code (cd10 [1,1,1,1,1])] ?_
   have hS135:=hS134.drop
   have hS136:=hS135.drop
   refine rRc (.agg #[.slice A94 t93.length c95,.slice A98 t97.length c99,.slice A102 t101.length c103,.slice A107 t106.length c108,.slice A111 t110.length c112,.slice A115 t114.length c116,.slice A119 t118.length c120,.bool t122,.map (some b9)]) (.ca 4 43 (hS134.blk 0 rfl) .nil) Try.func10 ?_
   cases Option.some.inj hp92
   exact hR _ _ ⟨A94,c95,A98,c99,A102,c103,(h105),A107,c108,A111,c112,A115,c116,A119,c120,b9,rfl,hS136⟩
  have L182 : ∀ (t138 : Int) (t139 : Bool) (t140 t141 : List (ByteArray × Int)) (t142 t143 : List (ByteArray × Int)) (t144 : List ByteArray) (t148 : List Int) (t152 : List (List weirref14_Move)) (t157 : List Bool) (t161 : List api_Final) (t165 : List Int) (t169 : List api_Pick) (t173 : Bool) (e177 : ((List ByteArray) × (List Int) × (List (List weirref14_Move)) × (List Bool) × (List api_Final) × (List Int) × (List api_Pick) × Bool × (List (ByteArray × Int)) × Bool × (List (ByteArray × Int)) × (List (ByteArray × Int)) × (List (ByteArray × Int)))),weirref14_Lay.l0 y43 a0_1c1v a1 t138 t139 t140 t141 t142 t143 t144 t148 t152 t157 t161 t165 t169 t173 = some e177 → e177 = v90 → ∀ (l176 : List Value) (A145 : Option Addr) (c146 : Nat) (A149 : Option Addr) (c150 : Nat) (A153 : Option Addr) (c154 : Nat) (h156 : Nat → Option Addr × Nat) (A158 : Option Addr) (c159 : Nat) (A162 : Option Addr) (c163 : Nat) (A166 : Option Addr) (c167 : Nat) (A170 : Option Addr) (c171 : Nat) (w174 : World) (hS175 : St w0 Z (xblk b1 32 ([.string y43,.func (.func 28) #[] #[.pointer (some ⟨ba0_1c0,0,none⟩),.pointer (some ⟨ba0_1c1,0,none⟩)],.func (.func 31) #[] #[.pointer (some ⟨ba0_1c1,0,none⟩),.pointer (some ⟨ba0_1c0,0,none⟩)],.func (.func 32) #[] #[.pointer (some ⟨ba0_1c0,0,none⟩),.pointer (some ⟨ba0_1c1,0,none⟩)]])::xblk ba0_1c0 33 ([.pointer (some ⟨ba0_1c0v,0,none⟩)])::xblk ba0_1c0v 49 ([.map (some ba0_1c0vv_0),.map (some ba0_1c0vv_1),.map (some ba0_1c0vv_2),.bool t139])::xmap ba0_1c0vv_0 (t140.map (kv Value.string (Value.int .i64)))::xmap ba0_1c0vv_1 (t141.map (kv Value.string (Value.int .i64)))::xmap ba0_1c0vv_2 (t142.map (kv Value.string (Value.int .i64)))::xblk ba0_1c1 26 ([.slice Aa0_1c1v_0 a0_1c1v.Next.length ca0_1c1v_0,.slice Aa0_1c1v_1 a0_1c1v.End.length ca0_1c1v_1,.slice Aa0_1c1v_2 a0_1c1v.Value.length ca0_1c1v_2,.int .i64 a0_1c1v.Start])::xblk b5 43 ([.slice none 0 0,.slice none 0 0,.slice none 0 0,.slice none 0 0,.slice none 0 0,.slice none 0 0,.slice none 0 0,.bool false,.map none])::xblk b14 43 ([.slice A145 t144.length c146,.slice A149 t148.length c150,.slice A153 t152.length c154,.slice A158 t157.length c159,.slice A162 t161.length c163,.slice A166 t165.length c167,.slice A170 t169.length c171,.bool t173,.map (some b9)])::xrow A145 c146 9 1 (t144.flatMap encS)::xrow A149 c150 3 1 (t148.flatMap (encI .i64))::xrr A153 c154 93 h156 95 4 enc_weirref14_Move t152::xrow A158 c159 4 1 (t157.flatMap encB)::xrow A162 c163 84 49 (t161.flatMap enc_api_Final)::xrow A166 c167 3 1 (t165.flatMap (encI .i64))::xrow A170 c171 88 3 (t169.flatMap enc_api_Pick)::xmap b9 (t143.map (kv Value.string (Value.int .i64)))::fs) w174),Runs Try.prog (fx 10) td32 (fill (mk 93 [(1,.int .i64 a1),(2,.pointer (some ⟨b1,0,none⟩)),(4,.pointer (some ⟨b5,0,none⟩)),(5,.pointer (some ⟨b14,0,none⟩)),(6,.int .i64 t138)]) l176) w174 R:=by
   refine weirref14_Lay.l0.partial_correctness y43 a0_1c1v a1 (fun t138 t139 t140 t141 t142 t143 t144 t148 t152 t157 t161 t165 t169 t173 e177 => e177 = v90 → ∀ (l176 : List Value) (A145 : Option Addr) (c146 : Nat) (A149 : Option Addr) (c150 : Nat) (A153 : Option Addr) (c154 : Nat) (h156 : Nat → Option Addr × Nat) (A158 : Option Addr) (c159 : Nat) (A162 : Option Addr) (c163 : Nat) (A166 : Option Addr) (c167 : Nat) (A170 : Option Addr) (c171 : Nat) (w174 : World) (hS175 : St w0 Z (xblk b1 32 ([.string y43,.func (.func 28) #[] #[.pointer (some ⟨ba0_1c0,0,none⟩),.pointer (some ⟨ba0_1c1,0,none⟩)],.func (.func 31) #[] #[.pointer (some ⟨ba0_1c1,0,none⟩),.pointer (some ⟨ba0_1c0,0,none⟩)],.func (.func 32) #[] #[.pointer (some ⟨ba0_1c0,0,none⟩),.pointer (some ⟨ba0_1c1,0,none⟩)]])::xblk ba0_1c0 33 ([.pointer (some ⟨ba0_1c0v,0,none⟩)])::xblk ba0_1c0v 49 ([.map (some ba0_1c0vv_0),.map (some ba0_1c0vv_1),.map (some ba0_1c0vv_2),.bool t139])::xmap ba0_1c0vv_0 (t140.map (kv Value.string (Value.int .i64)))::xmap ba0_1c0vv_1 (t141.map (kv Value.string (Value.int .i64)))::xmap ba0_1c0vv_2 (t142.map (kv Value.string (Value.int .i64)))::xblk ba0_1c1 26 ([.slice Aa0_1c1v_0 a0_1c1v.Next.length ca0_1c1v_0,.slice Aa0_1c1v_1 a0_1c1v.End.length ca0_1c1v_1,.slice Aa0_1c1v_2 a0_1c1v.Value.length ca0_1c1v_2,.int .i64 a0_1c1v.Start])::xblk b5 43 ([.slice none 0 0,.slice none 0 0,.slice none 0 0,.slice none 0 0,.slice none 0 0,.slice none 0 0,.slice none 0 0,.bool false,.map none])::xblk b14 43 ([.slice A145 t144.length c146,.slice A149 t148.length c150,.slice A153 t152.length c154,.slice A158 t157.length c159,.slice A162 t161.length c163,.slice A166 t165.length c167,.slice A170 t169.length c171,.bool t173,.map (some b9)])::xrow A145 c146 9 1 (t144.flatMap encS)::xrow A149 c150 3 1 (t148.flatMap (encI .i64))::xrr A153 c154 93 h156 95 4 enc_weirref14_Move t152::xrow A158 c159 4 1 (t157.flatMap encB)::xrow A162 c163 84 49 (t161.flatMap enc_api_Final)::xrow A166 c167 3 1 (t165.flatMap (encI .i64))::xrow A170 c171 88 3 (t169.flatMap enc_api_Pick)::xmap b9 (t143.map (kv Value.string (Value.int .i64)))::fs) w174),Runs Try.prog (fx 10) td32 (fill (mk 93 [(1,.int .i64 a1),(2,.pointer (some ⟨b1,0,none⟩)),(4,.pointer (some ⟨b5,0,none⟩)),(5,.pointer (some ⟨b14,0,none⟩)),(6,.int .i64 t138)]) l176) w174 R) ?_
   intro rec181 ih180 t138 t139 t140 t141 t142 t143 t144 t148 t152 t157 t161 t165 t169 t173 e177 hb179 he178 l176 A145 c146 A149 c150 A153 c154 h156 A158 c159 A162 c163 A166 c167 A170 c171 w174 hS175
   refine sR 5 (.inRegion (opsOf p10_10) [2,3,4]::.code p10_11::.code (cd10 [1,1,1,0,1,0,0,1])::td31) ?_
   refine rL1 36 (.tmp 21) 0 (hS175.blk 8 rfl) ?_
   refine sI 2 (.inRegion (opsOf p10_10) []::.code p10_11::.code (cd10 [1,1,1,0,1,0,0,1])::td31) 24 hb179 (fun hp185 => ?_) fun hp580 => ?_
   ·refine sR 6 (.code p10_13::.code (cd10 [1,1,1,0,1,0,0,1,0,0,1])::td34) ?_
    refine r_drawn3 (C:=St w0 Z (xblk b1 32 ([.string y43,.func (.func 28) #[] #[.pointer (some ⟨ba0_1c0,0,none⟩),.pointer (some ⟨ba0_1c1,0,none⟩)],.func (.func 31) #[] #[.pointer (some ⟨ba0_1c1,0,none⟩),.pointer (some ⟨ba0_1c0,0,none⟩)],.func (.func 32) #[] #[.pointer (some ⟨ba0_1c0,0,none⟩),.pointer (some ⟨ba0_1c1,0,none⟩)]])::xblk ba0_1c0 33 ([.pointer (some ⟨ba0_1c0v,0,none⟩)])::xblk ba0_1c0v 49 ([.map (some ba0_1c0vv_0),.map (some ba0_1c0vv_1),.map (some ba0_1c0vv_2),.bool t139])::xmap ba0_1c0vv_0 (t140.map (kv Value.string (Value.int .i64)))::xmap ba0_1c0vv_1 (t141.map (kv Value.string (Value.int .i64)))::xmap ba0_1c0vv_2 (t142.map (kv Value.string (Value.int .i64)))::xblk ba0_1c1 26 ([.slice Aa0_1c1v_0 a0_1c1v.Next.length ca0_1c1v_0,.slice Aa0_1c1v_1 a0_1c1v.End.length ca0_1c1v_1,.slice Aa0_1c1v_2 a0_1c1v.Value.length ca0_1c1v_2,.int .i64 a0_1c1v.Start])::xblk b5 43 ([.slice none 0 0,.slice none 0 0,.slice none 0 0,.slice none 0 0,.slice none 0 0,.slice none 0 0,.slice none 0 0,.bool false,.map none])::xblk b14 43 ([.slice A145 t144.length c146,.slice A149 t148.length c150,.slice A153 t152.length c154,.slice A158 t157.length c159,.slice A162 t161.length c163,.slice A166 t165.length c167,.slice A170 t169.length c171,.bool t173,.map (some b9)])::xrow A145 c146 9 1 (t144.flatMap encS)::xrow A149 c150 3 1 (t148.flatMap (encI .i64))::xrr A153 c154 93 h156 95 4 enc_weirref14_Move t152::xrow A158 c159 4 1 (t157.flatMap encB)::xrow A162 c163 84 49 (t161.flatMap enc_api_Final)::xrow A166 c167 3 1 (t165.flatMap (encI .i64))::xrow A170 c171 88 3 (t169.flatMap enc_api_Pick)::xmap b9 (t143.map (kv Value.string (Value.int .i64)))::fs)) (c:=p10_13) (id:=6) (by kernel_rfl) (by kernel_rfl) 7 (Nat.le_of_ble_eq_true (by kernel_rfl)) (by kernel_rfl) (by kernel_rfl) (by kernel_rfl) (is:=[0,1,2,3,4,5,6]) (rest:=[7,8]) (by kernel_rfl) (by kernel_rfl) hS175.drew ?_
    refine qR 1 (rg 1 6) ?_
    refine qL1 28 (.tmp 27) 1 (fun w hC => (hC.blk 0 rfl)) ?_
    refine qR 1 (rg 3 4) ?_
    refine qL1 36 (.tmp 29) 0 (fun w hC => (hC.blk 8 rfl)) ?_
    refine qR 1 [5,6] ?_
    obtain ⟨g186,hp187⟩:=ite_some hp185
    obtain ⟨b188,p189,hA190,-⟩:=(hS175.row 9 rfl).at_ len_encS (by omega) g186.1 g186.2
    refine q_indexAddr (c:=(hd p10_13 7)) (i:=5) (d:=(some 32)) (ty:=0) (t:=36) (e:=9) (n:=t144.length) (cp:=c146) (sz:=1) (kk:=.i64) (x:=(.tmp 30)) (y:=(.tmp 31)) (b:=b188) (o':=p189) (j:=t138) (by kernel_rfl) (by kernel_rfl) (slv (by kernel_rfl) hA190) (by kernel_rfl) (by kernel_rfl) (by kernel_rfl) g186.1 g186.2 ?_
    refine qL1 9 (.tmp 32) 0 (fun w hC => ((hC.row 9 rfl).at2 hA190 len_encS (by omega) g186.1 g186.2)) ?_
    refine Qs.nil ?_
    intro w192 hS193
    obtain ⟨⟨t194,t195,t196⟩,hr199,hp200⟩:=bind_some' hp187
    try dsimp only at hp200
    have hS205:=hS193.pick6
    have hS206:=hS205.pick6
    have hS207:=hS206.pick6
    have hS208:=hS207.pick6
    have hS209:=hS208.pick6
    have hS210:=hS209.pick6
    refine rC (weirlaw14_Net__machine_1.ok hr199 hS210 ha0_1c1v_0 ha0_1c1v_1 ha0_1c1v_2) ?_
    rintro _ w211 ⟨Q197,Q198,rfl,hS212⟩
    refine ⟨_,rfl,?_⟩
    refine sR 8 td37 ?_
    obtain ⟨v213,hv214,hp215⟩:=bind_some' hp200
    have J252 : ∀ (t216 : Bool) (t217 t218 : List (ByteArray × Int)) (t219 : List ByteArray) (t223 : List Int) (t227 : List (List weirref14_Move)) (t232 : List Bool) (t236 : List api_Final) (t240 : List Int) (t244 : List api_Pick) (t248 : Bool) (t249 : List (ByteArray × Int)) (he254 : (t216,t217,t218,t219,t223,t227,t232,t236,t240,t244,t248,t249) = v213) (l253 : List Value) (A220 : Option Addr) (c221 : Nat) (A224 : Option Addr) (c225 : Nat) (A228 : Option Addr) (c229 : Nat) (h231 : Nat → Option Addr × Nat) (A233 : Option Addr) (c234 : Nat) (A237 : Option Addr) (c238 : Nat) (A241 : Option Addr) (c242 : Nat) (A245 : Option Addr) (c246 : Nat) (w250 : World) (hS251 : St w0 Z (xblk b1 32 ([.string y43,.func (.func 28) #[] #[.pointer (some ⟨ba0_1c0,0,none⟩),.pointer (some ⟨ba0_1c1,0,none⟩)],.func (.func 31) #[] #[.pointer (some ⟨ba0_1c1,0,none⟩),.pointer (some ⟨ba0_1c0,0,none⟩)],.func (.func 32) #[] #[.pointer (some ⟨ba0_1c0,0,none⟩),.pointer (some ⟨ba0_1c1,0,none⟩)]])::xblk ba0_1c0 33 ([.pointer (some ⟨ba0_1c0v,0,none⟩)])::xblk ba0_1c0v 49 ([.map (some ba0_1c0vv_0),.map (some ba0_1c0vv_1),.map (some ba0_1c0vv_2),.bool t216])::xmap ba0_1c0vv_0 (t196.map (kv Value.string (Value.int .i64)))::xmap ba0_1c0vv_1 (t217.map (kv Value.string (Value.int .i64)))::xmap ba0_1c0vv_2 (t218.map (kv Value.string (Value.int .i64)))::xblk ba0_1c1 26 ([.slice Aa0_1c1v_0 a0_1c1v.Next.length ca0_1c1v_0,.slice Aa0_1c1v_1 a0_1c1v.End.length ca0_1c1v_1,.slice Aa0_1c1v_2 a0_1c1v.Value.length ca0_1c1v_2,.int .i64 a0_1c1v.Start])::xblk b5 43 ([.slice none 0 0,.slice none 0 0,.slice none 0 0,.slice none 0 0,.slice none 0 0,.slice none 0 0,.slice none 0 0,.bool false,.map none])::xblk b14 43 ([.slice A220 t219.length c221,.slice A224 t223.length c225,.slice A228 t227.length c229,.slice A233 t232.length c234,.slice A237 t236.length c238,.slice A241 t240.length c242,.slice A245 t244.length c246,.bool t248,.map (some b9)])::xrow A220 c221 9 1 (t219.flatMap encS)::xrow A224 c225 3 1 (t223.flatMap (encI .i64))::xrr A228 c229 93 h231 95 4 enc_weirref14_Move t227::xrow A233 c234 4 1 (t232.flatMap encB)::xrow A237 c238 84 49 (t236.flatMap enc_api_Final)::xrow A241 c242 3 1 (t240.flatMap (encI .i64))::xrow A245 c246 88 3 (t244.flatMap enc_api_Pick)::xmap b9 (t249.map (kv Value.string (Value.int .i64)))::fs) w250),Runs Try.prog (fx 10) td34 (fill (mk 93 [(1,.int .i64 a1),(2,.pointer (some ⟨b1,0,none⟩)),(4,.pointer (some ⟨b5,0,none⟩)),(5,.pointer (some ⟨b14,0,none⟩)),(6,.int .i64 t138)]) l253) w250 R:=by
     intro t216 t217 t218 t219 t223 t227 t232 t236 t240 t244 t248 t249 he254 l253 A220 c221 A224 c225 A228 c229 h231 A233 c234 A237 c238 A241 c242 A245 c246 w250 hS251
     subst he254
     try dsimp only at hp215
     refine sR 6 td31 ?_
     refine sR 1 td32 ?_
     exact rF _ (ih180 (IntKind.i64.wrap (t138 + 1)) t216 t196 t217 t218 t249 t219 t223 t227 t232 t236 t240 t244 t248 _ hp215 he178 _ A220 c221 A224 c225 A228 c229 (h231) A233 c234 A237 c238 A241 c242 A245 c246 _ hS251)
    have L298 : ∀ (t255 : Int) (t256 : Bool) (t257 t258 t259 : List (ByteArray × Int)) (t260 : List ByteArray) (t264 : List Int) (t268 : List (List weirref14_Move)) (t273 : List Bool) (t277 : List api_Final) (t281 : List Int) (t285 : List api_Pick) (t289 : Bool) (e293 : (Bool × (List (ByteArray × Int)) × (List (ByteArray × Int)) × (List ByteArray) × (List Int) × (List (List weirref14_Move)) × (List Bool) × (List api_Final) × (List Int) × (List api_Pick) × Bool × (List (ByteArray × Int)))),weirref14_Lay.l1 y43 a0_1c1v a1 t138 t194 t196 t255 t256 t257 t258 t259 t260 t264 t268 t273 t277 t281 t285 t289 = some e293 → e293 = v213 → ∀ (l292 : List Value) (A261 : Option Addr) (c262 : Nat) (A265 : Option Addr) (c266 : Nat) (A269 : Option Addr) (c270 : Nat) (h272 : Nat → Option Addr × Nat) (A274 : Option Addr) (c275 : Nat) (A278 : Option Addr) (c279 : Nat) (A282 : Option Addr) (c283 : Nat) (A286 : Option Addr) (c287 : Nat) (w290 : World) (hS291 : St w0 Z (xblk b1 32 ([.string y43,.func (.func 28) #[] #[.pointer (some ⟨ba0_1c0,0,none⟩),.pointer (some ⟨ba0_1c1,0,none⟩)],.func (.func 31) #[] #[.pointer (some ⟨ba0_1c1,0,none⟩),.pointer (some ⟨ba0_1c0,0,none⟩)],.func (.func 32) #[] #[.pointer (some ⟨ba0_1c0,0,none⟩),.pointer (some ⟨ba0_1c1,0,none⟩)]])::xblk ba0_1c0 33 ([.pointer (some ⟨ba0_1c0v,0,none⟩)])::xblk ba0_1c0v 49 ([.map (some ba0_1c0vv_0),.map (some ba0_1c0vv_1),.map (some ba0_1c0vv_2),.bool t256])::xmap ba0_1c0vv_0 (t196.map (kv Value.string (Value.int .i64)))::xmap ba0_1c0vv_1 (t258.map (kv Value.string (Value.int .i64)))::xmap ba0_1c0vv_2 (t257.map (kv Value.string (Value.int .i64)))::xblk ba0_1c1 26 ([.slice Aa0_1c1v_0 a0_1c1v.Next.length ca0_1c1v_0,.slice Aa0_1c1v_1 a0_1c1v.End.length ca0_1c1v_1,.slice Aa0_1c1v_2 a0_1c1v.Value.length ca0_1c1v_2,.int .i64 a0_1c1v.Start])::xblk b5 43 ([.slice none 0 0,.slice none 0 0,.slice none 0 0,.slice none 0 0,.slice none 0 0,.slice none 0 0,.slice none 0 0,.bool false,.map none])::xblk b14 43 ([.slice A261 t260.length c262,.slice A265 t264.length c266,.slice A269 t268.length c270,.slice A274 t273.length c275,.slice A278 t277.length c279,.slice A282 t281.length c283,.slice A286 t285.length c287,.bool t289,.map (some b9)])::xrow A261 c262 9 1 (t260.flatMap encS)::xrow A265 c266 3 1 (t264.flatMap (encI .i64))::xrr A269 c270 93 h272 95 4 enc_weirref14_Move t268::xrow A274 c275 4 1 (t273.flatMap encB)::xrow A278 c279 84 49 (t277.flatMap enc_api_Final)::xrow A282 c283 3 1 (t281.flatMap (encI .i64))::xrow A286 c287 88 3 (t285.flatMap enc_api_Pick)::xmap b9 (t259.map (kv Value.string (Value.int .i64)))::xrow Q197 Q198 88 3 (t194.flatMap enc_api_Pick)::fs) w290),Runs Try.prog (fx 10) td37 (fill (mk 93 [(1,.int .i64 a1),(2,.pointer (some ⟨b1,0,none⟩)),(4,.pointer (some ⟨b5,0,none⟩)),(5,.pointer (some ⟨b14,0,none⟩)),(6,.int .i64 t138),(7,.slice Q197 t194.length Q198),(8,.int .i64 t255)]) l292) w290 R:=by
     refine weirref14_Lay.l1.partial_correctness y43 a0_1c1v a1 t138 t194 t196 (fun t255 t256 t257 t258 t259 t260 t264 t268 t273 t277 t281 t285 t289 e293 => e293 = v213 → ∀ (l292 : List Value) (A261 : Option Addr) (c262 : Nat) (A265 : Option Addr) (c266 : Nat) (A269 : Option Addr) (c270 : Nat) (h272 : Nat → Option Addr × Nat) (A274 : Option Addr) (c275 : Nat) (A278 : Option Addr) (c279 : Nat) (A282 : Option Addr) (c283 : Nat) (A286 : Option Addr) (c287 : Nat) (w290 : World) (hS291 : St w0 Z (xblk b1 32 ([.string y43,.func (.func 28) #[] #[.pointer (some ⟨ba0_1c0,0,none⟩),.pointer (some ⟨ba0_1c1,0,none⟩)],.func (.func 31) #[] #[.pointer (some ⟨ba0_1c1,0,none⟩),.pointer (some ⟨ba0_1c0,0,none⟩)],.func (.func 32) #[] #[.pointer (some ⟨ba0_1c0,0,none⟩),.pointer (some ⟨ba0_1c1,0,none⟩)]])::xblk ba0_1c0 33 ([.pointer (some ⟨ba0_1c0v,0,none⟩)])::xblk ba0_1c0v 49 ([.map (some ba0_1c0vv_0),.map (some ba0_1c0vv_1),.map (some ba0_1c0vv_2),.bool t256])::xmap ba0_1c0vv_0 (t196.map (kv Value.string (Value.int .i64)))::xmap ba0_1c0vv_1 (t258.map (kv Value.string (Value.int .i64)))::xmap ba0_1c0vv_2 (t257.map (kv Value.string (Value.int .i64)))::xblk ba0_1c1 26 ([.slice Aa0_1c1v_0 a0_1c1v.Next.length ca0_1c1v_0,.slice Aa0_1c1v_1 a0_1c1v.End.length ca0_1c1v_1,.slice Aa0_1c1v_2 a0_1c1v.Value.length ca0_1c1v_2,.int .i64 a0_1c1v.Start])::xblk b5 43 ([.slice none 0 0,.slice none 0 0,.slice none 0 0,.slice none 0 0,.slice none 0 0,.slice none 0 0,.slice none 0 0,.bool false,.map none])::xblk b14 43 ([.slice A261 t260.length c262,.slice A265 t264.length c266,.slice A269 t268.length c270,.slice A274 t273.length c275,.slice A278 t277.length c279,.slice A282 t281.length c283,.slice A286 t285.length c287,.bool t289,.map (some b9)])::xrow A261 c262 9 1 (t260.flatMap encS)::xrow A265 c266 3 1 (t264.flatMap (encI .i64))::xrr A269 c270 93 h272 95 4 enc_weirref14_Move t268::xrow A274 c275 4 1 (t273.flatMap encB)::xrow A278 c279 84 49 (t277.flatMap enc_api_Final)::xrow A282 c283 3 1 (t281.flatMap (encI .i64))::xrow A286 c287 88 3 (t285.flatMap enc_api_Pick)::xmap b9 (t259.map (kv Value.string (Value.int .i64)))::xrow Q197 Q198 88 3 (t194.flatMap enc_api_Pick)::fs) w290),Runs Try.prog (fx 10) td37 (fill (mk 93 [(1,.int .i64 a1),(2,.pointer (some ⟨b1,0,none⟩)),(4,.pointer (some ⟨b5,0,none⟩)),(5,.pointer (some ⟨b14,0,none⟩)),(6,.int .i64 t138),(7,.slice Q197 t194.length Q198),(8,.int .i64 t255)]) l292) w290 R) ?_
     intro rec297 ih296 t255 t256 t257 t258 t259 t260 t264 t268 t273 t277 t281 t285 t289 e293 hb295 he294 l292 A261 c262 A265 c266 A269 c270 h272 A274 c275 A278 c279 A282 c283 A286 c287 w290 hS291
     refine sI 7 (.inRegion (opsOf (cd10 [1,1,1,0,1,0,0,1,0,0,1,1,0,0,0,0])) []::.code (cd10 [1,1,1,0,1,0,0,1,0,0,1,1,0,0,0,1])::.code (cd10 [1,1,1,0,1,0,0,1,0,0,1,1,0,0,1])::td36) 38 hb295 (fun hp301 => ?_) fun hp560 => ?_
     ·refine sR 6 (.code p10_20::.code (cd10 [1,1,1,0,1,0,0,1,0,0,1,1,0,0,1,0,0,1])::td39) ?_
      have hS302:=hS291.pick17
      have hS303:=hS302.pick10
      have hS304:=hS303.pick10
      have hS305:=hS304.pick9
      have hS306:=hS305.pick9
      have hS307:=hS306.pick9
      have hS308:=hS307.pick9
      have hS309:=hS308.pick9
      have hS310:=hS309.pick9
      have hS311:=hS310.pick9
      generalize hg313 : (xblk b5 43 ([.slice none 0 0,.slice none 0 0,.slice none 0 0,.slice none 0 0,.slice none 0 0,.slice none 0 0,.slice none 0 0,.bool false,.map none])::xrow A265 c266 3 1 (t264.flatMap (encI .i64))::xrr A269 c270 93 h272 95 4 enc_weirref14_Move t268::xrow A274 c275 4 1 (t273.flatMap encB)::xrow A278 c279 84 49 (t277.flatMap enc_api_Final)::xrow A282 c283 3 1 (t281.flatMap (encI .i64))::xrow A286 c287 88 3 (t285.flatMap enc_api_Pick)::xmap b9 (t259.map (kv Value.string (Value.int .i64)))::fs) = gs312 at hS311
      obtain ⟨g314,hp315⟩:=ite_some hp301
      obtain ⟨b316,p317,hA318,-⟩:=(hS311.row 8 rfl).at_ len_encS (by omega) g314.1 g314.2
      obtain ⟨g320,hp321⟩:=ite_some hp315
      obtain ⟨b322,p323,hA324,-⟩:=(hS311.row 9 rfl).at_ len_api_Pick (by omega) g320.1 g320.2
      obtain ⟨⟨t326,t327,t328,t329⟩,hr330,hp331⟩:=bind_some' hp321
      try dsimp only at hp331
      refine r_drawnP (S:=Option Unit) (dn:=(fun (st : Option Unit) k => [st.isSome].getD k true)) (C:=(fun st w' => match st with | none => St w0 Z (xblk b1 32 ([.string y43,.func (.func 28) #[] #[.pointer (some ⟨ba0_1c0,0,none⟩),.pointer (some ⟨ba0_1c1,0,none⟩)],.func (.func 31) #[] #[.pointer (some ⟨ba0_1c1,0,none⟩),.pointer (some ⟨ba0_1c0,0,none⟩)],.func (.func 32) #[] #[.pointer (some ⟨ba0_1c0,0,none⟩),.pointer (some ⟨ba0_1c1,0,none⟩)]])::xblk ba0_1c0 33 ([.pointer (some ⟨ba0_1c0v,0,none⟩)])::xblk ba0_1c0v 49 ([.map (some ba0_1c0vv_0),.map (some ba0_1c0vv_1),.map (some ba0_1c0vv_2),.bool t256])::xmap ba0_1c0vv_0 (t196.map (kv Value.string (Value.int .i64)))::xmap ba0_1c0vv_1 (t258.map (kv Value.string (Value.int .i64)))::xmap ba0_1c0vv_2 (t257.map (kv Value.string (Value.int .i64)))::xblk ba0_1c1 26 ([.slice Aa0_1c1v_0 a0_1c1v.Next.length ca0_1c1v_0,.slice Aa0_1c1v_1 a0_1c1v.End.length ca0_1c1v_1,.slice Aa0_1c1v_2 a0_1c1v.Value.length ca0_1c1v_2,.int .i64 a0_1c1v.Start])::xblk b14 43 ([.slice A261 t260.length c262,.slice A265 t264.length c266,.slice A269 t268.length c270,.slice A274 t273.length c275,.slice A278 t277.length c279,.slice A282 t281.length c283,.slice A286 t285.length c287,.bool t289,.map (some b9)])::xrow A261 c262 9 1 (t260.flatMap encS)::xrow Q197 Q198 88 3 (t194.flatMap enc_api_Pick)::gs312) w' | some x332 => St w0 Z (xblk b1 32 ([.string y43,.func (.func 28) #[] #[.pointer (some ⟨ba0_1c0,0,none⟩),.pointer (some ⟨ba0_1c1,0,none⟩)],.func (.func 31) #[] #[.pointer (some ⟨ba0_1c1,0,none⟩),.pointer (some ⟨ba0_1c0,0,none⟩)],.func (.func 32) #[] #[.pointer (some ⟨ba0_1c0,0,none⟩),.pointer (some ⟨ba0_1c1,0,none⟩)]])::xblk ba0_1c0 33 ([.pointer (some ⟨ba0_1c0v,0,none⟩)])::xblk ba0_1c0v 49 ([.map (some ba0_1c0vv_0),.map (some ba0_1c0vv_1),.map (some ba0_1c0vv_2),.bool t328])::xmap ba0_1c0vv_0 (t196.map (kv Value.string (Value.int .i64)))::xmap ba0_1c0vv_1 (t258.map (kv Value.string (Value.int .i64)))::xmap ba0_1c0vv_2 (t329.map (kv Value.string (Value.int .i64)))::xblk ba0_1c1 26 ([.slice Aa0_1c1v_0 a0_1c1v.Next.length ca0_1c1v_0,.slice Aa0_1c1v_1 a0_1c1v.End.length ca0_1c1v_1,.slice Aa0_1c1v_2 a0_1c1v.Value.length ca0_1c1v_2,.int .i64 a0_1c1v.Start])::xblk b14 43 ([.slice A261 t260.length c262,.slice A265 t264.length c266,.slice A269 t268.length c270,.slice A274 t273.length c275,.slice A278 t277.length c279,.slice A282 t281.length c283,.slice A286 t285.length c287,.bool t289,.map (some b9)])::xrow A261 c262 9 1 (t260.flatMap encS)::xrow Q197 Q198 88 3 (t194.flatMap enc_api_Pick)::gs312) w')) (v:=(fun st => match st with | none => [.pointer (some ⟨b1,2,none⟩),.func (.func 31) #[] #[.pointer (some ⟨ba0_1c1,0,none⟩),.pointer (some ⟨ba0_1c0,0,none⟩)],.pointer (some ⟨b14,0,none⟩),.slice A261 t260.length c262,.int .i64 t138,.pointer (some ⟨b316,p317 + t138.toNat * 1,none⟩),.string (gt t260 t138),.slice Q197 t194.length Q198,.int .i64 t255,.pointer (some ⟨b322,p323 + t255.toNat * 3,none⟩),.agg (enc_api_Pick (gt t194 t255)).toArray,undef,undef,undef,undef,undef,undef] | some x332 => [.pointer (some ⟨b1,2,none⟩),.func (.func 31) #[] #[.pointer (some ⟨ba0_1c1,0,none⟩),.pointer (some ⟨ba0_1c0,0,none⟩)],.pointer (some ⟨b14,0,none⟩),.slice A261 t260.length c262,.int .i64 t138,.pointer (some ⟨b316,p317 + t138.toNat * 1,none⟩),.string (gt t260 t138),.slice Q197 t194.length Q198,.int .i64 t255,.pointer (some ⟨b322,p323 + t255.toNat * 3,none⟩),.agg (enc_api_Pick (gt t194 t255)).toArray,.tuple #[.string t326,.bool t327],.tuple #[.string t326,.bool t327],.string t326,.bool t327,.string t326,.bool t327])) (c:=p10_20) (id:=10) none 0 17 [11] [[],[],[],[],[],[],[],[],[],[],[],[],[0],[0],[0],[0],[0]] [[],[0],[],[],[],[],[0],[],[],[],[0],[],[],[],[],[],[]] [] [true,true,true,true,true,true,true,true,true,true,true,true,true,true,true,true,true] (by kernel_rfl) (by kernel_rfl) (by kernel_rfl) (by kernel_rfl) (by kernel_rfl) (by kernel_rfl) (by kernel_rfl) (by kernel_rfl) (by kernel_rfl) (fun k hk => match k,hk with | 0,_ => rfl | k + 1,hk => absurd hk (by simp)) hS311.drew ?_ (fun k hk => match k,hk with | 0,_ => rfl | k + 1,hk => absurd hk (by simp)) ?_ ?_ ?_
      ·intro i hi st w hC hd
       match i,hi with
       | 0,_ => (show _ = _; kernel_rfl)
       | 1,_ => (show _ = _; kernel_rfl)
       | 2,_ => (show _ = _; kernel_rfl)
       | 3,_ => (show _ = _; kernel_rfl)
       | 4,_ => (show _ = _; kernel_rfl)
       | 5,_ => (show _ = _; kernel_rfl)
       | 6,_ => (show _ = _; kernel_rfl)
       | 7,_ => (show _ = _; kernel_rfl)
       | 8,_ => (show _ = _; kernel_rfl)
       | 9,_ => (show _ = _; kernel_rfl)
       | 10,_ => (show _ = _; kernel_rfl)
       | 11,_ => (show _ = _; kernel_rfl)
       | 12,_ => (show _ = _; kernel_rfl)
       | 13,_ => (show _ = _; kernel_rfl)
       | 14,_ => (show _ = _; kernel_rfl)
       | 15,_ => (show _ = _; kernel_rfl)
       | 16,_ => (show _ = _; kernel_rfl)
       | i + 17,hi => exact absurd hi (by omega)
      ·intro i hi he st w hC hd hu
       match i,hi,he with
       | 0,_,_ =>
        rcases st with _ | x332
        ·dsimp only at hC
         exact dG (.pointer (some ⟨b1,2,none⟩)) hC
        ·dsimp only at hC
         exact dG (.pointer (some ⟨b1,2,none⟩)) hC
       | 1,_,_ =>
        rcases st with _ | x332
        ·dsimp only at hC
         exact ⟨fun _ => does_run (x_load (t:=29) (x:=(.tmp 42)) (p:=⟨b1,2,none⟩) (v:=.func (.func 31) #[] #[.pointer (some ⟨ba0_1c1,0,none⟩),.pointer (some ⟨ba0_1c0,0,none⟩)]) (by kernel_rfl) (loads_at 2 (hC.blk 0 rfl) (by kernel_rfl) (by kernel_rfl)) (by kernel_rfl)) rfl hC,fun h => absurd h (by decide)⟩
        ·exact Bool.noConfusion (hu 0 (by decide))
       | 2,_,_ =>
        rcases st with _ | x332
        ·dsimp only at hC
         exact dG (.pointer (some ⟨b14,0,none⟩)) hC
        ·dsimp only at hC
         exact dG (.pointer (some ⟨b14,0,none⟩)) hC
       | 3,_,_ =>
        rcases st with _ | x332
        ·dsimp only at hC
         exact ⟨fun _ => does_run (x_load (t:=36) (x:=(.tmp 44)) (p:=⟨b14,0,none⟩) (v:=.slice A261 t260.length c262) (by kernel_rfl) (loads_at 0 (hC.blk 7 rfl) (by kernel_rfl) (by kernel_rfl)) (by kernel_rfl)) rfl hC,fun h => absurd h (by decide)⟩
        ·dsimp only at hC
         exact ⟨fun _ => does_run (x_load (t:=36) (x:=(.tmp 44)) (p:=⟨b14,0,none⟩) (v:=.slice A261 t260.length c262) (by kernel_rfl) (loads_at 0 (hC.blk 7 rfl) (by kernel_rfl) (by kernel_rfl)) (by kernel_rfl)) rfl hC,fun h => absurd h (by decide)⟩
       | 4,_,_ =>
        rcases st with _ | x332
        ·dsimp only at hC
         exact dG (.int .i64 t138) hC
        ·dsimp only at hC
         exact dG (.int .i64 t138) hC
       | 5,_,_ =>
        rcases st with _ | x332
        ·dsimp only at hC
         exact ⟨fun _ => does_run (x_indexAddr (t:=36) (e:=9) (x:=(.tmp 45)) (y:=(.tmp 46)) (b:=b316) (o':=p317) (n:=t260.length) (cp:=c262) (sz:=1) (kk:=.i64) (j:=t138) (slv (by kernel_rfl) hA318) (by kernel_rfl) (by kernel_rfl) (by kernel_rfl) g314.1 g314.2 (by kernel_rfl)) rfl hC,fun h => absurd h (by decide)⟩
        ·dsimp only at hC
         exact ⟨fun _ => does_run (x_indexAddr (t:=36) (e:=9) (x:=(.tmp 45)) (y:=(.tmp 46)) (b:=b316) (o':=p317) (n:=t260.length) (cp:=c262) (sz:=1) (kk:=.i64) (j:=t138) (slv (by kernel_rfl) hA318) (by kernel_rfl) (by kernel_rfl) (by kernel_rfl) g314.1 g314.2 (by kernel_rfl)) rfl hC,fun h => absurd h (by decide)⟩
       | 6,_,_ =>
        rcases st with _ | x332
        ·dsimp only at hC
         exact ⟨fun _ => does_run (x_load (t:=9) (x:=(.tmp 47)) (p:=⟨b316,p317 + t138.toNat * 1,none⟩) (v:=.string (gt t260 t138)) (by kernel_rfl) (loads_at 0 ((hC.row 8 rfl).at2 hA318 len_encS (by omega) g314.1 g314.2) (by kernel_rfl) (by kernel_rfl)) (by kernel_rfl)) rfl hC,fun h => absurd h (by decide)⟩
        ·exact Bool.noConfusion (hu 0 (by decide))
       | 7,_,_ =>
        rcases st with _ | x332
        ·dsimp only at hC
         exact dG (.slice Q197 t194.length Q198) hC
        ·dsimp only at hC
         exact dG (.slice Q197 t194.length Q198) hC
       | 8,_,_ =>
        rcases st with _ | x332
        ·dsimp only at hC
         exact dG (.int .i64 t255) hC
        ·dsimp only at hC
         exact dG (.int .i64 t255) hC
       | 9,_,_ =>
        rcases st with _ | x332
        ·dsimp only at hC
         exact ⟨fun _ => does_run (x_indexAddr (t:=40) (e:=88) (x:=(.tmp 49)) (y:=(.tmp 50)) (b:=b322) (o':=p323) (n:=t194.length) (cp:=Q198) (sz:=3) (kk:=.i64) (j:=t255) (slv (by kernel_rfl) hA324) (by kernel_rfl) (by kernel_rfl) (by kernel_rfl) g320.1 g320.2 (by kernel_rfl)) rfl hC,fun h => absurd h (by decide)⟩
        ·dsimp only at hC
         exact ⟨fun _ => does_run (x_indexAddr (t:=40) (e:=88) (x:=(.tmp 49)) (y:=(.tmp 50)) (b:=b322) (o':=p323) (n:=t194.length) (cp:=Q198) (sz:=3) (kk:=.i64) (j:=t255) (slv (by kernel_rfl) hA324) (by kernel_rfl) (by kernel_rfl) (by kernel_rfl) g320.1 g320.2 (by kernel_rfl)) rfl hC,fun h => absurd h (by decide)⟩
       | 10,_,_ =>
        rcases st with _ | x332
        ·dsimp only at hC
         exact ⟨fun _ => does_run (x_load (t:=88) (x:=(.tmp 51)) (p:=⟨b322,p323 + t255.toNat * 3,none⟩) (v:=.agg (enc_api_Pick (gt t194 t255)).toArray) (by kernel_rfl) (loads_agg ((hC.row 9 rfl).at2 hA324 len_api_Pick (by omega) g320.1 g320.2) (by kernel_rfl) (by kernel_rfl)) (by kernel_rfl)) rfl hC,fun h => absurd h (by decide)⟩
        ·exact Bool.noConfusion (hu 0 (by decide))
       | 11,_,he => exact absurd he (by decide)
       | 12,_,_ =>
        rcases st with _ | x332
        ·exact Bool.noConfusion (hd 0 (by decide))
        ·dsimp only at hC
         exact dG (.tuple #[.string t326,.bool t327]) hC
       | 13,_,_ =>
        rcases st with _ | x332
        ·exact Bool.noConfusion (hd 0 (by decide))
        ·dsimp only at hC
         exact dG (.string t326) hC
       | 14,_,_ =>
        rcases st with _ | x332
        ·exact Bool.noConfusion (hd 0 (by decide))
        ·dsimp only at hC
         exact dG (.bool t327) hC
       | 15,_,_ =>
        rcases st with _ | x332
        ·exact Bool.noConfusion (hd 0 (by decide))
        ·dsimp only at hC
         exact dG (.string t326) hC
       | 16,_,_ =>
        rcases st with _ | x332
        ·exact Bool.noConfusion (hd 0 (by decide))
        ·dsimp only at hC
         exact dG (.bool t327) hC
       | i + 17,hi,_ => exact absurd hi (by omega)
      ·intro k hk st w hC hr hm
       match k,hk with
       | 0,_ =>
        rcases st with _ | x332
        ·dsimp only at hC
         have hS365:=hC.pick5
         have hS366:=hS365.pick5
         have hS367:=hS366.pick5
         have hS368:=hS367.pick5
         have hS369:=hS368.pick5
         have hS370:=hS369.pick6
         refine does_call (g:=31) (args:=#[.string (gt t260 t138),.agg (enc_api_Pick (gt t194 t255)).toArray,.pointer (some ⟨ba0_1c1,0,none⟩),.pointer (some ⟨ba0_1c0,0,none⟩)]) (by kernel_rfl) (weirlaw14_Net__machine_2.ok hr330 hS370 ha0_1c1v_0 ha0_1c1v_1 ha0_1c1v_2) ?_
         rintro e w2 ⟨rfl,h2⟩
         refine ⟨_,rfl,?_⟩
         have hS371:=h2.pick9
         have hS372:=hS371.pick9
         have hS373:=hS372.pick9
         have hS374:=hS373.pick3
         have hS375:=hS374.pick8
         have hS376:=hS375.pick8
         have hS377:=hS376.pick8
         have hS378:=hS377.pick8
         have hS379:=hS378.pick8
         have hS380:=hS379.pick9
         have h2:=hS380
         have h2:=h2.pick9
         have h2:=h2.pick9
         have h2:=h2.pick9
         have h2:=h2.pick9
         have h2:=h2.pick9
         have h2:=h2.pick9
         have h2:=h2.pick9
         have h2:=h2.pick9
         have h2:=h2.pick9
         have h2:=h2.pick9
         refine ⟨some (),rfl,?_,?_,.inr rfl,h2⟩
         ·intro m hne; match m,hne with
          | 0,hne => exact absurd rfl hne
          | m + 1,_ => exact rfl
         ·intro j hj; match j,hj with
          | 0,hj => exact rfl
          | 1,hj => exact rfl
          | 2,hj => exact rfl
          | 3,hj => exact rfl
          | 4,hj => exact rfl
          | 5,hj => exact rfl
          | 6,hj => exact rfl
          | 7,hj => exact rfl
          | 8,hj => exact rfl
          | 9,hj => exact rfl
          | 10,hj => exact rfl
          | 11,hj => exact absurd (by decide) hj
          | 12,hj => exact absurd (by decide) hj
          | 13,hj => exact absurd (by decide) hj
          | 14,hj => exact absurd (by decide) hj
          | 15,hj => exact absurd (by decide) hj
          | 16,hj => exact absurd (by decide) hj
          | j + 17,_ => exact rfl
        ·exact Bool.noConfusion hr
       | k + 1,hk => exact absurd hk (by simp)
      intro st384 w381 hS382 hr383
      rcases st384 with _ | x332
      ·exact Bool.noConfusion (hr383 0 (Nat.lt_of_sub_eq_succ rfl))
      replace hS382 : St w0 Z (xblk b1 32 ([.string y43,.func (.func 28) #[] #[.pointer (some ⟨ba0_1c0,0,none⟩),.pointer (some ⟨ba0_1c1,0,none⟩)],.func (.func 31) #[] #[.pointer (some ⟨ba0_1c1,0,none⟩),.pointer (some ⟨ba0_1c0,0,none⟩)],.func (.func 32) #[] #[.pointer (some ⟨ba0_1c0,0,none⟩),.pointer (some ⟨ba0_1c1,0,none⟩)]])::xblk ba0_1c0 33 ([.pointer (some ⟨ba0_1c0v,0,none⟩)])::xblk ba0_1c0v 49 ([.map (some ba0_1c0vv_0),.map (some ba0_1c0vv_1),.map (some ba0_1c0vv_2),.bool t328])::xmap ba0_1c0vv_0 (t196.map (kv Value.string (Value.int .i64)))::xmap ba0_1c0vv_1 (t258.map (kv Value.string (Value.int .i64)))::xmap ba0_1c0vv_2 (t329.map (kv Value.string (Value.int .i64)))::xblk ba0_1c1 26 ([.slice Aa0_1c1v_0 a0_1c1v.Next.length ca0_1c1v_0,.slice Aa0_1c1v_1 a0_1c1v.End.length ca0_1c1v_1,.slice Aa0_1c1v_2 a0_1c1v.Value.length ca0_1c1v_2,.int .i64 a0_1c1v.Start])::xblk b14 43 ([.slice A261 t260.length c262,.slice A265 t264.length c266,.slice A269 t268.length c270,.slice A274 t273.length c275,.slice A278 t277.length c279,.slice A282 t281.length c283,.slice A286 t285.length c287,.bool t289,.map (some b9)])::xrow A261 c262 9 1 (t260.flatMap encS)::xrow Q197 Q198 88 3 (t194.flatMap enc_api_Pick)::gs312) w381:=hS382
      subst hg313
      refine sI 5 (.inRegion (opsOf (cd10 [1,1,1,0,1,0,0,1,0,0,1,1,0,0,1,0,0,1,0,0])) []::.code (cd10 [1,1,1,0,1,0,0,1,0,0,1,1,0,0,1,0,0,1,0,1])::.code (cd10 [1,1,1,0,1,0,0,1,0,0,1,1,0,0,1,0,0,1,1])::td39) 57 hp331 (fun hp387 => ?_) fun hp406 => ?_
      ·refine sR 8 td36 ?_
       have hS388:=hS382.pick9
       have hS389:=hS388.pick17
       have hS390:=hS389.pick17
       have hS391:=hS390.pick17
       have hS392:=hS391.pick17
       have hS393:=hS392.pick17
       have hS394:=hS393.pick17
       have hS395:=hS394.pick17
       have hS396:=hS395.pick16
       have hS397:=hS396.pick16
       have hS398:=hS397.pick17
       have hS399:=hS398.pick17
       have hS400:=hS399.pick17
       have hS401:=hS400.pick17
       have hS402:=hS401.pick17
       have hS403:=hS402.pick17
       have hS404:=hS403.pick17
       have hS405:=hS404.pick17
       refine sR 1 td37 ?_
       exact rF _ (ih296 (IntKind.i64.wrap (t255 + 1)) t328 t329 (id t258) (id t259) (id t260) (id t264) (id t268) (id t273) (id t277) (id t281) (id t285) (id t289) _ hp387 he294 _ A261 c262 A265 c266 A269 c270 (h272) A274 c275 A278 c279 A282 c283 A286 c287 _ hS405)
      refine sR 4 (.code p10_26::.code (cd10 [1,1,1,0,1,0,0,1,0,0,1,1,0,0,1,0,0,1,1,1])::td39) ?_
      refine r_drawn3 (C:=St w0 Z (xblk b1 32 ([.string y43,.func (.func 28) #[] #[.pointer (some ⟨ba0_1c0,0,none⟩),.pointer (some ⟨ba0_1c1,0,none⟩)],.func (.func 31) #[] #[.pointer (some ⟨ba0_1c1,0,none⟩),.pointer (some ⟨ba0_1c0,0,none⟩)],.func (.func 32) #[] #[.pointer (some ⟨ba0_1c0,0,none⟩),.pointer (some ⟨ba0_1c1,0,none⟩)]])::xblk ba0_1c0 33 ([.pointer (some ⟨ba0_1c0v,0,none⟩)])::xblk ba0_1c0v 49 ([.map (some ba0_1c0vv_0),.map (some ba0_1c0vv_1),.map (some ba0_1c0vv_2),.bool t328])::xmap ba0_1c0vv_0 (t196.map (kv Value.string (Value.int .i64)))::xmap ba0_1c0vv_1 (t258.map (kv Value.string (Value.int .i64)))::xmap ba0_1c0vv_2 (t329.map (kv Value.string (Value.int .i64)))::xblk ba0_1c1 26 ([.slice Aa0_1c1v_0 a0_1c1v.Next.length ca0_1c1v_0,.slice Aa0_1c1v_1 a0_1c1v.End.length ca0_1c1v_1,.slice Aa0_1c1v_2 a0_1c1v.Value.length ca0_1c1v_2,.int .i64 a0_1c1v.Start])::xblk b14 43 ([.slice A261 t260.length c262,.slice A265 t264.length c266,.slice A269 t268.length c270,.slice A274 t273.length c275,.slice A278 t277.length c279,.slice A282 t281.length c283,.slice A286 t285.length c287,.bool t289,.map (some b9)])::xrow A261 c262 9 1 (t260.flatMap encS)::xrow Q197 Q198 88 3 (t194.flatMap enc_api_Pick)::xblk b5 43 ([.slice none 0 0,.slice none 0 0,.slice none 0 0,.slice none 0 0,.slice none 0 0,.slice none 0 0,.slice none 0 0,.bool false,.map none])::xrow A265 c266 3 1 (t264.flatMap (encI .i64))::xrr A269 c270 93 h272 95 4 enc_weirref14_Move t268::xrow A274 c275 4 1 (t273.flatMap encB)::xrow A278 c279 84 49 (t277.flatMap enc_api_Final)::xrow A282 c283 3 1 (t281.flatMap (encI .i64))::xrow A286 c287 88 3 (t285.flatMap enc_api_Pick)::xmap b9 (t259.map (kv Value.string (Value.int .i64)))::fs)) (c:=p10_26) (id:=12) (by kernel_rfl) (by kernel_rfl) 14 (Nat.le_of_ble_eq_true (by kernel_rfl)) (by kernel_rfl) (by kernel_rfl) (by kernel_rfl) (is:=[0,1,2,3,4,5,6,7,8,9,10,11,12,13]) (rest:=[14,15]) (by kernel_rfl) (by kernel_rfl) hS382.drew ?_
      refine qLa 32 (.tmp 2) (fun w hC => (hC.blk 0 rfl)) ?_
      refine qR 3 (rg 4 10) ?_
      refine qL1 37 (.tmp 61) 1 (fun w hC => (hC.blk 7 rfl)) ?_
      refine qR 1 (rg 6 8) ?_
      obtain ⟨g407,hp408⟩:=ite_some hp406
      obtain ⟨b409,p410,hA411,-⟩:=(hS382.row 11 rfl).at_ (len_encI .i64) (by omega) g407.1 g407.2
      refine q_indexAddr (c:=(hd p10_26 14)) (i:=6) (d:=(some 64)) (ty:=0) (t:=37) (e:=3) (n:=t264.length) (cp:=c266) (sz:=1) (kk:=.i64) (x:=(.tmp 62)) (y:=(.tmp 63)) (b:=b409) (o':=p410) (j:=t138) (by kernel_rfl) (by kernel_rfl) (slv (by kernel_rfl) hA411) (by kernel_rfl) (by kernel_rfl) (by kernel_rfl) g407.1 g407.2 ?_
      refine qL1 3 (.tmp 64) 0 (fun w hC => ((hC.row 11 rfl).at2 hA411 (len_encI .i64) (by omega) g407.1 g407.2)) ?_
      refine qR 4 [12,13] ?_
      obtain ⟨g413,hp414⟩:=ite_some hp408
      obtain ⟨b415,p416,hA417,-⟩:=(hS382.row 9 rfl).at_ len_api_Pick (by omega) g413.1 g413.2
      refine q_indexAddr (c:=(hd p10_26 14)) (i:=12) (d:=(some 70)) (ty:=0) (t:=40) (e:=88) (n:=t194.length) (cp:=Q198) (sz:=3) (kk:=.i64) (x:=(.tmp 68)) (y:=(.tmp 69)) (b:=b415) (o':=p416) (j:=t255) (by kernel_rfl) (by kernel_rfl) (slv (by kernel_rfl) hA417) (by kernel_rfl) (by kernel_rfl) (by kernel_rfl) g413.1 g413.2 ?_
      refine qLa 88 (.tmp 70) (fun w hC => ((hC.row 9 rfl).at2 hA417 len_api_Pick (by omega) g413.1 g413.2)) ?_
      refine Qs.nil ?_
      intro w419 hS420
      obtain ⟨⟨t421,t422,t423,t424,t425,t426,t427,t428,t429,t430,t431,t432⟩,hr448,hp449⟩:=bind_some' hp414
      try dsimp only at hp449
      have hS460:=hS420.pick6
      have hS461:=hS460.pick6
      have hS462:=hS461.pick6
      have hS463:=hS462.pick6
      have hS464:=hS463.pick6
      have hS465:=hS464.pick6
      have hS466:=hS465.pick17
      have hS467:=hS466.pick17
      have hS468:=hS467.pick17
      have hS469:=hS468.pick17
      have hS470:=hS469.pick17
      have hS471:=hS470.pick17
      have hS472:=hS471.pick17
      have hS473:=hS472.pick15
      have hS474:=hS473.pick15
      refine rC (weirref14_Graph__put.ok hr448 hS474 ha0_1c1v_0 ha0_1c1v_1 ha0_1c1v_2) ?_
      rintro _ w475 ⟨Q433,Q434,Q435,Q436,Q437,Q438,Q439,Q440,Q441,Q442,Q443,Q444,Q445,Q446,Q447,rfl,hS476⟩
      refine ⟨_,rfl,?_⟩
      refine sI 6 (.inRegion (opsOf (cd10 [1,1,1,0,1,0,0,1,0,0,1,1,0,0,1,0,0,1,1,1,0])) []::.code (cd10 [1,1,1,0,1,0,0,1,0,0,1,1,0,0,1,0,0,1,1,1,1])::td39) 74 hp449 (fun hp479 => ?_) fun hp541 => ?_
      ·refine sR 2 (.code p10_30::td39) ?_
       obtain ⟨g480,hp481⟩:=ite_some hp479
       have hS482:=hS476.pick2
       have hS486:=hS482.rrAt g480
       obtain ⟨b487,p488,hA489⟩:=hS486.atH g480
       have hS490:=hS486.pick18
       have hS491:=hS490.pick10
       have hS492:=hS491.pick4
       have hS493:=hS492.pick4
       have hS494:=hS493.pick4
       generalize hg496 : (xrow Q433 Q434 9 1 (t422.flatMap encS)::xrow Q435 Q436 3 1 (t423.flatMap (encI .i64))::xrow Q440 Q441 4 1 (t425.flatMap encB)::xrow Q442 Q443 84 49 (t426.flatMap enc_api_Final)::xrow Q444 Q445 3 1 (t427.flatMap (encI .i64))::xrow Q446 Q447 88 3 (t428.flatMap enc_api_Pick)::xmap b9 (t430.map (kv Value.string (Value.int .i64)))::xblk ba0_1c0 33 ([.pointer (some ⟨ba0_1c0v,0,none⟩)])::xblk ba0_1c0v 49 ([.map (some ba0_1c0vv_0),.map (some ba0_1c0vv_1),.map (some ba0_1c0vv_2),.bool t431])::xmap ba0_1c0vv_0 (t196.map (kv Value.string (Value.int .i64)))::xmap ba0_1c0vv_1 (t432.map (kv Value.string (Value.int .i64)))::xmap ba0_1c0vv_2 (t329.map (kv Value.string (Value.int .i64)))::xblk ba0_1c1 26 ([.slice Aa0_1c1v_0 a0_1c1v.Next.length ca0_1c1v_0,.slice Aa0_1c1v_1 a0_1c1v.End.length ca0_1c1v_1,.slice Aa0_1c1v_2 a0_1c1v.Value.length ca0_1c1v_2,.int .i64 a0_1c1v.Start])::xblk b1 32 ([.string y43,.func (.func 28) #[] #[.pointer (some ⟨ba0_1c0,0,none⟩),.pointer (some ⟨ba0_1c1,0,none⟩)],.func (.func 31) #[] #[.pointer (some ⟨ba0_1c1,0,none⟩),.pointer (some ⟨ba0_1c0,0,none⟩)],.func (.func 32) #[] #[.pointer (some ⟨ba0_1c0,0,none⟩),.pointer (some ⟨ba0_1c1,0,none⟩)]])::xblk b5 43 ([.slice none 0 0,.slice none 0 0,.slice none 0 0,.slice none 0 0,.slice none 0 0,.slice none 0 0,.slice none 0 0,.bool false,.map none])::fs) = gs495 at hS494
       obtain ⟨g497,hp498⟩:=ite_some hp481
       obtain ⟨b499,p500,hA501,-⟩:=(hS494.row 4 rfl).at_ len_api_Pick (by omega) g497.1 g497.2
       obtain ⟨g509,hp510⟩:=ite_some hp498
       refine r_drawnP (S:=Option Nat × Option (Option Addr × Nat) × Option Unit) (dn:=(fun (st : Option Nat × Option (Option Addr × Nat) × Option Unit) k => [st.1.isSome,st.2.1.isSome,st.2.2.isSome].getD k true)) (C:=(fun st w' => match st with | (none,none,none) => St w0 Z (xrow Q437 Q438 93 1 ((hdl Q439 t424).flatMap encH)::xrow ((Q439 t138.toNat).1) ((Q439 t138.toNat).2) 95 4 ((gt t424 t138).flatMap enc_weirref14_Move)::xels (fun k => False ∨ k = t138.toNat) Q439 95 4 enc_weirref14_Move t424::xblk b14 43 ([.slice Q433 t422.length Q434,.slice Q435 t423.length Q436,.slice Q437 t424.length Q438,.slice Q440 t425.length Q441,.slice Q442 t426.length Q443,.slice Q444 t427.length Q445,.slice Q446 t428.length Q447,.bool t429,.map (some b9)])::xrow Q197 Q198 88 3 (t194.flatMap enc_api_Pick)::gs495) w' | (none,none,some _) => False | (none,some x508,none) => False | (none,some x508,some _) => False | (some b503,none,none) => St w0 Z (xrow (some ⟨b503,0,none⟩) 1 95 4 (([(⟨t421,(gt t194 t255)⟩ : weirref14_Move)] : List weirref14_Move).flatMap enc_weirref14_Move)::xrow Q437 Q438 93 1 ((hdl Q439 t424).flatMap encH)::xrow ((Q439 t138.toNat).1) ((Q439 t138.toNat).2) 95 4 ((gt t424 t138).flatMap enc_weirref14_Move)::xels (fun k => False ∨ k = t138.toNat) Q439 95 4 enc_weirref14_Move t424::xblk b14 43 ([.slice Q433 t422.length Q434,.slice Q435 t423.length Q436,.slice Q437 t424.length Q438,.slice Q440 t425.length Q441,.slice Q442 t426.length Q443,.slice Q444 t427.length Q445,.slice Q446 t428.length Q447,.bool t429,.map (some b9)])::xrow Q197 Q198 88 3 (t194.flatMap enc_api_Pick)::gs495) w' | (some b503,none,some _) => False | (some b503,some x508,none) => St w0 Z (xrow x508.1 x508.2 95 4 (((gt t424 t138) ++ ([(⟨t421,(gt t194 t255)⟩ : weirref14_Move)] : List weirref14_Move)).flatMap enc_weirref14_Move)::xrow (some ⟨b503,0,none⟩) 1 95 4 (([(⟨t421,(gt t194 t255)⟩ : weirref14_Move)] : List weirref14_Move).flatMap enc_weirref14_Move)::xrow Q437 Q438 93 1 ((hdl Q439 t424).flatMap encH)::xels (fun k => False ∨ k = t138.toNat) Q439 95 4 enc_weirref14_Move t424::xblk b14 43 ([.slice Q433 t422.length Q434,.slice Q435 t423.length Q436,.slice Q437 t424.length Q438,.slice Q440 t425.length Q441,.slice Q442 t426.length Q443,.slice Q444 t427.length Q445,.slice Q446 t428.length Q447,.bool t429,.map (some b9)])::xrow Q197 Q198 88 3 (t194.flatMap enc_api_Pick)::gs495) w' | (some b503,some x508,some _) => St w0 Z (xrow Q437 Q438 93 1 ((setl (hdl Q439 t424) t138 (x508.1,((gt t424 t138) ++ ([(⟨t421,(gt t194 t255)⟩ : weirref14_Move)] : List weirref14_Move)).length,x508.2)).flatMap encH)::xrow x508.1 x508.2 95 4 (((gt t424 t138) ++ ([(⟨t421,(gt t194 t255)⟩ : weirref14_Move)] : List weirref14_Move)).flatMap enc_weirref14_Move)::xrow (some ⟨b503,0,none⟩) 1 95 4 (([(⟨t421,(gt t194 t255)⟩ : weirref14_Move)] : List weirref14_Move).flatMap enc_weirref14_Move)::xels (fun k => False ∨ k = t138.toNat) Q439 95 4 enc_weirref14_Move t424::xblk b14 43 ([.slice Q433 t422.length Q434,.slice Q435 t423.length Q436,.slice Q437 t424.length Q438,.slice Q440 t425.length Q441,.slice Q442 t426.length Q443,.slice Q444 t427.length Q445,.slice Q446 t428.length Q447,.bool t429,.map (some b9)])::xrow Q197 Q198 88 3 (t194.flatMap enc_api_Pick)::gs495) w')) (v:=(fun st => match st with | (none,none,none) => [.pointer (some ⟨b14,2,none⟩),.slice Q437 t424.length Q438,.int .i64 t138,.pointer (some ⟨b14,2,none⟩),.slice Q437 t424.length Q438,.int .i64 t138,.pointer (some ⟨b487,p488 + t138.toNat * 1,none⟩),.slice ((Q439 t138.toNat).1) (gt t424 t138).length ((Q439 t138.toNat).2),.int .i64 t421,.slice Q197 t194.length Q198,.int .i64 t255,.pointer (some ⟨b499,p500 + t255.toNat * 3,none⟩),.agg (enc_api_Pick (gt t194 t255)).toArray,.agg (enc_weirref14_Move (⟨t421,(gt t194 t255)⟩ : weirref14_Move)).toArray,undef,undef,undef,undef] | (none,none,some _) => [.pointer (some ⟨b14,2,none⟩),.slice Q437 t424.length Q438,.int .i64 t138,.pointer (some ⟨b14,2,none⟩),.slice Q437 t424.length Q438,.int .i64 t138,.pointer (some ⟨b487,p488 + t138.toNat * 1,none⟩),.slice ((Q439 t138.toNat).1) (gt t424 t138).length ((Q439 t138.toNat).2),.int .i64 t421,.slice Q197 t194.length Q198,.int .i64 t255,.pointer (some ⟨b499,p500 + t255.toNat * 3,none⟩),.agg (enc_api_Pick (gt t194 t255)).toArray,.agg (enc_weirref14_Move (⟨t421,(gt t194 t255)⟩ : weirref14_Move)).toArray,undef,undef,undef,undef] | (none,some x508,none) => [.pointer (some ⟨b14,2,none⟩),.slice Q437 t424.length Q438,.int .i64 t138,.pointer (some ⟨b14,2,none⟩),.slice Q437 t424.length Q438,.int .i64 t138,.pointer (some ⟨b487,p488 + t138.toNat * 1,none⟩),.slice ((Q439 t138.toNat).1) (gt t424 t138).length ((Q439 t138.toNat).2),.int .i64 t421,.slice Q197 t194.length Q198,.int .i64 t255,.pointer (some ⟨b499,p500 + t255.toNat * 3,none⟩),.agg (enc_api_Pick (gt t194 t255)).toArray,.agg (enc_weirref14_Move (⟨t421,(gt t194 t255)⟩ : weirref14_Move)).toArray,undef,undef,undef,undef] | (none,some x508,some _) => [.pointer (some ⟨b14,2,none⟩),.slice Q437 t424.length Q438,.int .i64 t138,.pointer (some ⟨b14,2,none⟩),.slice Q437 t424.length Q438,.int .i64 t138,.pointer (some ⟨b487,p488 + t138.toNat * 1,none⟩),.slice ((Q439 t138.toNat).1) (gt t424 t138).length ((Q439 t138.toNat).2),.int .i64 t421,.slice Q197 t194.length Q198,.int .i64 t255,.pointer (some ⟨b499,p500 + t255.toNat * 3,none⟩),.agg (enc_api_Pick (gt t194 t255)).toArray,.agg (enc_weirref14_Move (⟨t421,(gt t194 t255)⟩ : weirref14_Move)).toArray,undef,undef,undef,undef] | (some b503,none,none) => [.pointer (some ⟨b14,2,none⟩),.slice Q437 t424.length Q438,.int .i64 t138,.pointer (some ⟨b14,2,none⟩),.slice Q437 t424.length Q438,.int .i64 t138,.pointer (some ⟨b487,p488 + t138.toNat * 1,none⟩),.slice ((Q439 t138.toNat).1) (gt t424 t138).length ((Q439 t138.toNat).2),.int .i64 t421,.slice Q197 t194.length Q198,.int .i64 t255,.pointer (some ⟨b499,p500 + t255.toNat * 3,none⟩),.agg (enc_api_Pick (gt t194 t255)).toArray,.agg (enc_weirref14_Move (⟨t421,(gt t194 t255)⟩ : weirref14_Move)).toArray,.slice (some ⟨b503,0,none⟩) ([(⟨t421,(gt t194 t255)⟩ : weirref14_Move)] : List weirref14_Move).length 1,undef,undef,undef] | (some b503,none,some _) => [.pointer (some ⟨b14,2,none⟩),.slice Q437 t424.length Q438,.int .i64 t138,.pointer (some ⟨b14,2,none⟩),.slice Q437 t424.length Q438,.int .i64 t138,.pointer (some ⟨b487,p488 + t138.toNat * 1,none⟩),.slice ((Q439 t138.toNat).1) (gt t424 t138).length ((Q439 t138.toNat).2),.int .i64 t421,.slice Q197 t194.length Q198,.int .i64 t255,.pointer (some ⟨b499,p500 + t255.toNat * 3,none⟩),.agg (enc_api_Pick (gt t194 t255)).toArray,.agg (enc_weirref14_Move (⟨t421,(gt t194 t255)⟩ : weirref14_Move)).toArray,.slice (some ⟨b503,0,none⟩) ([(⟨t421,(gt t194 t255)⟩ : weirref14_Move)] : List weirref14_Move).length 1,undef,undef,undef] | (some b503,some x508,none) => [.pointer (some ⟨b14,2,none⟩),.slice Q437 t424.length Q438,.int .i64 t138,.pointer (some ⟨b14,2,none⟩),.slice Q437 t424.length Q438,.int .i64 t138,.pointer (some ⟨b487,p488 + t138.toNat * 1,none⟩),.slice ((Q439 t138.toNat).1) (gt t424 t138).length ((Q439 t138.toNat).2),.int .i64 t421,.slice Q197 t194.length Q198,.int .i64 t255,.pointer (some ⟨b499,p500 + t255.toNat * 3,none⟩),.agg (enc_api_Pick (gt t194 t255)).toArray,.agg (enc_weirref14_Move (⟨t421,(gt t194 t255)⟩ : weirref14_Move)).toArray,.slice (some ⟨b503,0,none⟩) ([(⟨t421,(gt t194 t255)⟩ : weirref14_Move)] : List weirref14_Move).length 1,.slice x508.1 ((gt t424 t138) ++ ([(⟨t421,(gt t194 t255)⟩ : weirref14_Move)] : List weirref14_Move)).length x508.2,.pointer (some ⟨b487,p488 + t138.toNat * 1,none⟩),undef] | (some b503,some x508,some _) => [.pointer (some ⟨b14,2,none⟩),.slice Q437 t424.length Q438,.int .i64 t138,.pointer (some ⟨b14,2,none⟩),.slice Q437 t424.length Q438,.int .i64 t138,.pointer (some ⟨b487,p488 + t138.toNat * 1,none⟩),.slice ((Q439 t138.toNat).1) (gt t424 t138).length ((Q439 t138.toNat).2),.int .i64 t421,.slice Q197 t194.length Q198,.int .i64 t255,.pointer (some ⟨b499,p500 + t255.toNat * 3,none⟩),.agg (enc_api_Pick (gt t194 t255)).toArray,.agg (enc_weirref14_Move (⟨t421,(gt t194 t255)⟩ : weirref14_Move)).toArray,.slice (some ⟨b503,0,none⟩) ([(⟨t421,(gt t194 t255)⟩ : weirref14_Move)] : List weirref14_Move).length 1,.slice x508.1 ((gt t424 t138) ++ ([(⟨t421,(gt t194 t255)⟩ : weirref14_Move)] : List weirref14_Move)).length x508.2,.pointer (some ⟨b487,p488 + t138.toNat * 1,none⟩),undef])) (c:=p10_30) (id:=14) (none,none,none) 17 18 [14,15,17] [[],[],[],[],[],[],[],[],[],[],[],[],[],[],[],[0],[0,1],[0,1]] [[2],[2],[2],[2],[2],[2],[2],[1,2],[2],[2],[2],[2],[2],[0,2],[1,2],[2],[2],[]] [] [true,true,true,true,true,true,true,true,true,true,true,true,true,true,true,true,true,true] (by kernel_rfl) (by kernel_rfl) (by kernel_rfl) (by kernel_rfl) (by kernel_rfl) (by kernel_rfl) (by kernel_rfl) (by kernel_rfl) (by kernel_rfl) (fun k hk => match k,hk with | 0,_ => rfl | 1,_ => rfl | 2,_ => rfl | k + 3,hk => absurd hk (by simp)) hS494.drew ?_ (fun k hk => match k,hk with | 0,_ => rfl | 1,_ => rfl | 2,_ => rfl | k + 3,hk => absurd hk (by simp)) ?_ ?_ ?_
       ·intro i hi st w hC hd
        match i,hi with
        | 0,_ => (show _ = _; kernel_rfl)
        | 1,_ => (show _ = _; kernel_rfl)
        | 2,_ => (show _ = _; kernel_rfl)
        | 3,_ => (show _ = _; kernel_rfl)
        | 4,_ => (show _ = _; kernel_rfl)
        | 5,_ => (show _ = _; kernel_rfl)
        | 6,_ => (show _ = _; kernel_rfl)
        | 7,_ => (show _ = _; kernel_rfl)
        | 8,_ => (show _ = _; kernel_rfl)
        | 9,_ => (show _ = _; kernel_rfl)
        | 10,_ => (show _ = _; kernel_rfl)
        | 11,_ => (show _ = _; kernel_rfl)
        | 12,_ => (show _ = _; kernel_rfl)
        | 13,_ => (show _ = _; kernel_rfl)
        | 14,_ => (show _ = _; kernel_rfl)
        | 15,_ => (show _ = _; kernel_rfl)
        | 16,_ => (show _ = _; kernel_rfl)
        | 17,_ => (show _ = _; kernel_rfl)
        | i + 18,hi => exact absurd hi (by omega)
       ·intro i hi he st w hC hd hu
        match i,hi,he with
        | 0,_,_ =>
         rcases st with ⟨_ | b503,_ | x508,_ | _⟩
         ·dsimp only at hC
          exact dG (.pointer (some ⟨b14,2,none⟩)) hC
         ·exact False.elim hC
         ·exact False.elim hC
         ·exact False.elim hC
         ·dsimp only at hC
          exact dG (.pointer (some ⟨b14,2,none⟩)) hC
         ·exact False.elim hC
         ·dsimp only at hC
          exact dG (.pointer (some ⟨b14,2,none⟩)) hC
         ·exact Bool.noConfusion (hu 2 (by decide))
        | 1,_,_ =>
         rcases st with ⟨_ | b503,_ | x508,_ | _⟩
         ·dsimp only at hC
          exact ⟨fun _ => does_run (x_load (t:=38) (x:=(.tmp 75)) (p:=⟨b14,2,none⟩) (v:=.slice Q437 t424.length Q438) (by kernel_rfl) (loads_at 2 (hC.blk 3 rfl) (by kernel_rfl) (by kernel_rfl)) (by kernel_rfl)) rfl hC,fun h => absurd h (by decide)⟩
         ·exact False.elim hC
         ·exact False.elim hC
         ·exact False.elim hC
         ·dsimp only at hC
          exact ⟨fun _ => does_run (x_load (t:=38) (x:=(.tmp 75)) (p:=⟨b14,2,none⟩) (v:=.slice Q437 t424.length Q438) (by kernel_rfl) (loads_at 2 (hC.blk 4 rfl) (by kernel_rfl) (by kernel_rfl)) (by kernel_rfl)) rfl hC,fun h => absurd h (by decide)⟩
         ·exact False.elim hC
         ·dsimp only at hC
          exact ⟨fun _ => does_run (x_load (t:=38) (x:=(.tmp 75)) (p:=⟨b14,2,none⟩) (v:=.slice Q437 t424.length Q438) (by kernel_rfl) (loads_at 2 (hC.blk 4 rfl) (by kernel_rfl) (by kernel_rfl)) (by kernel_rfl)) rfl hC,fun h => absurd h (by decide)⟩
         ·exact Bool.noConfusion (hu 2 (by decide))
        | 2,_,_ =>
         rcases st with ⟨_ | b503,_ | x508,_ | _⟩
         ·dsimp only at hC
          exact dG (.int .i64 t138) hC
         ·exact False.elim hC
         ·exact False.elim hC
         ·exact False.elim hC
         ·dsimp only at hC
          exact dG (.int .i64 t138) hC
         ·exact False.elim hC
         ·dsimp only at hC
          exact dG (.int .i64 t138) hC
         ·exact Bool.noConfusion (hu 2 (by decide))
        | 3,_,_ =>
         rcases st with ⟨_ | b503,_ | x508,_ | _⟩
         ·dsimp only at hC
          exact dG (.pointer (some ⟨b14,2,none⟩)) hC
         ·exact False.elim hC
         ·exact False.elim hC
         ·exact False.elim hC
         ·dsimp only at hC
          exact dG (.pointer (some ⟨b14,2,none⟩)) hC
         ·exact False.elim hC
         ·dsimp only at hC
          exact dG (.pointer (some ⟨b14,2,none⟩)) hC
         ·exact Bool.noConfusion (hu 2 (by decide))
        | 4,_,_ =>
         rcases st with ⟨_ | b503,_ | x508,_ | _⟩
         ·dsimp only at hC
          exact ⟨fun _ => does_run (x_load (t:=38) (x:=(.tmp 78)) (p:=⟨b14,2,none⟩) (v:=.slice Q437 t424.length Q438) (by kernel_rfl) (loads_at 2 (hC.blk 3 rfl) (by kernel_rfl) (by kernel_rfl)) (by kernel_rfl)) rfl hC,fun h => absurd h (by decide)⟩
         ·exact False.elim hC
         ·exact False.elim hC
         ·exact False.elim hC
         ·dsimp only at hC
          exact ⟨fun _ => does_run (x_load (t:=38) (x:=(.tmp 78)) (p:=⟨b14,2,none⟩) (v:=.slice Q437 t424.length Q438) (by kernel_rfl) (loads_at 2 (hC.blk 4 rfl) (by kernel_rfl) (by kernel_rfl)) (by kernel_rfl)) rfl hC,fun h => absurd h (by decide)⟩
         ·exact False.elim hC
         ·dsimp only at hC
          exact ⟨fun _ => does_run (x_load (t:=38) (x:=(.tmp 78)) (p:=⟨b14,2,none⟩) (v:=.slice Q437 t424.length Q438) (by kernel_rfl) (loads_at 2 (hC.blk 4 rfl) (by kernel_rfl) (by kernel_rfl)) (by kernel_rfl)) rfl hC,fun h => absurd h (by decide)⟩
         ·exact Bool.noConfusion (hu 2 (by decide))
        | 5,_,_ =>
         rcases st with ⟨_ | b503,_ | x508,_ | _⟩
         ·dsimp only at hC
          exact dG (.int .i64 t138) hC
         ·exact False.elim hC
         ·exact False.elim hC
         ·exact False.elim hC
         ·dsimp only at hC
          exact dG (.int .i64 t138) hC
         ·exact False.elim hC
         ·dsimp only at hC
          exact dG (.int .i64 t138) hC
         ·exact Bool.noConfusion (hu 2 (by decide))
        | 6,_,_ =>
         rcases st with ⟨_ | b503,_ | x508,_ | _⟩
         ·dsimp only at hC
          exact ⟨fun _ => does_run (x_indexAddr (t:=38) (e:=93) (x:=(.tmp 79)) (y:=(.tmp 80)) (b:=b487) (o':=p488) (n:=t424.length) (cp:=Q438) (sz:=1) (kk:=.i64) (j:=t138) (slv (by kernel_rfl) hA489) (by kernel_rfl) (by kernel_rfl) (by kernel_rfl) g480.1 g480.2 (by kernel_rfl)) rfl hC,fun h => absurd h (by decide)⟩
         ·exact False.elim hC
         ·exact False.elim hC
         ·exact False.elim hC
         ·dsimp only at hC
          exact ⟨fun _ => does_run (x_indexAddr (t:=38) (e:=93) (x:=(.tmp 79)) (y:=(.tmp 80)) (b:=b487) (o':=p488) (n:=t424.length) (cp:=Q438) (sz:=1) (kk:=.i64) (j:=t138) (slv (by kernel_rfl) hA489) (by kernel_rfl) (by kernel_rfl) (by kernel_rfl) g480.1 g480.2 (by kernel_rfl)) rfl hC,fun h => absurd h (by decide)⟩
         ·exact False.elim hC
         ·dsimp only at hC
          exact ⟨fun _ => does_run (x_indexAddr (t:=38) (e:=93) (x:=(.tmp 79)) (y:=(.tmp 80)) (b:=b487) (o':=p488) (n:=t424.length) (cp:=Q438) (sz:=1) (kk:=.i64) (j:=t138) (slv (by kernel_rfl) hA489) (by kernel_rfl) (by kernel_rfl) (by kernel_rfl) g480.1 g480.2 (by kernel_rfl)) rfl hC,fun h => absurd h (by decide)⟩
         ·exact Bool.noConfusion (hu 2 (by decide))
        | 7,_,_ =>
         rcases st with ⟨_ | b503,_ | x508,_ | _⟩
         ·dsimp only at hC
          exact ⟨fun _ => does_run (x_load (t:=93) (x:=(.tmp 81)) (p:=⟨b487,p488 + t138.toNat * 1,none⟩) (v:=.slice ((Q439 t138.toNat).1) (gt t424 t138).length ((Q439 t138.toNat).2)) (by kernel_rfl) (loads_at 0 (RowIn.at2H (x:=((Q439 t138.toNat).1,(gt t424 t138).length,(Q439 t138.toNat).2)) (hC.row 0 rfl) hA489 (hdl_g g480) (hdl_gt g480)) (by kernel_rfl) (by kernel_rfl)) (by kernel_rfl)) rfl hC,fun h => absurd h (by decide)⟩
         ·exact False.elim hC
         ·exact False.elim hC
         ·exact False.elim hC
         ·dsimp only at hC
          exact ⟨fun _ => does_run (x_load (t:=93) (x:=(.tmp 81)) (p:=⟨b487,p488 + t138.toNat * 1,none⟩) (v:=.slice ((Q439 t138.toNat).1) (gt t424 t138).length ((Q439 t138.toNat).2)) (by kernel_rfl) (loads_at 0 (RowIn.at2H (x:=((Q439 t138.toNat).1,(gt t424 t138).length,(Q439 t138.toNat).2)) (hC.row 1 rfl) hA489 (hdl_g g480) (hdl_gt g480)) (by kernel_rfl) (by kernel_rfl)) (by kernel_rfl)) rfl hC,fun h => absurd h (by decide)⟩
         ·exact False.elim hC
         ·exact Bool.noConfusion (hu 1 (by decide))
         ·exact Bool.noConfusion (hu 1 (by decide))
        | 8,_,_ =>
         rcases st with ⟨_ | b503,_ | x508,_ | _⟩
         ·dsimp only at hC
          exact dG (.int .i64 t421) hC
         ·exact False.elim hC
         ·exact False.elim hC
         ·exact False.elim hC
         ·dsimp only at hC
          exact dG (.int .i64 t421) hC
         ·exact False.elim hC
         ·dsimp only at hC
          exact dG (.int .i64 t421) hC
         ·exact Bool.noConfusion (hu 2 (by decide))
        | 9,_,_ =>
         rcases st with ⟨_ | b503,_ | x508,_ | _⟩
         ·dsimp only at hC
          exact dG (.slice Q197 t194.length Q198) hC
         ·exact False.elim hC
         ·exact False.elim hC
         ·exact False.elim hC
         ·dsimp only at hC
          exact dG (.slice Q197 t194.length Q198) hC
         ·exact False.elim hC
         ·dsimp only at hC
          exact dG (.slice Q197 t194.length Q198) hC
         ·exact Bool.noConfusion (hu 2 (by decide))
        | 10,_,_ =>
         rcases st with ⟨_ | b503,_ | x508,_ | _⟩
         ·dsimp only at hC
          exact dG (.int .i64 t255) hC
         ·exact False.elim hC
         ·exact False.elim hC
         ·exact False.elim hC
         ·dsimp only at hC
          exact dG (.int .i64 t255) hC
         ·exact False.elim hC
         ·dsimp only at hC
          exact dG (.int .i64 t255) hC
         ·exact Bool.noConfusion (hu 2 (by decide))
        | 11,_,_ =>
         rcases st with ⟨_ | b503,_ | x508,_ | _⟩
         ·dsimp only at hC
          exact ⟨fun _ => does_run (x_indexAddr (t:=40) (e:=88) (x:=(.tmp 84)) (y:=(.tmp 85)) (b:=b499) (o':=p500) (n:=t194.length) (cp:=Q198) (sz:=3) (kk:=.i64) (j:=t255) (slv (by kernel_rfl) hA501) (by kernel_rfl) (by kernel_rfl) (by kernel_rfl) g497.1 g497.2 (by kernel_rfl)) rfl hC,fun h => absurd h (by decide)⟩
         ·exact False.elim hC
         ·exact False.elim hC
         ·exact False.elim hC
         ·dsimp only at hC
          exact ⟨fun _ => does_run (x_indexAddr (t:=40) (e:=88) (x:=(.tmp 84)) (y:=(.tmp 85)) (b:=b499) (o':=p500) (n:=t194.length) (cp:=Q198) (sz:=3) (kk:=.i64) (j:=t255) (slv (by kernel_rfl) hA501) (by kernel_rfl) (by kernel_rfl) (by kernel_rfl) g497.1 g497.2 (by kernel_rfl)) rfl hC,fun h => absurd h (by decide)⟩
         ·exact False.elim hC
         ·dsimp only at hC
          exact ⟨fun _ => does_run (x_indexAddr (t:=40) (e:=88) (x:=(.tmp 84)) (y:=(.tmp 85)) (b:=b499) (o':=p500) (n:=t194.length) (cp:=Q198) (sz:=3) (kk:=.i64) (j:=t255) (slv (by kernel_rfl) hA501) (by kernel_rfl) (by kernel_rfl) (by kernel_rfl) g497.1 g497.2 (by kernel_rfl)) rfl hC,fun h => absurd h (by decide)⟩
         ·exact Bool.noConfusion (hu 2 (by decide))
        | 12,_,_ =>
         rcases st with ⟨_ | b503,_ | x508,_ | _⟩
         ·dsimp only at hC
          exact ⟨fun _ => does_run (x_load (t:=88) (x:=(.tmp 86)) (p:=⟨b499,p500 + t255.toNat * 3,none⟩) (v:=.agg (enc_api_Pick (gt t194 t255)).toArray) (by kernel_rfl) (loads_agg ((hC.row 4 rfl).at2 hA501 len_api_Pick (by omega) g497.1 g497.2) (by kernel_rfl) (by kernel_rfl)) (by kernel_rfl)) rfl hC,fun h => absurd h (by decide)⟩
         ·exact False.elim hC
         ·exact False.elim hC
         ·exact False.elim hC
         ·dsimp only at hC
          exact ⟨fun _ => does_run (x_load (t:=88) (x:=(.tmp 86)) (p:=⟨b499,p500 + t255.toNat * 3,none⟩) (v:=.agg (enc_api_Pick (gt t194 t255)).toArray) (by kernel_rfl) (loads_agg ((hC.row 5 rfl).at2 hA501 len_api_Pick (by omega) g497.1 g497.2) (by kernel_rfl) (by kernel_rfl)) (by kernel_rfl)) rfl hC,fun h => absurd h (by decide)⟩
         ·exact False.elim hC
         ·dsimp only at hC
          exact ⟨fun _ => does_run (x_load (t:=88) (x:=(.tmp 86)) (p:=⟨b499,p500 + t255.toNat * 3,none⟩) (v:=.agg (enc_api_Pick (gt t194 t255)).toArray) (by kernel_rfl) (loads_agg ((hC.row 5 rfl).at2 hA501 len_api_Pick (by omega) g497.1 g497.2) (by kernel_rfl) (by kernel_rfl)) (by kernel_rfl)) rfl hC,fun h => absurd h (by decide)⟩
         ·exact Bool.noConfusion (hu 2 (by decide))
        | 13,_,_ =>
         rcases st with ⟨_ | b503,_ | x508,_ | _⟩
         ·dsimp only at hC
          exact dG (.agg (enc_weirref14_Move (⟨t421,(gt t194 t255)⟩ : weirref14_Move)).toArray) hC
         ·exact False.elim hC
         ·exact False.elim hC
         ·exact False.elim hC
         ·exact Bool.noConfusion (hu 0 (by decide))
         ·exact False.elim hC
         ·exact Bool.noConfusion (hu 0 (by decide))
         ·exact Bool.noConfusion (hu 0 (by decide))
        | 14,_,he => exact absurd he (by decide)
        | 15,_,he => exact absurd he (by decide)
        | 16,_,_ =>
         rcases st with ⟨_ | b503,_ | x508,_ | _⟩
         ·exact Bool.noConfusion (hd 0 (by decide))
         ·exact False.elim hC
         ·exact False.elim hC
         ·exact False.elim hC
         ·exact Bool.noConfusion (hd 1 (by decide))
         ·exact False.elim hC
         ·dsimp only at hC
          exact ⟨fun _ => does_run (x_indexAddr (t:=38) (e:=93) (x:=(.tmp 76)) (y:=(.tmp 77)) (b:=b487) (o':=p488) (n:=t424.length) (cp:=Q438) (sz:=1) (kk:=.i64) (j:=t138) (slv (by kernel_rfl) hA489) (by kernel_rfl) (by kernel_rfl) (by kernel_rfl) g480.1 g480.2 (by kernel_rfl)) rfl hC,fun h => absurd h (by decide)⟩
         ·exact Bool.noConfusion (hu 2 (by decide))
        | 17,_,he => exact absurd he (by decide)
        | i + 18,hi,_ => exact absurd hi (by omega)
       ·intro k hk st w hC hr hm
        match k,hk with
        | 0,_ =>
         rcases st with ⟨_ | b503,_ | x508,_ | _⟩
         ·dsimp only at hC
          refine does_lit (t:=93) (e:=95) (sz:=4) (n:=1) (parts:=#[(0,(.tmp 88))]) (vs:=[(0,.agg (enc_weirref14_Move (⟨t421,(gt t194 t255)⟩ : weirref14_Move)).toArray)]) (z:=zeroOf Try.prog 95) (cs':=([(⟨t421,(gt t194 t255)⟩ : weirref14_Move)] : List weirref14_Move).flatMap enc_weirref14_Move) hC (by kernel_rfl) (by kernel_rfl) (by kernel_rfl) (by kernel_rfl) (by decide) (by decide) (by kernel_rfl) rfl (Parts.cons (c:=enc_weirref14_Move (⟨t421,(gt t194 t255)⟩ : weirref14_Move)) (by kernel_rfl) (len_weirref14_Move _) Parts.nil) rfl ?_
          intro b503 w2 h2
          have h2:=h2.pick5
          have h2:=h2.pick5
          have h2:=h2.pick5
          have h2:=h2.pick5
          have h2:=h2.pick5
          have h2:=h2.pick5
          refine ⟨(some b503,none,none),rfl,?_,?_,.inr rfl,h2⟩
          ·intro m hne; match m,hne with
           | 0,hne => exact absurd rfl hne
           | 1,hne => exact rfl
           | 2,hne => exact rfl
           | m + 3,_ => exact rfl
          ·intro j hj; match j,hj with
           | 0,hj => exact rfl
           | 1,hj => exact rfl
           | 2,hj => exact rfl
           | 3,hj => exact rfl
           | 4,hj => exact rfl
           | 5,hj => exact rfl
           | 6,hj => exact rfl
           | 7,hj => exact rfl
           | 8,hj => exact rfl
           | 9,hj => exact rfl
           | 10,hj => exact rfl
           | 11,hj => exact rfl
           | 12,hj => exact rfl
           | 13,hj => exact rfl
           | 14,hj => exact absurd (by decide) hj
           | 15,hj => exact absurd (by decide) hj
           | 16,hj => exact absurd (by decide) hj
           | 17,hj => exact absurd (by decide) hj
           | j + 18,_ => exact rfl
         ·exact False.elim hC
         ·exact False.elim hC
         ·exact False.elim hC
         ·exact Bool.noConfusion hr
         ·exact False.elim hC
         ·exact Bool.noConfusion hr
         ·exact Bool.noConfusion hr
        | 1,_ =>
         rcases st with ⟨_ | b503,_ | x508,_ | _⟩
         ·exact Bool.noConfusion (hm 0 (by decide))
         ·exact False.elim hC
         ·exact False.elim hC
         ·exact False.elim hC
         ·dsimp only at hC
          have hC:=hC.pick2
          refine does_append (enc:=enc_weirref14_Move) (e:=95) (u:=95) (t:=93) (t2:=93) (sz:=4) (cp:=((Q439 t138.toNat).2)) (A:=((Q439 t138.toNat).1)) (bytes:=32) (xs:=(gt t424 t138)) (ys:=([(⟨t421,(gt t194 t255)⟩ : weirref14_Move)] : List weirref14_Move)) (s:=(.tmp 82)) (x:=(.tmp 89)) (xv:=.slice (some ⟨b503,0,none⟩) ([(⟨t421,(gt t194 t255)⟩ : weirref14_Move)] : List weirref14_Move).length 1) (info:=infoOf Try.prog 95) (z:=zeroOf Try.prog 95) (ycs:=([(⟨t421,(gt t194 t255)⟩ : weirref14_Move)] : List weirref14_Move).flatMap enc_weirref14_Move) hC (by kernel_rfl) (by kernel_rfl) (by kernel_rfl) (by kernel_rfl) (.inl (by kernel_rfl)) (by kernel_rfl) (by kernel_rfl) (by kernel_rfl) (by kernel_rfl) (by kernel_rfl) (by omega) len_weirref14_Move one_weirref14_Move (src_row (hC.row 1 rfl) (by omega) len_weirref14_Move) rfl g509 (by omega) ?_
          intro A505 c506 w2 h2
          have h2:=h2.pick5
          have h2:=h2.pick5
          have h2:=h2.pick5
          have h2:=h2.pick5
          have h2:=h2.pick5
          have h2:=h2.pick5
          refine ⟨(some b503,some (A505,c506),none),rfl,?_,?_,.inr rfl,h2⟩
          ·intro m hne; match m,hne with
           | 0,hne => exact rfl
           | 1,hne => exact absurd rfl hne
           | 2,hne => exact rfl
           | m + 3,_ => exact rfl
          ·intro j hj; match j,hj with
           | 0,hj => exact rfl
           | 1,hj => exact rfl
           | 2,hj => exact rfl
           | 3,hj => exact rfl
           | 4,hj => exact rfl
           | 5,hj => exact rfl
           | 6,hj => exact rfl
           | 7,hj => exact rfl
           | 8,hj => exact rfl
           | 9,hj => exact rfl
           | 10,hj => exact rfl
           | 11,hj => exact rfl
           | 12,hj => exact rfl
           | 13,hj => exact rfl
           | 14,hj => exact rfl
           | 15,hj => exact absurd (by decide) hj
           | 16,hj => exact absurd (by decide) hj
           | 17,hj => exact absurd (by decide) hj
           | j + 18,_ => exact rfl
         ·exact False.elim hC
         ·exact Bool.noConfusion hr
         ·exact Bool.noConfusion hr
        | 2,_ =>
         rcases st with ⟨_ | b503,_ | x508,_ | _⟩
         ·exact Bool.noConfusion (hm 0 (by decide))
         ·exact False.elim hC
         ·exact False.elim hC
         ·exact False.elim hC
         ·exact Bool.noConfusion (hm 1 (by decide))
         ·exact False.elim hC
         ·dsimp only at hC
          have hC:=hC.pick2
          refine does_storeEl (enc:=encH) (e:=93) (t:=93) (sz:=1) (cp:=Q438) (A:=Q437) (xs:=(hdl Q439 t424)) (x:=(.tmp 91)) (y:=(.tmp 90)) (el:=gt (hdl Q439 t424) t138) (el':=(x508.1,((gt t424 t138) ++ ([(⟨t421,(gt t194 t255)⟩ : weirref14_Move)] : List weirref14_Move)).length,x508.2)) (j:=t138) (off:=0) (b:=b487) (q:=p488) (v:=.slice x508.1 ((gt t424 t138) ++ ([(⟨t421,(gt t194 t255)⟩ : weirref14_Move)] : List weirref14_Move)).length x508.2) (vs:=[.slice x508.1 ((gt t424 t138) ++ ([(⟨t421,(gt t194 t255)⟩ : weirref14_Move)] : List weirref14_Move)).length x508.2]) (ad:=⟨b487,p488 + t138.toNat * 1,none⟩) hC (by kernel_rfl) (by kernel_rfl) (by kernel_rfl) (by simp) (by kernel_rfl) hA489 (hdl_g g480) rfl len_encH (by kernel_rfl) (by kernel_rfl) (by kernel_rfl) (Nat.le_of_ble_eq_true (by kernel_rfl)) (Nat.le_of_ble_eq_true (by kernel_rfl)) rfl ?_
          intro w2 h2
          have h2:=h2.pick5
          have h2:=h2.pick5
          have h2:=h2.pick5
          have h2:=h2.pick5
          have h2:=h2.pick5
          have h2:=h2.pick5
          refine ⟨(some b503,some x508,some ()),rfl,?_,?_,.inl rfl,h2⟩
          ·intro m hne; match m,hne with
           | 0,hne => exact rfl
           | 1,hne => exact rfl
           | 2,hne => exact absurd rfl hne
           | m + 3,_ => exact rfl
          ·intro j hj; match j,hj with
           | 0,hj => exact rfl
           | 1,hj => exact rfl
           | 2,hj => exact rfl
           | 3,hj => exact rfl
           | 4,hj => exact rfl
           | 5,hj => exact rfl
           | 6,hj => exact rfl
           | 7,hj => exact rfl
           | 8,hj => exact rfl
           | 9,hj => exact rfl
           | 10,hj => exact rfl
           | 11,hj => exact rfl
           | 12,hj => exact rfl
           | 13,hj => exact rfl
           | 14,hj => exact rfl
           | 15,hj => exact rfl
           | 16,hj => exact rfl
           | 17,hj => exact absurd (by decide) hj
           | j + 18,_ => exact rfl
         ·exact Bool.noConfusion hr
        | k + 3,hk => exact absurd hk (by simp)
       intro st514 w511 hS512 hr513
       rcases st514 with ⟨_ | b503,_ | x508,_ | _⟩
       ·exact Bool.noConfusion (hr513 0 (Nat.lt_of_sub_eq_succ rfl))
       ·exact Bool.noConfusion (hr513 0 (Nat.lt_of_sub_eq_succ rfl))
       ·exact Bool.noConfusion (hr513 0 (Nat.lt_of_sub_eq_succ rfl))
       ·exact Bool.noConfusion (hr513 0 (Nat.lt_of_sub_eq_succ rfl))
       ·exact Bool.noConfusion (hr513 1 (Nat.lt_of_sub_eq_succ rfl))
       ·exact Bool.noConfusion (hr513 1 (Nat.lt_of_sub_eq_succ rfl))
       ·exact Bool.noConfusion (hr513 2 (Nat.lt_of_sub_eq_succ rfl))
       replace hS512 : St w0 Z (xrow Q437 Q438 93 1 ((setl (hdl Q439 t424) t138 (x508.1,((gt t424 t138) ++ ([(⟨t421,(gt t194 t255)⟩ : weirref14_Move)] : List weirref14_Move)).length,x508.2)).flatMap encH)::xrow x508.1 x508.2 95 4 (((gt t424 t138) ++ ([(⟨t421,(gt t194 t255)⟩ : weirref14_Move)] : List weirref14_Move)).flatMap enc_weirref14_Move)::xrow (some ⟨b503,0,none⟩) 1 95 4 (([(⟨t421,(gt t194 t255)⟩ : weirref14_Move)] : List weirref14_Move).flatMap enc_weirref14_Move)::xels (fun k => False ∨ k = t138.toNat) Q439 95 4 enc_weirref14_Move t424::xblk b14 43 ([.slice Q433 t422.length Q434,.slice Q435 t423.length Q436,.slice Q437 t424.length Q438,.slice Q440 t425.length Q441,.slice Q442 t426.length Q443,.slice Q444 t427.length Q445,.slice Q446 t428.length Q447,.bool t429,.map (some b9)])::xrow Q197 Q198 88 3 (t194.flatMap enc_api_Pick)::gs495) w511:=hS512
       subst hg496
       have hS515:=hS512.pick3
       have hS516:=hS515.pick2
       have hS517:=hS516.pick2
       have hS518:=hS517.rrBack g480
       refine rF [none,none,none,none,none,none,none,none,none,none,none,none,none,none,none,none,none,none,none,none,none,none,none,none,none,none,none,none,none,none,none,none,none,none,none,none,none,none,none,none,none,none,none,none,none,none,none,none,none,none,none,none,none,none,none,none,none,none,none,none,none,none,none,none,none,none,none,none,none,none,none,none,none,none,none,none,some (.slice Q437 t424.length Q438),none,none,some (.slice Q437 t424.length Q438),none,none,none,none,none,none,none,none,none,none,none,none,none] ?_
       refine Runs.refill (m':=[none,none,none,none,none,none,none,none,none,none,none,none,none,none,none,none,none,none,none,none,none,none,none,none,none,none,none,none,none,none,none,none,none,none,none,none,none,none,none,none,none,none,none,none,none,none,none,none,none,none,none,none,none,none,none,none,none,none,none,none,none,none,none,none,none,none,none,none,none,none,none,none,none,none,none,none,some (.slice Q437 (setl t424 t138 ((gt t424 t138) ++ ([(⟨t421,(gt t194 t255)⟩ : weirref14_Move)] : List weirref14_Move))).length Q438),none,none,some (.slice Q437 (setl t424 t138 ((gt t424 t138) ++ ([(⟨t421,(gt t194 t255)⟩ : weirref14_Move)] : List weirref14_Move))).length Q438),none,none,none,none,none,none,none,none,none,none,none,none,none]) (by simp only [setl_len]) ?_
       have hS519:=hS518.pick2
       have hS520:=hS519.eqblk (cs':=[.slice Q433 t422.length Q434,.slice Q435 t423.length Q436,.slice Q437 (setl t424 t138 ((gt t424 t138) ++ ([(⟨t421,(gt t194 t255)⟩ : weirref14_Move)] : List weirref14_Move))).length Q438,.slice Q440 t425.length Q441,.slice Q442 t426.length Q443,.slice Q444 t427.length Q445,.slice Q446 t428.length Q447,.bool t429,.map (some b9)]) (by simp only [setl_len])
       refine sR 6 td36 ?_
       have hS521:=hS520.pick2
       have hS522:=hS521.drop
       have hS523:=hS522.pick2
       have hS524:=hS523.pick9
       have hS525:=hS524.pick9
       have hS526:=hS525.pick9
       have hS527:=hS526.pick9
       have hS528:=hS527.pick9
       have hS529:=hS528.pick7
       have hS530:=hS529.pick9
       have hS531:=hS530.pick9
       have hS532:=hS531.pick9
       have hS533:=hS532.pick17
       have hS534:=hS533.pick16
       have hS535:=hS534.pick16
       have hS536:=hS535.pick16
       have hS537:=hS536.pick16
       have hS538:=hS537.pick16
       have hS539:=hS538.pick16
       have hS540:=hS539.pick17
       refine sR 1 td37 ?_
       exact rF _ (ih296 (IntKind.i64.wrap (t255 + 1)) t431 t329 t432 t430 t422 t423 (setl t424 t138 ((gt t424 t138) ++ ([(⟨t421,(gt t194 t255)⟩ : weirref14_Move)] : List weirref14_Move))) t425 t426 t427 t428 t429 _ hp510 he294 _ Q433 Q434 Q435 Q436 Q437 Q438 ((upd Q439 t138.toNat (x508.1,x508.2))) Q440 Q441 Q442 Q443 Q444 Q445 Q446 Q447 _ hS540)
      refine sR 9 td36 ?_
      have hS542:=hS476.pick16
      have hS543:=hS542.pick9
      have hS544:=hS543.pick8
      have hS545:=hS544.pick8
      have hS546:=hS545.pick8
      have hS547:=hS546.pick8
      have hS548:=hS547.pick8
      have hS549:=hS548.pick8
      have hS550:=hS549.pick8
      have hS551:=hS550.pick9
      have hS552:=hS551.pick17
      have hS553:=hS552.pick16
      have hS554:=hS553.pick16
      have hS555:=hS554.pick16
      have hS556:=hS555.pick16
      have hS557:=hS556.pick16
      have hS558:=hS557.pick16
      have hS559:=hS558.pick17
      refine sR 1 td37 ?_
      exact rF _ (ih296 (IntKind.i64.wrap (t255 + 1)) t431 t329 t432 t430 t422 t423 t424 t425 t426 t427 t428 t429 _ hp541 he294 _ Q433 Q434 Q435 Q436 Q437 Q438 (Q439) Q440 Q441 Q442 Q443 Q444 Q445 Q446 Q447 _ hS559)
     refine sR 3 td34 ?_
     have hS561:=hS291.pick17
     have hS562:=hS561.drop
     exact rF _ (J252 t256 t258 t257 t260 t264 t268 t273 t277 t281 t285 t289 t259 ((Option.some.inj hp560).trans he294) _ A261 c262 A265 c266 A269 c270 (h272) A274 c275 A278 c279 A282 c283 A286 c287 _ hS562)
    have hS563:=hS212.pick17
    have hS564:=hS563.pick17
    have hS565:=hS564.pick17
    have hS566:=hS565.pick17
    have hS567:=hS566.pick17
    have hS568:=hS567.pick17
    have hS569:=hS568.pick17
    have hS570:=hS569.pick17
    have hS571:=hS570.pick17
    have hS572:=hS571.pick17
    have hS573:=hS572.pick16
    have hS574:=hS573.pick16
    have hS575:=hS574.pick16
    have hS576:=hS575.pick16
    have hS577:=hS576.pick16
    have hS578:=hS577.pick16
    have hS579:=hS578.pick17
    exact rF _ (L298 0 t195 t142 t141 t143 t144 t148 t152 t157 t161 t165 t169 t173 _ hv214 rfl _ A145 c146 A149 c150 A153 c154 (h156) A158 c159 A162 c163 A166 c167 A170 c171 _ hS579)
   refine sR 3 td29 ?_
   have hS581:=hS175.drop
   have hS582:=hS581.pick5
   have hS583:=hS582.pick5
   have hS584:=hS583.pick5
   have hS585:=hS584.pick5
   have hS586:=hS585.pick5
   have hS587:=hS586.pick5
   have hS588:=hS587.pick15
   have hS589:=hS588.pick15
   have hS590:=hS589.pick15
   have hS591:=hS590.pick15
   have hS592:=hS591.pick15
   have hS593:=hS592.pick15
   have hS594:=hS593.pick15
   have hS595:=hS594.pick15
   have hS596:=hS595.pick15
   have hS597:=hS596.pick15
   exact rF _ (J130 t144 t148 t152 t157 t161 t165 t169 t173 t143 t139 t140 t141 t142 ((Option.some.inj hp580).trans he178) _ A145 c146 A149 c150 A153 c154 (h156) A158 c159 A162 c163 A166 c167 A170 c171 _ hS597)
  have hS598:=hS89.pick8
  have hS599:=hS598.pick7
  have hS600:=hS599.pick7
  have hS601:=hS600.pick7
  have hS602:=hS601.pick7
  have hS603:=hS602.pick7
  have hS604:=hS603.pick7
  have hS605:=hS604.pick7
  have hS606:=hS605.pick8
  have hS607:=hS606.pick15
  have hS608:=hS607.pick15
  have hS609:=hS608.pick15
  have hS610:=hS609.pick15
  have hS611:=hS610.pick15
  have hS612:=hS611.pick15
  have hS613:=hS612.pick15
  have hS614:=hS613.pick16
  exact rF _ (L182 0 t44 a0_1c0vv_0m t45 a0_1c0vv_2m t43 t35 t36 t37 t38 t39 t40 t41 t42 _ hv91 rfl _ Q46 Q47 Q48 Q49 Q50 Q51 (Q52) Q53 Q54 Q55 Q56 Q57 Q58 Q59 Q60 _ hS614)

noncomputable def cd11 (p : List Nat) : Code := sub (bodyOf Try.f11) p
def explore_States.f (y43 : ByteArray) (a0_1c0vv_0m a0_1c0vv_1m a0_1c0vv_2m : List (ByteArray × Int)) (a0_1c0vv_3 : Bool) (a0_1c1v : weirlaw14_Net) : Option ByteArray :=
  some (y43)
theorem explore_States.ok {y43 : ByteArray} {a0_1c0vv_0m a0_1c0vv_1m a0_1c0vv_2m : List (ByteArray × Int)} {a0_1c0vv_3 : Bool} {a0_1c1v : weirlaw14_Net} {ba0_1c0 ba0_1c0v : Nat} {ba0_1c0vv_0 ba0_1c0vv_1 : Nat} {ba0_1c0vv_2 ba0_1c1 : Nat} {Aa0_1c1v_0 : Option Addr} {ca0_1c1v_0 : Nat} {Aa0_1c1v_1 : Option Addr} {ca0_1c1v_1 : Nat} {Aa0_1c1v_2 : Option Addr} {ca0_1c1v_2 : Nat} {q0 : ByteArray} (hp0 : explore_States.f y43 a0_1c0vv_0m a0_1c0vv_1m a0_1c0vv_2m a0_1c0vv_3 a0_1c1v = some q0) (hS0 : St w0 Z (xblk ba0_1c0 33 ([.pointer (some ⟨ba0_1c0v,0,none⟩)])::xblk ba0_1c0v 49 ([.map (some ba0_1c0vv_0),.map (some ba0_1c0vv_1),.map (some ba0_1c0vv_2),.bool a0_1c0vv_3])::xmap ba0_1c0vv_0 (a0_1c0vv_0m.map (kv Value.string (Value.int .i64)))::xmap ba0_1c0vv_1 (a0_1c0vv_1m.map (kv Value.string (Value.int .i64)))::xmap ba0_1c0vv_2 (a0_1c0vv_2m.map (kv Value.string (Value.int .i64)))::xblk ba0_1c1 26 ([.slice Aa0_1c1v_0 a0_1c1v.Next.length ca0_1c1v_0,.slice Aa0_1c1v_1 a0_1c1v.End.length ca0_1c1v_1,.slice Aa0_1c1v_2 a0_1c1v.Value.length ca0_1c1v_2,.int .i64 a0_1c1v.Start])::fs) w) (ha0_1c1v_0 : SlZ (repL (flat (encI .i64)) 1) 1 Z Aa0_1c1v_0 ca0_1c1v_0 a0_1c1v.Next) (ha0_1c1v_1 : SlZ (flat encB) 1 Z Aa0_1c1v_1 ca0_1c1v_1 a0_1c1v.End) (ha0_1c1v_2 : SlZ (flat (encI .i64)) 1 Z Aa0_1c1v_2 ca0_1c1v_2 a0_1c1v.Value) :
    Calls Try.prog 11 #[.agg #[.string y43,.func (.func 28) #[] #[.pointer (some ⟨ba0_1c0,0,none⟩),.pointer (some ⟨ba0_1c1,0,none⟩)],.func (.func 31) #[] #[.pointer (some ⟨ba0_1c1,0,none⟩),.pointer (some ⟨ba0_1c0,0,none⟩)],.func (.func 32) #[] #[.pointer (some ⟨ba0_1c0,0,none⟩),.pointer (some ⟨ba0_1c1,0,none⟩)]]] w (fun e w' => ∃ (Qb0 : Nat),e = .returned (.func (.func 34) #[] #[.pointer (some ⟨Qb0,0,none⟩)]) ∧ St w0 Z (xblk Qb0 32 ([.string q0,.func (.func 28) #[] #[.pointer (some ⟨ba0_1c0,0,none⟩),.pointer (some ⟨ba0_1c1,0,none⟩)],.func (.func 31) #[] #[.pointer (some ⟨ba0_1c1,0,none⟩),.pointer (some ⟨ba0_1c0,0,none⟩)],.func (.func 32) #[] #[.pointer (some ⟨ba0_1c0,0,none⟩),.pointer (some ⟨ba0_1c1,0,none⟩)]])::xblk ba0_1c0 33 ([.pointer (some ⟨ba0_1c0v,0,none⟩)])::xblk ba0_1c0v 49 ([.map (some ba0_1c0vv_0),.map (some ba0_1c0vv_1),.map (some ba0_1c0vv_2),.bool a0_1c0vv_3])::xmap ba0_1c0vv_0 (a0_1c0vv_0m.map (kv Value.string (Value.int .i64)))::xmap ba0_1c0vv_1 (a0_1c0vv_1m.map (kv Value.string (Value.int .i64)))::xmap ba0_1c0vv_2 (a0_1c0vv_2m.map (kv Value.string (Value.int .i64)))::xblk ba0_1c1 26 ([.slice Aa0_1c1v_0 a0_1c1v.Next.length ca0_1c1v_0,.slice Aa0_1c1v_1 a0_1c1v.End.length ca0_1c1v_1,.slice Aa0_1c1v_2 a0_1c1v.Value.length ca0_1c1v_2,.int .i64 a0_1c1v.Start])::fs) w'):=by
  refine calls_abs ?_; intro R hR
  unfold explore_States.f at hp0
  refine calls_of_runs (fn:=Try.f11) (c:=cd11 []) Try.func11 (by kernel_rfl) (al:=[.agg #[.string y43,.func (.func 28) #[] #[.pointer (some ⟨ba0_1c0,0,none⟩),.pointer (some ⟨ba0_1c1,0,none⟩)],.func (.func 31) #[] #[.pointer (some ⟨ba0_1c1,0,none⟩),.pointer (some ⟨ba0_1c0,0,none⟩)],.func (.func 32) #[] #[.pointer (some ⟨ba0_1c0,0,none⟩),.pointer (some ⟨ba0_1c1,0,none⟩)]]]) rfl (n:=3) rfl ?_
  refine sR 2 [.inRegion (opsOf (cd11 [0])) [0,1],.code (cd11 [1])] ?_
  refine r_box (c:=(cd11 [0])) (i:=0) (d:=(some 1)) (ty:=0) (x:=(.tmp 0)) (v:=.agg #[.string y43,.func (.func 28) #[] #[.pointer (some ⟨ba0_1c0,0,none⟩),.pointer (some ⟨ba0_1c1,0,none⟩)],.func (.func 31) #[] #[.pointer (some ⟨ba0_1c1,0,none⟩),.pointer (some ⟨ba0_1c0,0,none⟩)],.func (.func 32) #[] #[.pointer (some ⟨ba0_1c0,0,none⟩),.pointer (some ⟨ba0_1c1,0,none⟩)]]) (t:=32) (cs:=[.string y43,.func (.func 28) #[] #[.pointer (some ⟨ba0_1c0,0,none⟩),.pointer (some ⟨ba0_1c1,0,none⟩)],.func (.func 31) #[] #[.pointer (some ⟨ba0_1c1,0,none⟩),.pointer (some ⟨ba0_1c0,0,none⟩)],.func (.func 32) #[] #[.pointer (some ⟨ba0_1c0,0,none⟩),.pointer (some ⟨ba0_1c1,0,none⟩)]]) hS0 (by kernel_rfl) (by kernel_rfl) (by kernel_rfl) (by kernel_rfl) ?_
  intro b1 w2 hS3
  refine sR 7 [.code (cd11 [1,1])] ?_
  refine rR (.func (.func 34) #[] #[.pointer (some ⟨b1,0,none⟩)]) Try.func11 ?_
  cases Option.some.inj hp0
  exact hR _ _ ⟨b1,rfl,hS3⟩

noncomputable def cd35 (p : List Nat) : Code := sub (bodyOf Try.f35) p
def explore_walk.f (y43 : ByteArray) (a0_1c0vv_0m a0_1c0vv_1m a0_1c0vv_2m : List (ByteArray × Int)) (a0_1c0vv_3 : Bool) (a0_1c1v : weirlaw14_Net) : Option ByteArray :=
  some (y43)
theorem explore_walk.ok {y43 : ByteArray} {a0_1c0vv_0m a0_1c0vv_1m a0_1c0vv_2m : List (ByteArray × Int)} {a0_1c0vv_3 : Bool} {a0_1c1v : weirlaw14_Net} {ba0_1c0 ba0_1c0v : Nat} {ba0_1c0vv_0 ba0_1c0vv_1 : Nat} {ba0_1c0vv_2 ba0_1c1 : Nat} {Aa0_1c1v_0 : Option Addr} {ca0_1c1v_0 : Nat} {Aa0_1c1v_1 : Option Addr} {ca0_1c1v_1 : Nat} {Aa0_1c1v_2 : Option Addr} {ca0_1c1v_2 : Nat} {q0 : ByteArray} (hp0 : explore_walk.f y43 a0_1c0vv_0m a0_1c0vv_1m a0_1c0vv_2m a0_1c0vv_3 a0_1c1v = some q0) (hS0 : St w0 Z (xblk ba0_1c0 33 ([.pointer (some ⟨ba0_1c0v,0,none⟩)])::xblk ba0_1c0v 49 ([.map (some ba0_1c0vv_0),.map (some ba0_1c0vv_1),.map (some ba0_1c0vv_2),.bool a0_1c0vv_3])::xmap ba0_1c0vv_0 (a0_1c0vv_0m.map (kv Value.string (Value.int .i64)))::xmap ba0_1c0vv_1 (a0_1c0vv_1m.map (kv Value.string (Value.int .i64)))::xmap ba0_1c0vv_2 (a0_1c0vv_2m.map (kv Value.string (Value.int .i64)))::xblk ba0_1c1 26 ([.slice Aa0_1c1v_0 a0_1c1v.Next.length ca0_1c1v_0,.slice Aa0_1c1v_1 a0_1c1v.End.length ca0_1c1v_1,.slice Aa0_1c1v_2 a0_1c1v.Value.length ca0_1c1v_2,.int .i64 a0_1c1v.Start])::fs) w) (ha0_1c1v_0 : SlZ (repL (flat (encI .i64)) 1) 1 Z Aa0_1c1v_0 ca0_1c1v_0 a0_1c1v.Next) (ha0_1c1v_1 : SlZ (flat encB) 1 Z Aa0_1c1v_1 ca0_1c1v_1 a0_1c1v.End) (ha0_1c1v_2 : SlZ (flat (encI .i64)) 1 Z Aa0_1c1v_2 ca0_1c1v_2 a0_1c1v.Value) :
    Calls Try.prog 35 #[.agg #[.string y43,.func (.func 28) #[] #[.pointer (some ⟨ba0_1c0,0,none⟩),.pointer (some ⟨ba0_1c1,0,none⟩)],.func (.func 31) #[] #[.pointer (some ⟨ba0_1c1,0,none⟩),.pointer (some ⟨ba0_1c0,0,none⟩)],.func (.func 32) #[] #[.pointer (some ⟨ba0_1c0,0,none⟩),.pointer (some ⟨ba0_1c1,0,none⟩)]],.nilFunc] w (fun e w' => ∃ (Qb0 : Nat) (Qb1 : Nat),e = .returned (.func (.func 44) #[] #[.pointer (some ⟨Qb0,0,none⟩),.pointer (some ⟨Qb1,0,none⟩)]) ∧ St w0 Z (xblk Qb0 32 ([.string q0,.func (.func 28) #[] #[.pointer (some ⟨ba0_1c0,0,none⟩),.pointer (some ⟨ba0_1c1,0,none⟩)],.func (.func 31) #[] #[.pointer (some ⟨ba0_1c1,0,none⟩),.pointer (some ⟨ba0_1c0,0,none⟩)],.func (.func 32) #[] #[.pointer (some ⟨ba0_1c0,0,none⟩),.pointer (some ⟨ba0_1c1,0,none⟩)]])::xblk Qb1 130 ([.nilFunc])::xblk ba0_1c0 33 ([.pointer (some ⟨ba0_1c0v,0,none⟩)])::xblk ba0_1c0v 49 ([.map (some ba0_1c0vv_0),.map (some ba0_1c0vv_1),.map (some ba0_1c0vv_2),.bool a0_1c0vv_3])::xmap ba0_1c0vv_0 (a0_1c0vv_0m.map (kv Value.string (Value.int .i64)))::xmap ba0_1c0vv_1 (a0_1c0vv_1m.map (kv Value.string (Value.int .i64)))::xmap ba0_1c0vv_2 (a0_1c0vv_2m.map (kv Value.string (Value.int .i64)))::xblk ba0_1c1 26 ([.slice Aa0_1c1v_0 a0_1c1v.Next.length ca0_1c1v_0,.slice Aa0_1c1v_1 a0_1c1v.End.length ca0_1c1v_1,.slice Aa0_1c1v_2 a0_1c1v.Value.length ca0_1c1v_2,.int .i64 a0_1c1v.Start])::fs) w'):=by
  refine calls_abs ?_; intro R hR
  unfold explore_walk.f at hp0
  refine calls_of_runs (fn:=Try.f35) (c:=cd35 []) Try.func35 (by kernel_rfl) (al:=[.agg #[.string y43,.func (.func 28) #[] #[.pointer (some ⟨ba0_1c0,0,none⟩),.pointer (some ⟨ba0_1c1,0,none⟩)],.func (.func 31) #[] #[.pointer (some ⟨ba0_1c1,0,none⟩),.pointer (some ⟨ba0_1c0,0,none⟩)],.func (.func 32) #[] #[.pointer (some ⟨ba0_1c0,0,none⟩),.pointer (some ⟨ba0_1c1,0,none⟩)]],.nilFunc]) rfl (n:=4) rfl ?_
  refine sR 2 [.inRegion (opsOf (cd35 [0])) [0,1,2],.code (cd35 [1])] ?_
  refine r_box (c:=(cd35 [0])) (i:=0) (d:=(some 2)) (ty:=0) (x:=(.tmp 0)) (v:=.agg #[.string y43,.func (.func 28) #[] #[.pointer (some ⟨ba0_1c0,0,none⟩),.pointer (some ⟨ba0_1c1,0,none⟩)],.func (.func 31) #[] #[.pointer (some ⟨ba0_1c1,0,none⟩),.pointer (some ⟨ba0_1c0,0,none⟩)],.func (.func 32) #[] #[.pointer (some ⟨ba0_1c0,0,none⟩),.pointer (some ⟨ba0_1c1,0,none⟩)]]) (t:=32) (cs:=[.string y43,.func (.func 28) #[] #[.pointer (some ⟨ba0_1c0,0,none⟩),.pointer (some ⟨ba0_1c1,0,none⟩)],.func (.func 31) #[] #[.pointer (some ⟨ba0_1c1,0,none⟩),.pointer (some ⟨ba0_1c0,0,none⟩)],.func (.func 32) #[] #[.pointer (some ⟨ba0_1c0,0,none⟩),.pointer (some ⟨ba0_1c1,0,none⟩)]]) hS0 (by kernel_rfl) (by kernel_rfl) (by kernel_rfl) (by kernel_rfl) ?_
  intro b1 w2 hS3
  refine r_box (c:=(cd35 [0])) (i:=1) (d:=(some 3)) (ty:=0) (x:=(.tmp 1)) (v:=.nilFunc) (t:=130) (cs:=[.nilFunc]) hS3 (by kernel_rfl) (by kernel_rfl) (by kernel_rfl) (by kernel_rfl) ?_
  intro b5 w6 hS7
  refine sR 7 [.code (cd35 [1,1])] ?_
  have hS9:=hS7.pick7
  have hS10:=hS9.pick7
  have hS11:=hS10.pick7
  have hS12:=hS11.pick7
  have hS13:=hS12.pick7
  have hS14:=hS13.pick7
  have hS15:=hS14.pick6
  have hS16:=hS15.pick7
  refine rR (.func (.func 44) #[] #[.pointer (some ⟨b1,0,none⟩),.pointer (some ⟨b5,0,none⟩)]) Try.func35 ?_
  cases Option.some.inj hp0
  exact hR _ _ ⟨b1,b5,rfl,hS16⟩

noncomputable def cd3 (p : List Nat) : Code := sub (bodyOf Try.f3) p
abbrev p3_0:=cd3 [1,1,1,1,1,1,1,0,1,0,0,1,0,0,1,0,1,0,1,0,1,1,0,1,0,1,0,1,0,0]
abbrev p3_1:=cd3 [1,1,1,1,1,1,1,0,1,0,0,1,0,0,1,0,1,0,1,0,1,1,0,1,0,1,0,1,0,1]
abbrev p3_2:=cd3 [1,1,1,1,1,1,1,0,1,0,0,1,0,0,1,0,1,0,1,0,1,1,0,1,0,1,0,1,0,1,0,0,1,0,1]
abbrev p3_3:=cd3 [1,1,1,1,1,1,1,0,1,0,0,1,0,0,1,0,1,0,1,0,1,1,0,1,0,1,0,1,0,1,0,0,0]
abbrev p3_5:=cd3 [1,1,1,1,1,1,1,0,1,0,0,1,0,0,1,0,1,0,1,0,1,1,0,1,0,1,0,1,0,1,0,1]
abbrev p3_6:=cd3 [1,1,1,1,1,1,1,0,1,0,0,1,0,0,1,0,1,0,1,0,1,1,0,1,0,1,0,1,0,1,0,0,1,0,0]
abbrev td40:List Item:=[.inBlock 7]
abbrev td41:List Item:=.code p3_5::td40
abbrev td42:List Item:=.code (cd3 [1,1,1,1,1,1,1,0,1,0,0,1,0,0,1,0,1,0,1,0,1,1,0,1,0,1,0,1,0,1,0,0,1])::td41
abbrev td43:List Item:=.code p3_2::td41
def weirlaw14_ExploreStates_r_1.f (a0 : ByteArray) (a1 : Int) (a2v6v : Bool) (a2v9v_0 : List ByteArray) (a2v9v_1 : List Int) (a2v9v_2 : List (List weirref14_Move)) (a2v9v_3 : List Bool) (a2v9v_4 : List api_Final) (a2v9v_5 : List Int) (a2v9v_6 : List api_Pick) (a2v9v_7 : Bool) (a2v9v_8m : List (ByteArray × Int)) (a2v18v : Int) : Option (Int × Bool × Int) :=
  (if (decide (a2v18v ≥ (a2v9v_0.length : Int))) = true then some ((1,false,a2v18v)) else (if 0 ≤ a2v18v ∧ a2v18v < (a2v9v_0.length : Int) then (if (!seq a0 (gt a2v9v_0 a2v18v)) = true then some ((1,false,a2v18v)) else some ((0,a2v6v,(IntKind.i64.wrap (a2v18v + 1))))) else none))
theorem weirlaw14_ExploreStates_r_1.ok (a0 : ByteArray) (a1 : Int) (a2v6v : Bool) (a2v9v_0 : List ByteArray) (a2v9v_1 : List Int) (a2v9v_2 : List (List weirref14_Move)) (a2v9v_3 : List Bool) (a2v9v_4 : List api_Final) (a2v9v_5 : List Int) (a2v9v_6 : List api_Pick) (a2v9v_7 : Bool) (a2v9v_8m : List (ByteArray × Int)) (a2v18v : Int) (La2 Da2 : Nat) (la2 : List Value) (ba2v6 ba2v9 : Nat) (Aa2v9v_0 : Option Addr) (ca2v9v_0 : Nat) (Aa2v9v_1 : Option Addr) (ca2v9v_1 : Nat) (Aa2v9v_2 : Option Addr) (ca2v9v_2 : Nat) (Aa2v9v_3 : Option Addr) (ca2v9v_3 : Nat) (Aa2v9v_4 : Option Addr) (ca2v9v_4 : Nat) (Aa2v9v_5 : Option Addr) (ca2v9v_5 : Nat) (Aa2v9v_6 : Option Addr) (ca2v9v_6 ba2v9v_8 ba2v18 : Nat) (hS0 : St w0 Z (xlp La2 3 (fill (mk 165 [(6,.pointer (some ⟨ba2v6,0,none⟩)),(9,.pointer (some ⟨ba2v9,0,none⟩)),(18,.pointer (some ⟨ba2v18,0,none⟩))]) la2) #[107,108] p3_0 p3_1 Da2 [p3_2] 0::xblk ba2v6 4 ([.bool a2v6v])::xblk ba2v9 43 ([.slice Aa2v9v_0 a2v9v_0.length ca2v9v_0,.slice Aa2v9v_1 a2v9v_1.length ca2v9v_1,.slice Aa2v9v_2 a2v9v_2.length ca2v9v_2,.slice Aa2v9v_3 a2v9v_3.length ca2v9v_3,.slice Aa2v9v_4 a2v9v_4.length ca2v9v_4,.slice Aa2v9v_5 a2v9v_5.length ca2v9v_5,.slice Aa2v9v_6 a2v9v_6.length ca2v9v_6,.bool a2v9v_7,.map (some ba2v9v_8)])::xmap ba2v9v_8 (a2v9v_8m.map (kv Value.string (Value.int .i64)))::xblk ba2v18 3 ([.int .i64 a2v18v])::fs) w) (ha2v9v_0 : SlZ (flat encS) 1 Z Aa2v9v_0 ca2v9v_0 a2v9v_0) (ha2v9v_1 : SlZ (flat (encI .i64)) 1 Z Aa2v9v_1 ca2v9v_1 a2v9v_1) (ha2v9v_2 : SlZ (repL (flat enc_weirref14_Move) 4) 1 Z Aa2v9v_2 ca2v9v_2 a2v9v_2) (ha2v9v_3 : SlZ (flat encB) 1 Z Aa2v9v_3 ca2v9v_3 a2v9v_3) (ha2v9v_4 : SlZ (flat enc_api_Final) 49 Z Aa2v9v_4 ca2v9v_4 a2v9v_4) (ha2v9v_5 : SlZ (flat (encI .i64)) 1 Z Aa2v9v_5 ca2v9v_5 a2v9v_5) (ha2v9v_6 : SlZ (flat enc_api_Pick) 3 Z Aa2v9v_6 ca2v9v_6 a2v9v_6) {q0 : Int} {q1 : Bool} {q2 : Int} (hp0 : weirlaw14_ExploreStates_r_1.f a0 a1 a2v6v a2v9v_0 a2v9v_1 a2v9v_2 a2v9v_3 a2v9v_4 a2v9v_5 a2v9v_6 a2v9v_7 a2v9v_8m a2v18v = some (q0,q1,q2)) :
    Rounds Try.prog La2 3 (fill (mk 165 [(6,.pointer (some ⟨ba2v6,0,none⟩)),(9,.pointer (some ⟨ba2v9,0,none⟩)),(18,.pointer (some ⟨ba2v18,0,none⟩)),(107,.string a0),(108,.int .i64 a1)]) la2).toArray p3_0 p3_1 w (fun e w' => e = .returned (.bool (decide (q0 = 0))) ∧ St w0 Z (xlp La2 3 (fill (mk 165 [(6,.pointer (some ⟨ba2v6,0,none⟩)),(9,.pointer (some ⟨ba2v9,0,none⟩)),(18,.pointer (some ⟨ba2v18,0,none⟩))]) la2) #[107,108] p3_0 p3_1 Da2 [p3_2] q0::xblk ba2v6 4 ([.bool q1])::xblk ba2v9 43 ([.slice Aa2v9v_0 a2v9v_0.length ca2v9v_0,.slice Aa2v9v_1 a2v9v_1.length ca2v9v_1,.slice Aa2v9v_2 a2v9v_2.length ca2v9v_2,.slice Aa2v9v_3 a2v9v_3.length ca2v9v_3,.slice Aa2v9v_4 a2v9v_4.length ca2v9v_4,.slice Aa2v9v_5 a2v9v_5.length ca2v9v_5,.slice Aa2v9v_6 a2v9v_6.length ca2v9v_6,.bool a2v9v_7,.map (some ba2v9v_8)])::xmap ba2v9v_8 (a2v9v_8m.map (kv Value.string (Value.int .i64)))::xblk ba2v18 3 ([.int .i64 q2])::fs) w'):=by
  refine rounds_abs ?_; intro R hR
  unfold weirlaw14_ExploreStates_r_1.f at hp0
  refine rounds_of_runs ?_
  refine sR 3 [.beginRound,.code p3_1] ?_
  refine r_begin hS0 ?_
  intro w1 hS2
  refine sR 4 (iR p3_3 0 14::td42) ?_
  refine rL1 3 (.tmp 18) 0 (hS2.blk 4 rfl) ?_
  refine sR 1 (iR p3_3 2 12::td42) ?_
  refine rL1 36 (.tmp 110) 0 (hS2.blk 2 rfl) ?_
  refine sI 2 (iR p3_3 5 9::td42) 113 hp0 (fun hp5 => ?_) fun hp14 => ?_
  ·refine sR 13 (.inRegion (opsOf p3_6) [0]::td43) ?_
   have hS6:=hS2.pick1
   refine rS 4 (.tmp 6) (.const (.bool false)) 0 (.bool false) [.bool false] [.bool false] hS6 ?_
   intro w7 hS8
   refine sR 1 td43 ?_
   refine r_isret (c:=p3_2) (by kernel_rfl) ?_
   have hS9:=hS8.pick1
   refine r_rret hS9 [p3_2] 0 (by kernel_rfl) ?_
   intro w10 hS11
   have hS12 : St w0 Z (xlp La2 3 (fill (mk 165 [(6,.pointer (some ⟨ba2v6,0,none⟩)),(9,.pointer (some ⟨ba2v9,0,none⟩)),(18,.pointer (some ⟨ba2v18,0,none⟩))]) la2) #[107,108] p3_0 p3_1 Da2 [p3_2] 1::xblk ba2v6 4 ([.bool false])::xblk ba2v9 43 ([.slice Aa2v9v_0 a2v9v_0.length ca2v9v_0,.slice Aa2v9v_1 a2v9v_1.length ca2v9v_1,.slice Aa2v9v_2 a2v9v_2.length ca2v9v_2,.slice Aa2v9v_3 a2v9v_3.length ca2v9v_3,.slice Aa2v9v_4 a2v9v_4.length ca2v9v_4,.slice Aa2v9v_5 a2v9v_5.length ca2v9v_5,.slice Aa2v9v_6 a2v9v_6.length ca2v9v_6,.bool a2v9v_7,.map (some ba2v9v_8)])::xmap ba2v9v_8 (a2v9v_8m.map (kv Value.string (Value.int .i64)))::xblk ba2v18 3 ([.int .i64 a2v18v])::fs) w10:=hS11
   cases Option.some.inj hp5
   exact hR _ _ ⟨rfl,hS12⟩
  refine sR 3 (iR p3_3 8 6::td42) ?_
  refine rL1 36 (.tmp 116) 0 (hS2.blk 2 rfl) ?_
  refine rL1 3 (.tmp 18) 0 (hS2.blk 4 rfl) ?_
  obtain ⟨g15,hp16⟩:=ite_some hp14
  obtain ⟨b17,p18,hA19,hc20⟩:=ha2v9v_0.atF g15.1 g15.2
  refine r_indexAddr (c:=p3_3) (i:=10) (d:=(some 119)) (ty:=0) (t:=36) (e:=9) (n:=a2v9v_0.length) (cp:=ca2v9v_0) (sz:=1) (kk:=.i64) (x:=(.tmp 117)) (y:=(.tmp 118)) (b:=b17) (o':=p18) (j:=a2v18v) (by kernel_rfl) (by kernel_rfl) (slv (by kernel_rfl) hA19) (by kernel_rfl) (by kernel_rfl) (by kernel_rfl) g15.1 g15.2 ?_
  refine rL1 9 (.tmp 119) 0 (hc20.cells hS2) ?_
  refine sI 1 (.inRegion (opsOf p3_3) [13]::td42) 121 hp16 (fun hp23 => ?_) fun hp32 => ?_
  ·refine sR 5 (.inRegion (opsOf p3_6) [0]::td43) ?_
   have hS24:=hS2.pick1
   refine rS 4 (.tmp 6) (.const (.bool false)) 0 (.bool false) [.bool false] [.bool false] hS24 ?_
   intro w25 hS26
   refine sR 1 td43 ?_
   refine r_isret (c:=p3_2) (by kernel_rfl) ?_
   have hS27:=hS26.pick1
   refine r_rret hS27 [p3_2] 0 (by kernel_rfl) ?_
   intro w28 hS29
   have hS30 : St w0 Z (xlp La2 3 (fill (mk 165 [(6,.pointer (some ⟨ba2v6,0,none⟩)),(9,.pointer (some ⟨ba2v9,0,none⟩)),(18,.pointer (some ⟨ba2v18,0,none⟩))]) la2) #[107,108] p3_0 p3_1 Da2 [p3_2] 1::xblk ba2v6 4 ([.bool false])::xblk ba2v9 43 ([.slice Aa2v9v_0 a2v9v_0.length ca2v9v_0,.slice Aa2v9v_1 a2v9v_1.length ca2v9v_1,.slice Aa2v9v_2 a2v9v_2.length ca2v9v_2,.slice Aa2v9v_3 a2v9v_3.length ca2v9v_3,.slice Aa2v9v_4 a2v9v_4.length ca2v9v_4,.slice Aa2v9v_5 a2v9v_5.length ca2v9v_5,.slice Aa2v9v_6 a2v9v_6.length ca2v9v_6,.bool a2v9v_7,.map (some ba2v9v_8)])::xmap ba2v9v_8 (a2v9v_8m.map (kv Value.string (Value.int .i64)))::xblk ba2v18 3 ([.int .i64 a2v18v])::fs) w28:=hS29
   cases Option.some.inj hp23
   exact hR _ _ ⟨rfl,hS30⟩
  refine sR 5 (.inRegion (opsOf p3_5) [0,1,2]::td40) ?_
  refine rL1 3 (.tmp 18) 0 (hS2.blk 4 rfl) ?_
  refine sR 1 (.inRegion (opsOf p3_5) [2]::td40) ?_
  have hS33:=hS2.pick4
  refine rS 3 (.tmp 18) (.tmp 124) 0 (.int .i64 (IntKind.i64.wrap (a2v18v + 1))) [.int .i64 (IntKind.i64.wrap (a2v18v + 1))] [.int .i64 (IntKind.i64.wrap (a2v18v + 1))] hS33 ?_
  intro w34 hS35
  refine sR 2 [] ?_
  have hS36:=hS35.pick1
  refine r_rend hS36 [p3_2] ?_
  intro w37 hS38
  have hS39 : St w0 Z (xlp La2 3 (fill (mk 165 [(6,.pointer (some ⟨ba2v6,0,none⟩)),(9,.pointer (some ⟨ba2v9,0,none⟩)),(18,.pointer (some ⟨ba2v18,0,none⟩))]) la2) #[107,108] p3_0 p3_1 Da2 [p3_2] 0::xblk ba2v18 3 ([.int .i64 (IntKind.i64.wrap (a2v18v + 1))])::xblk ba2v6 4 ([.bool a2v6v])::xblk ba2v9 43 ([.slice Aa2v9v_0 a2v9v_0.length ca2v9v_0,.slice Aa2v9v_1 a2v9v_1.length ca2v9v_1,.slice Aa2v9v_2 a2v9v_2.length ca2v9v_2,.slice Aa2v9v_3 a2v9v_3.length ca2v9v_3,.slice Aa2v9v_4 a2v9v_4.length ca2v9v_4,.slice Aa2v9v_5 a2v9v_5.length ca2v9v_5,.slice Aa2v9v_6 a2v9v_6.length ca2v9v_6,.bool a2v9v_7,.map (some ba2v9v_8)])::xmap ba2v9v_8 (a2v9v_8m.map (kv Value.string (Value.int .i64)))::fs) w37:=hS38
  have hS40:=hS39.pick1
  have hS41:=hS40.pick4
  have hS42:=hS41.pick4
  have hS43:=hS42.pick4
  have hS44:=hS43.pick4
  cases Option.some.inj hp32
  exact hR _ _ ⟨rfl,hS44⟩

noncomputable def cd34 (p : List Nat) : Code := sub (bodyOf Try.f34) p
abbrev p34_0:=cd34 [1,1,0,0]
abbrev p34_1:=cd34 [1,1,0,1]
abbrev p34_2:=cd34 [1,1,0,1,0,1,0]
abbrev p34_3:=cd34 [1,1,0,1,0,0]
abbrev td44:List Item:=[.code (cd34 [1,1,0,1,0,1]),.inBlock 1]
def explore_States_1_r_1.f (a0 : ByteArray) (a1m : List (ByteArray × explore_visit)) (a2v2vc0v6v : Bool) (a2v2vc0v9v_0 : List ByteArray) (a2v2vc0v9v_1 : List Int) (a2v2vc0v9v_2 : List (List weirref14_Move)) (a2v2vc0v9v_3 : List Bool) (a2v2vc0v9v_4 : List api_Final) (a2v2vc0v9v_5 : List Int) (a2v2vc0v9v_6 : List api_Pick) (a2v2vc0v9v_7 : Bool) (a2v2vc0v9v_8m : List (ByteArray × Int)) (a2v2vc0v18v : Int) : Option (Int × Int × Bool × Int) :=
  (weirlaw14_ExploreStates_r_1.f a0 (((mget a1m a0).getD (⟨0,(⟨#[]⟩ : ByteArray),⟨0,0,0⟩⟩ : explore_visit)).depth) a2v2vc0v6v a2v2vc0v9v_0 a2v2vc0v9v_1 a2v2vc0v9v_2 a2v2vc0v9v_3 a2v2vc0v9v_4 a2v2vc0v9v_5 a2v2vc0v9v_6 a2v2vc0v9v_7 a2v2vc0v9v_8m a2v2vc0v18v >>= (fun (t4,t5,t6) => (if decide (t4 = 0) = true then some ((0,0,t5,t6)) else some ((1,t4,t5,t6)))))
theorem explore_States_1_r_1.ok (a0 : ByteArray) (a1m : List (ByteArray × explore_visit)) (a2v2vc0v6v : Bool) (a2v2vc0v9v_0 : List ByteArray) (a2v2vc0v9v_1 : List Int) (a2v2vc0v9v_2 : List (List weirref14_Move)) (a2v2vc0v9v_3 : List Bool) (a2v2vc0v9v_4 : List api_Final) (a2v2vc0v9v_5 : List Int) (a2v2vc0v9v_6 : List api_Pick) (a2v2vc0v9v_7 : Bool) (a2v2vc0v9v_8m : List (ByteArray × Int)) (a2v2vc0v18v : Int) (ba1 La2 Da2 : Nat) (la2 : List Value) (ba2v2 La2v2vc0 Da2v2vc0 : Nat) (la2v2vc0 : List Value) (ba2v2vc0v6 ba2v2vc0v9 : Nat) (Aa2v2vc0v9v_0 : Option Addr) (ca2v2vc0v9v_0 : Nat) (Aa2v2vc0v9v_1 : Option Addr) (ca2v2vc0v9v_1 : Nat) (Aa2v2vc0v9v_2 : Option Addr) (ca2v2vc0v9v_2 : Nat) (Aa2v2vc0v9v_3 : Option Addr) (ca2v2vc0v9v_3 : Nat) (Aa2v2vc0v9v_4 : Option Addr) (ca2v2vc0v9v_4 : Nat) (Aa2v2vc0v9v_5 : Option Addr) (ca2v2vc0v9v_5 : Nat) (Aa2v2vc0v9v_6 : Option Addr) (ca2v2vc0v9v_6 ba2v2vc0v9v_8 ba2v2vc0v18 : Nat) (hS0 : St w0 Z (xmap ba1 (a1m.map (kv Value.string (fun v => Value.agg (enc_explore_visit v).toArray)))::xlp La2 34 (fill (mk 17 [(2,.pointer (some ⟨ba2v2,0,none⟩))]) la2) #[7,8] p34_0 p34_1 Da2 [p34_2] 0::xblk ba2v2 96 ([.func (.yield La2v2vc0) #[] #[]])::xlp La2v2vc0 3 (fill (mk 165 [(6,.pointer (some ⟨ba2v2vc0v6,0,none⟩)),(9,.pointer (some ⟨ba2v2vc0v9,0,none⟩)),(18,.pointer (some ⟨ba2v2vc0v18,0,none⟩))]) la2v2vc0) #[107,108] p3_0 p3_1 Da2v2vc0 [p3_2] 0::xblk ba2v2vc0v6 4 ([.bool a2v2vc0v6v])::xblk ba2v2vc0v9 43 ([.slice Aa2v2vc0v9v_0 a2v2vc0v9v_0.length ca2v2vc0v9v_0,.slice Aa2v2vc0v9v_1 a2v2vc0v9v_1.length ca2v2vc0v9v_1,.slice Aa2v2vc0v9v_2 a2v2vc0v9v_2.length ca2v2vc0v9v_2,.slice Aa2v2vc0v9v_3 a2v2vc0v9v_3.length ca2v2vc0v9v_3,.slice Aa2v2vc0v9v_4 a2v2vc0v9v_4.length ca2v2vc0v9v_4,.slice Aa2v2vc0v9v_5 a2v2vc0v9v_5.length ca2v2vc0v9v_5,.slice Aa2v2vc0v9v_6 a2v2vc0v9v_6.length ca2v2vc0v9v_6,.bool a2v2vc0v9v_7,.map (some ba2v2vc0v9v_8)])::xmap ba2v2vc0v9v_8 (a2v2vc0v9v_8m.map (kv Value.string (Value.int .i64)))::xblk ba2v2vc0v18 3 ([.int .i64 a2v2vc0v18v])::fs) w) (ha2v2vc0v9v_0 : SlZ (flat encS) 1 Z Aa2v2vc0v9v_0 ca2v2vc0v9v_0 a2v2vc0v9v_0) (ha2v2vc0v9v_1 : SlZ (flat (encI .i64)) 1 Z Aa2v2vc0v9v_1 ca2v2vc0v9v_1 a2v2vc0v9v_1) (ha2v2vc0v9v_2 : SlZ (repL (flat enc_weirref14_Move) 4) 1 Z Aa2v2vc0v9v_2 ca2v2vc0v9v_2 a2v2vc0v9v_2) (ha2v2vc0v9v_3 : SlZ (flat encB) 1 Z Aa2v2vc0v9v_3 ca2v2vc0v9v_3 a2v2vc0v9v_3) (ha2v2vc0v9v_4 : SlZ (flat enc_api_Final) 49 Z Aa2v2vc0v9v_4 ca2v2vc0v9v_4 a2v2vc0v9v_4) (ha2v2vc0v9v_5 : SlZ (flat (encI .i64)) 1 Z Aa2v2vc0v9v_5 ca2v2vc0v9v_5 a2v2vc0v9v_5) (ha2v2vc0v9v_6 : SlZ (flat enc_api_Pick) 3 Z Aa2v2vc0v9v_6 ca2v2vc0v9v_6 a2v2vc0v9v_6) {q0 q1 : Int} {q2 : Bool} {q3 : Int} (hp0 : explore_States_1_r_1.f a0 a1m a2v2vc0v6v a2v2vc0v9v_0 a2v2vc0v9v_1 a2v2vc0v9v_2 a2v2vc0v9v_3 a2v2vc0v9v_4 a2v2vc0v9v_5 a2v2vc0v9v_6 a2v2vc0v9v_7 a2v2vc0v9v_8m a2v2vc0v18v = some (q0,q1,q2,q3)) :
    Rounds Try.prog La2 34 (fill (mk 17 [(2,.pointer (some ⟨ba2v2,0,none⟩)),(7,.string a0),(8,.map (some ba1))]) la2).toArray p34_0 p34_1 w (fun e w' => e = .returned (.bool (decide (q0 = 0))) ∧ St w0 Z (xmap ba1 (a1m.map (kv Value.string (fun v => Value.agg (enc_explore_visit v).toArray)))::xlp La2 34 (fill (mk 17 [(2,.pointer (some ⟨ba2v2,0,none⟩))]) la2) #[7,8] p34_0 p34_1 Da2 [p34_2] q0::xblk ba2v2 96 ([.func (.yield La2v2vc0) #[] #[]])::xlp La2v2vc0 3 (fill (mk 165 [(6,.pointer (some ⟨ba2v2vc0v6,0,none⟩)),(9,.pointer (some ⟨ba2v2vc0v9,0,none⟩)),(18,.pointer (some ⟨ba2v2vc0v18,0,none⟩))]) la2v2vc0) #[107,108] p3_0 p3_1 Da2v2vc0 [p3_2] q1::xblk ba2v2vc0v6 4 ([.bool q2])::xblk ba2v2vc0v9 43 ([.slice Aa2v2vc0v9v_0 a2v2vc0v9v_0.length ca2v2vc0v9v_0,.slice Aa2v2vc0v9v_1 a2v2vc0v9v_1.length ca2v2vc0v9v_1,.slice Aa2v2vc0v9v_2 a2v2vc0v9v_2.length ca2v2vc0v9v_2,.slice Aa2v2vc0v9v_3 a2v2vc0v9v_3.length ca2v2vc0v9v_3,.slice Aa2v2vc0v9v_4 a2v2vc0v9v_4.length ca2v2vc0v9v_4,.slice Aa2v2vc0v9v_5 a2v2vc0v9v_5.length ca2v2vc0v9v_5,.slice Aa2v2vc0v9v_6 a2v2vc0v9v_6.length ca2v2vc0v9v_6,.bool a2v2vc0v9v_7,.map (some ba2v2vc0v9v_8)])::xmap ba2v2vc0v9v_8 (a2v2vc0v9v_8m.map (kv Value.string (Value.int .i64)))::xblk ba2v2vc0v18 3 ([.int .i64 q3])::fs) w'):=by
  refine rounds_abs ?_; intro R hR
  unfold explore_States_1_r_1.f at hp0
  refine rounds_of_runs ?_
  refine sR 7 [.beginRound,.code p34_1] ?_
  have hS1:=hS0.pick1
  refine r_begin hS1 ?_
  intro w2 hS3
  refine sR 3 (iR p34_3 0 8::td44) ?_
  refine rL1 96 (.tmp 2) 0 (hS3.blk 2 rfl) ?_
  refine sR 3 (iR p34_3 4 4::td44) ?_
  refine rV (.lookup 100 (.tmp 11) (.tmp 12) false) (.agg (enc_explore_visit ((mget a1m a0).getD (⟨0,(⟨#[]⟩ : ByteArray),⟨0,0,0⟩⟩ : explore_visit))).toArray) (fun o ho _ => x_lookup1 (eK:=Value.string) (eV:=(fun v => Value.agg (enc_explore_visit v).toArray)) (dk:=.string) (b:=ba1) (t:=100) (kt:=9) (et:=102) (m:=a1m) (kk:=a0) (z:=(⟨0,(⟨#[]⟩ : ByteArray),⟨0,0,0⟩⟩ : explore_visit)) (hS3.at 1 rfl) key_str (by kernel_rfl) (by kernel_rfl) (by kernel_rfl) (by kernel_rfl) (by kernel_rfl) ho) ?_
  refine sR 1 (.inRegion (opsOf p34_3) [6,7]::td44) ?_
  obtain ⟨⟨t4,t5,t6⟩,hr7,hp8⟩:=bind_some' hp0
  try dsimp only at hp8
  have hS16:=hS3.pick7
  have hS17:=hS16.pick7
  have hS18:=hS17.pick7
  have hS19:=hS18.pick7
  have hS20:=hS19.pick7
  refine r_yield (c:=p34_3) (i:=6) (d:=(some 15)) (args:=#[.string a0,.int .i64 (((mget a1m a0).getD (⟨0,(⟨#[]⟩ : ByteArray),⟨0,0,0⟩⟩ : explore_visit)).depth)]) (hS20.lp 0 rfl) (by kernel_rfl) (by kernel_rfl) (by kernel_rfl) (by kernel_rfl) (weirlaw14_ExploreStates_r_1.ok a0 (((mget a1m a0).getD (⟨0,(⟨#[]⟩ : ByteArray),⟨0,0,0⟩⟩ : explore_visit)).depth) a2v2vc0v6v a2v2vc0v9v_0 a2v2vc0v9v_1 a2v2vc0v9v_2 a2v2vc0v9v_3 a2v2vc0v9v_4 a2v2vc0v9v_5 a2v2vc0v9v_6 a2v2vc0v9v_7 a2v2vc0v9v_8m a2v2vc0v18v La2v2vc0 Da2v2vc0 la2v2vc0 ba2v2vc0v6 ba2v2vc0v9 Aa2v2vc0v9v_0 ca2v2vc0v9v_0 Aa2v2vc0v9v_1 ca2v2vc0v9v_1 Aa2v2vc0v9v_2 ca2v2vc0v9v_2 Aa2v2vc0v9v_3 ca2v2vc0v9v_3 Aa2v2vc0v9v_4 ca2v2vc0v9v_4 Aa2v2vc0v9v_5 ca2v2vc0v9v_5 Aa2v2vc0v9v_6 ca2v2vc0v9v_6 ba2v2vc0v9v_8 ba2v2vc0v18 hS20 ha2v2vc0v9v_0 ha2v2vc0v9v_1 ha2v2vc0v9v_2 ha2v2vc0v9v_3 ha2v2vc0v9v_4 ha2v2vc0v9v_5 ha2v2vc0v9v_6 hr7) rfl (by kernel_rfl) ?_
  rintro _ w21 ⟨rfl,hS22⟩
  refine ⟨_,rfl,?_⟩
  refine r_split (decide (t4 = 0)) (fun h23 => ?_) (fun h24 => ?_)
  ·have hp25:=ite_t hp8 h23
   obtain rfl:=of_decide_eq_true h23
   refine sR 5 [] ?_
   have hS26:=hS22.pick5
   refine r_rend hS26 [p34_2] ?_
   intro w27 hS28
   have hS29 : St w0 Z (xlp La2 34 (fill (mk 17 [(2,.pointer (some ⟨ba2v2,0,none⟩))]) la2) #[7,8] p34_0 p34_1 Da2 [p34_2] 0::xlp La2v2vc0 3 (fill (mk 165 [(6,.pointer (some ⟨ba2v2vc0v6,0,none⟩)),(9,.pointer (some ⟨ba2v2vc0v9,0,none⟩)),(18,.pointer (some ⟨ba2v2vc0v18,0,none⟩))]) la2v2vc0) #[107,108] p3_0 p3_1 Da2v2vc0 [p3_2] 0::xblk ba2v2vc0v6 4 ([.bool t5])::xblk ba2v2vc0v9 43 ([.slice Aa2v2vc0v9v_0 a2v2vc0v9v_0.length ca2v2vc0v9v_0,.slice Aa2v2vc0v9v_1 a2v2vc0v9v_1.length ca2v2vc0v9v_1,.slice Aa2v2vc0v9v_2 a2v2vc0v9v_2.length ca2v2vc0v9v_2,.slice Aa2v2vc0v9v_3 a2v2vc0v9v_3.length ca2v2vc0v9v_3,.slice Aa2v2vc0v9v_4 a2v2vc0v9v_4.length ca2v2vc0v9v_4,.slice Aa2v2vc0v9v_5 a2v2vc0v9v_5.length ca2v2vc0v9v_5,.slice Aa2v2vc0v9v_6 a2v2vc0v9v_6.length ca2v2vc0v9v_6,.bool a2v2vc0v9v_7,.map (some ba2v2vc0v9v_8)])::xmap ba2v2vc0v9v_8 (a2v2vc0v9v_8m.map (kv Value.string (Value.int .i64)))::xblk ba2v2vc0v18 3 ([.int .i64 t6])::xmap ba1 (a1m.map (kv Value.string (fun v => Value.agg (enc_explore_visit v).toArray)))::xblk ba2v2 96 ([.func (.yield La2v2vc0) #[] #[]])::fs) w27:=hS28
   have hS30:=hS29.pick5
   have hS31:=hS30.pick5
   have hS32:=hS31.pick5
   have hS33:=hS32.pick5
   have hS34:=hS33.pick5
   have hS35:=hS34.pick7
   have hS36:=hS35.pick6
   have hS37:=hS36.pick7
   cases Option.some.inj hp25
   exact hR _ _ ⟨rfl,hS37⟩
  have hp39:=ite_f hp8 h24
  refine sR 3 [.code p34_2,.inBlock 1] ?_
  have hS40:=hS22.pick5
  refine r_rret hS40 [p34_2] 0 (by kernel_rfl) ?_
  intro w41 hS42
  have hS43 : St w0 Z (xlp La2 34 (fill (mk 17 [(2,.pointer (some ⟨ba2v2,0,none⟩))]) la2) #[7,8] p34_0 p34_1 Da2 [p34_2] 1::xlp La2v2vc0 3 (fill (mk 165 [(6,.pointer (some ⟨ba2v2vc0v6,0,none⟩)),(9,.pointer (some ⟨ba2v2vc0v9,0,none⟩)),(18,.pointer (some ⟨ba2v2vc0v18,0,none⟩))]) la2v2vc0) #[107,108] p3_0 p3_1 Da2v2vc0 [p3_2] t4::xblk ba2v2vc0v6 4 ([.bool t5])::xblk ba2v2vc0v9 43 ([.slice Aa2v2vc0v9v_0 a2v2vc0v9v_0.length ca2v2vc0v9v_0,.slice Aa2v2vc0v9v_1 a2v2vc0v9v_1.length ca2v2vc0v9v_1,.slice Aa2v2vc0v9v_2 a2v2vc0v9v_2.length ca2v2vc0v9v_2,.slice Aa2v2vc0v9v_3 a2v2vc0v9v_3.length ca2v2vc0v9v_3,.slice Aa2v2vc0v9v_4 a2v2vc0v9v_4.length ca2v2vc0v9v_4,.slice Aa2v2vc0v9v_5 a2v2vc0v9v_5.length ca2v2vc0v9v_5,.slice Aa2v2vc0v9v_6 a2v2vc0v9v_6.length ca2v2vc0v9v_6,.bool a2v2vc0v9v_7,.map (some ba2v2vc0v9v_8)])::xmap ba2v2vc0v9v_8 (a2v2vc0v9v_8m.map (kv Value.string (Value.int .i64)))::xblk ba2v2vc0v18 3 ([.int .i64 t6])::xmap ba1 (a1m.map (kv Value.string (fun v => Value.agg (enc_explore_visit v).toArray)))::xblk ba2v2 96 ([.func (.yield La2v2vc0) #[] #[]])::fs) w41:=hS42
  have hS44:=hS43.pick5
  have hS45:=hS44.pick5
  have hS46:=hS45.pick5
  have hS47:=hS46.pick5
  have hS48:=hS47.pick5
  have hS49:=hS48.pick7
  have hS50:=hS49.pick6
  have hS51:=hS50.pick7
  cases Option.some.inj hp39
  exact hR _ _ ⟨rfl,hS51⟩

noncomputable def cd45 (p : List Nat) : Code := sub (bodyOf Try.f45) p
abbrev p45_9:=cd45 [1,1,0,1,0,0,1,1,0,0,0]
abbrev p45_12:=cd45 [1,1,0,1,0,0,1,1,0,0,1,0]
abbrev p45_13:=cd45 [1,1,0,1,0,0,1,1,0,0,1,1]
abbrev p45_15:=cd45 [1,1,0,1,0,0,1,1,0,0,1,1,1,0]
abbrev td45:List Item:=[.code (cd45 [1,1,1])]
abbrev td46:List Item:=.inBlock 0::td45
abbrev td47:List Item:=.inLoop (cd45 [1,1,0,1,0,0])::td46
abbrev td48:List Item:=.code (cd45 [1,1,0,1,0,0])::td47
abbrev td49:List Item:=.code (cd45 [1,1,0,1,0,0,1,1,1])::td47
abbrev td50:List Item:=.inBlock 1::td49
def explore_moves.l0 (a0_1c0vv_1m : List (ByteArray × Int)) (a0_1c1v : weirlaw14_Net) (a1 : ByteArray) (t5 : List api_Pick) (t7 : List (ByteArray × Int)) (t39 : List explore_edge) (t43 : Int) (t44 : Bool) (t45 : List (ByteArray × Int)) : Option ((List explore_edge) × Bool × (List (ByteArray × Int))) :=
  (if (decide (t43 < (t5.length : Int))) = true then (if 0 ≤ t43 ∧ t43 < (t5.length : Int) then (weirlaw14_Net__machine_2.f a1 (gt t5 t43) a0_1c1v t7 a0_1c0vv_1m t45 t44 >>= (fun (t70,t71,t72,t73) => (if t71 = true then (if (t39.length + ([(⟨(gt t5 t43),t70⟩ : explore_edge)] : List explore_edge).length) * 40 ≤ 140737488355328 then (explore_moves.l0 a0_1c0vv_1m a0_1c1v a1 t5 t7 (t39 ++ ([(⟨(gt t5 t43),t70⟩ : explore_edge)] : List explore_edge)) (IntKind.i64.wrap (t43 + 1)) t72 t73) else none) else (explore_moves.l0 a0_1c0vv_1m a0_1c1v a1 t5 t7 (id t39) (IntKind.i64.wrap (t43 + 1)) t72 t73)))) else none) else some ((t39,t44,t45)))
 partial_fixpoint
def explore_moves.f (y43 : ByteArray) (a0_1c0vv_0m a0_1c0vv_1m a0_1c0vv_2m : List (ByteArray × Int)) (a0_1c0vv_3 : Bool) (a0_1c1v : weirlaw14_Net) (a1 : ByteArray) : Option ((List explore_edge) × Bool × (List (ByteArray × Int)) × (List (ByteArray × Int))) :=
  (weirlaw14_Net__machine_1.f a1 a0_1c0vv_0m a0_1c0vv_1m a0_1c0vv_2m a0_1c0vv_3 a0_1c1v >>= (fun (t5,t6,t7) => (explore_moves.l0 a0_1c0vv_1m a0_1c1v a1 t5 t7 [] 0 t6 a0_1c0vv_2m >>= (fun (t27,t31,t32) => some ((t27,t31,t7,t32))))))
theorem explore_moves.ok {y43 : ByteArray} {a0_1c0vv_0m a0_1c0vv_1m a0_1c0vv_2m : List (ByteArray × Int)} {a0_1c0vv_3 : Bool} {a0_1c1v : weirlaw14_Net} {a1 : ByteArray} {ba0_1c0 ba0_1c0v : Nat} {ba0_1c0vv_0 ba0_1c0vv_1 : Nat} {ba0_1c0vv_2 ba0_1c1 : Nat} {Aa0_1c1v_0 : Option Addr} {ca0_1c1v_0 : Nat} {Aa0_1c1v_1 : Option Addr} {ca0_1c1v_1 : Nat} {Aa0_1c1v_2 : Option Addr} {ca0_1c1v_2 : Nat} {q0 : List explore_edge} {q1 : Bool} {q2 q3 : List (ByteArray × Int)} (hp0 : explore_moves.f y43 a0_1c0vv_0m a0_1c0vv_1m a0_1c0vv_2m a0_1c0vv_3 a0_1c1v a1 = some (q0,q1,q2,q3)) (hS0 : St w0 Z (xblk ba0_1c0 33 ([.pointer (some ⟨ba0_1c0v,0,none⟩)])::xblk ba0_1c0v 49 ([.map (some ba0_1c0vv_0),.map (some ba0_1c0vv_1),.map (some ba0_1c0vv_2),.bool a0_1c0vv_3])::xmap ba0_1c0vv_0 (a0_1c0vv_0m.map (kv Value.string (Value.int .i64)))::xmap ba0_1c0vv_1 (a0_1c0vv_1m.map (kv Value.string (Value.int .i64)))::xmap ba0_1c0vv_2 (a0_1c0vv_2m.map (kv Value.string (Value.int .i64)))::xblk ba0_1c1 26 ([.slice Aa0_1c1v_0 a0_1c1v.Next.length ca0_1c1v_0,.slice Aa0_1c1v_1 a0_1c1v.End.length ca0_1c1v_1,.slice Aa0_1c1v_2 a0_1c1v.Value.length ca0_1c1v_2,.int .i64 a0_1c1v.Start])::fs) w) (ha0_1c1v_0 : SlZ (repL (flat (encI .i64)) 1) 1 Z Aa0_1c1v_0 ca0_1c1v_0 a0_1c1v.Next) (ha0_1c1v_1 : SlZ (flat encB) 1 Z Aa0_1c1v_1 ca0_1c1v_1 a0_1c1v.End) (ha0_1c1v_2 : SlZ (flat (encI .i64)) 1 Z Aa0_1c1v_2 ca0_1c1v_2 a0_1c1v.Value) :
    Calls Try.prog 45 #[.agg #[.string y43,.func (.func 28) #[] #[.pointer (some ⟨ba0_1c0,0,none⟩),.pointer (some ⟨ba0_1c1,0,none⟩)],.func (.func 31) #[] #[.pointer (some ⟨ba0_1c1,0,none⟩),.pointer (some ⟨ba0_1c0,0,none⟩)],.func (.func 32) #[] #[.pointer (some ⟨ba0_1c0,0,none⟩),.pointer (some ⟨ba0_1c1,0,none⟩)]],.string a1] w (fun e w' => ∃ (QA0 : Option Addr) (Qc0 : Nat),e = .returned (.slice QA0 q0.length Qc0) ∧ St w0 Z (xrow QA0 Qc0 122 4 (q0.flatMap enc_explore_edge)::xblk ba0_1c0 33 ([.pointer (some ⟨ba0_1c0v,0,none⟩)])::xblk ba0_1c0v 49 ([.map (some ba0_1c0vv_0),.map (some ba0_1c0vv_1),.map (some ba0_1c0vv_2),.bool q1])::xmap ba0_1c0vv_0 (q2.map (kv Value.string (Value.int .i64)))::xmap ba0_1c0vv_1 (a0_1c0vv_1m.map (kv Value.string (Value.int .i64)))::xmap ba0_1c0vv_2 (q3.map (kv Value.string (Value.int .i64)))::xblk ba0_1c1 26 ([.slice Aa0_1c1v_0 a0_1c1v.Next.length ca0_1c1v_0,.slice Aa0_1c1v_1 a0_1c1v.End.length ca0_1c1v_1,.slice Aa0_1c1v_2 a0_1c1v.Value.length ca0_1c1v_2,.int .i64 a0_1c1v.Start])::fs) w'):=by
  refine calls_abs ?_; intro R hR
  unfold explore_moves.f at hp0
  refine calls_of_runs (fn:=Try.f45) (c:=cd45 []) Try.func45 (by kernel_rfl) (al:=[.agg #[.string y43,.func (.func 28) #[] #[.pointer (some ⟨ba0_1c0,0,none⟩),.pointer (some ⟨ba0_1c1,0,none⟩)],.func (.func 31) #[] #[.pointer (some ⟨ba0_1c1,0,none⟩),.pointer (some ⟨ba0_1c0,0,none⟩)],.func (.func 32) #[] #[.pointer (some ⟨ba0_1c0,0,none⟩),.pointer (some ⟨ba0_1c1,0,none⟩)]],.string a1]) rfl (n:=34) rfl ?_
  refine sR 2 [.inRegion (opsOf (cd45 [0])) [0,1],.code (cd45 [1])] ?_
  refine r_box (c:=(cd45 [0])) (i:=0) (d:=(some 2)) (ty:=0) (x:=(.tmp 0)) (v:=.agg #[.string y43,.func (.func 28) #[] #[.pointer (some ⟨ba0_1c0,0,none⟩),.pointer (some ⟨ba0_1c1,0,none⟩)],.func (.func 31) #[] #[.pointer (some ⟨ba0_1c1,0,none⟩),.pointer (some ⟨ba0_1c0,0,none⟩)],.func (.func 32) #[] #[.pointer (some ⟨ba0_1c0,0,none⟩),.pointer (some ⟨ba0_1c1,0,none⟩)]]) (t:=32) (cs:=[.string y43,.func (.func 28) #[] #[.pointer (some ⟨ba0_1c0,0,none⟩),.pointer (some ⟨ba0_1c1,0,none⟩)],.func (.func 31) #[] #[.pointer (some ⟨ba0_1c1,0,none⟩),.pointer (some ⟨ba0_1c0,0,none⟩)],.func (.func 32) #[] #[.pointer (some ⟨ba0_1c0,0,none⟩),.pointer (some ⟨ba0_1c1,0,none⟩)]]) hS0 (by kernel_rfl) (by kernel_rfl) (by kernel_rfl) (by kernel_rfl) ?_
  intro b1 w2 hS3
  refine sR 10 (iR (cd45 [1,1,0,0]) 1 5::.code (cd45 [1,1,0,1])::td45) ?_
  refine rL1 28 (.tmp 10) 1 (hS3.blk 0 rfl) ?_
  refine sR 1 (.inRegion (opsOf (cd45 [1,1,0,0])) [3,4,5]::.code (cd45 [1,1,0,1])::td45) ?_
  obtain ⟨⟨t5,t6,t7⟩,hr10,hp11⟩:=bind_some' hp0
  try dsimp only at hp11
  have hS16:=hS3.pick6
  have hS17:=hS16.pick6
  have hS18:=hS17.pick6
  have hS19:=hS18.pick6
  have hS20:=hS19.pick6
  have hS21:=hS20.pick6
  refine rC (weirlaw14_Net__machine_1.ok hr10 hS21 ha0_1c1v_0 ha0_1c1v_1 ha0_1c1v_2) ?_
  rintro _ w22 ⟨Q8,Q9,rfl,hS23⟩
  refine ⟨_,rfl,?_⟩
  refine sR 5 td48 ?_
  obtain ⟨v24,hv25,hp26⟩:=bind_some' hp11
  have J35 : ∀ (t27 : List explore_edge) (t31 : Bool) (t32 : List (ByteArray × Int)) (he37 : (t27,t31,t32) = v24) (l36 : List Value) (A28 : Option Addr) (c29 : Nat) (w33 : World) (hS34 : St w0 Z (xrow A28 c29 122 4 (t27.flatMap enc_explore_edge)::xblk ba0_1c0 33 ([.pointer (some ⟨ba0_1c0v,0,none⟩)])::xblk ba0_1c0v 49 ([.map (some ba0_1c0vv_0),.map (some ba0_1c0vv_1),.map (some ba0_1c0vv_2),.bool t31])::xmap ba0_1c0vv_0 (t7.map (kv Value.string (Value.int .i64)))::xmap ba0_1c0vv_1 (a0_1c0vv_1m.map (kv Value.string (Value.int .i64)))::xmap ba0_1c0vv_2 (t32.map (kv Value.string (Value.int .i64)))::xblk ba0_1c1 26 ([.slice Aa0_1c1v_0 a0_1c1v.Next.length ca0_1c1v_0,.slice Aa0_1c1v_1 a0_1c1v.End.length ca0_1c1v_1,.slice Aa0_1c1v_2 a0_1c1v.Value.length ca0_1c1v_2,.int .i64 a0_1c1v.Start])::fs) w33),Runs Try.prog (fx 45) td45 (fill (mk 36 [(5,.slice A28 t27.length c29)]) l36) w33 R:=by
   intro t27 t31 t32 he37 l36 A28 c29 w33 hS34
   subst he37
   try dsimp only at hp26
   refine sR 5 [.code (cd45 [1,1,1,1])] ?_
   refine rR (.slice A28 t27.length c29) Try.func45 ?_
   cases Option.some.inj hp26
   exact hR _ _ ⟨A28,c29,rfl,hS34⟩
  have L54 : ∀ (t39 : List explore_edge) (t43 : Int) (t44 : Bool) (t45 : List (ByteArray × Int)) (e49 : ((List explore_edge) × Bool × (List (ByteArray × Int)))),explore_moves.l0 a0_1c0vv_1m a0_1c1v a1 t5 t7 t39 t43 t44 t45 = some e49 → e49 = v24 → ∀ (l48 : List Value) (A40 : Option Addr) (c41 : Nat) (w46 : World) (hS47 : St w0 Z (xblk b1 32 ([.string y43,.func (.func 28) #[] #[.pointer (some ⟨ba0_1c0,0,none⟩),.pointer (some ⟨ba0_1c1,0,none⟩)],.func (.func 31) #[] #[.pointer (some ⟨ba0_1c1,0,none⟩),.pointer (some ⟨ba0_1c0,0,none⟩)],.func (.func 32) #[] #[.pointer (some ⟨ba0_1c0,0,none⟩),.pointer (some ⟨ba0_1c1,0,none⟩)]])::xblk ba0_1c0 33 ([.pointer (some ⟨ba0_1c0v,0,none⟩)])::xblk ba0_1c0v 49 ([.map (some ba0_1c0vv_0),.map (some ba0_1c0vv_1),.map (some ba0_1c0vv_2),.bool t44])::xmap ba0_1c0vv_0 (t7.map (kv Value.string (Value.int .i64)))::xmap ba0_1c0vv_1 (a0_1c0vv_1m.map (kv Value.string (Value.int .i64)))::xmap ba0_1c0vv_2 (t45.map (kv Value.string (Value.int .i64)))::xblk ba0_1c1 26 ([.slice Aa0_1c1v_0 a0_1c1v.Next.length ca0_1c1v_0,.slice Aa0_1c1v_1 a0_1c1v.End.length ca0_1c1v_1,.slice Aa0_1c1v_2 a0_1c1v.Value.length ca0_1c1v_2,.int .i64 a0_1c1v.Start])::xrow A40 c41 122 4 (t39.flatMap enc_explore_edge)::xrow Q8 Q9 88 3 (t5.flatMap enc_api_Pick)::fs) w46),Runs Try.prog (fx 45) td48 (fill (mk 36 [(1,.string a1),(2,.pointer (some ⟨b1,0,none⟩)),(5,.slice A40 t39.length c41),(13,.slice Q8 t5.length Q9),(14,.int .i64 (t5.length : Int)),(15,.int .i64 t43)]) l48) w46 R:=by
   refine explore_moves.l0.partial_correctness a0_1c0vv_1m a0_1c1v a1 t5 t7 (fun t39 t43 t44 t45 e49 => e49 = v24 → ∀ (l48 : List Value) (A40 : Option Addr) (c41 : Nat) (w46 : World) (hS47 : St w0 Z (xblk b1 32 ([.string y43,.func (.func 28) #[] #[.pointer (some ⟨ba0_1c0,0,none⟩),.pointer (some ⟨ba0_1c1,0,none⟩)],.func (.func 31) #[] #[.pointer (some ⟨ba0_1c1,0,none⟩),.pointer (some ⟨ba0_1c0,0,none⟩)],.func (.func 32) #[] #[.pointer (some ⟨ba0_1c0,0,none⟩),.pointer (some ⟨ba0_1c1,0,none⟩)]])::xblk ba0_1c0 33 ([.pointer (some ⟨ba0_1c0v,0,none⟩)])::xblk ba0_1c0v 49 ([.map (some ba0_1c0vv_0),.map (some ba0_1c0vv_1),.map (some ba0_1c0vv_2),.bool t44])::xmap ba0_1c0vv_0 (t7.map (kv Value.string (Value.int .i64)))::xmap ba0_1c0vv_1 (a0_1c0vv_1m.map (kv Value.string (Value.int .i64)))::xmap ba0_1c0vv_2 (t45.map (kv Value.string (Value.int .i64)))::xblk ba0_1c1 26 ([.slice Aa0_1c1v_0 a0_1c1v.Next.length ca0_1c1v_0,.slice Aa0_1c1v_1 a0_1c1v.End.length ca0_1c1v_1,.slice Aa0_1c1v_2 a0_1c1v.Value.length ca0_1c1v_2,.int .i64 a0_1c1v.Start])::xrow A40 c41 122 4 (t39.flatMap enc_explore_edge)::xrow Q8 Q9 88 3 (t5.flatMap enc_api_Pick)::fs) w46),Runs Try.prog (fx 45) td48 (fill (mk 36 [(1,.string a1),(2,.pointer (some ⟨b1,0,none⟩)),(5,.slice A40 t39.length c41),(13,.slice Q8 t5.length Q9),(14,.int .i64 (t5.length : Int)),(15,.int .i64 t43)]) l48) w46 R) ?_
   intro rec53 ih52 t39 t43 t44 t45 e49 hb51 he50 l48 A40 c41 w46 hS47
   refine sI 3 (.inRegion (opsOf (cd45 [1,1,0,1,0,0,0])) []::.code (cd45 [1,1,0,1,0,0,1])::td47) 16 hb51 (fun hp57 => ?_) fun hp125 => ?_
   ·refine sR 8 (iR p45_9 0 4::.code (cd45 [1,1,0,1,0,0,1,1,0,0,1])::td50) ?_
    obtain ⟨g58,hp59⟩:=ite_some hp57
    obtain ⟨b60,p61,hA62,-⟩:=(hS47.row 8 rfl).at_ len_api_Pick (by omega) g58.1 g58.2
    refine r_indexAddr (c:=p45_9) (i:=0) (d:=(some 17)) (ty:=0) (t:=40) (e:=88) (n:=t5.length) (cp:=Q9) (sz:=3) (kk:=.i64) (x:=(.tmp 13)) (y:=(.tmp 15)) (b:=b60) (o':=p61) (j:=t43) (by kernel_rfl) (by kernel_rfl) (slv (by kernel_rfl) hA62) (by kernel_rfl) (by kernel_rfl) (by kernel_rfl) g58.1 g58.2 ?_
    refine rLa 88 (.tmp 17) ((hS47.row 8 rfl).at2 hA62 len_api_Pick (by omega) g58.1 g58.2) ?_
    refine rA 88 (.agg (enc_api_Pick (⟨0,0,0⟩ : api_Pick)).toArray) (enc_api_Pick (⟨0,0,0⟩ : api_Pick)) hS47 ?_
    intro b64 w65 hS66
    refine rSA 88 (.tmp 7) (.tmp 18) (enc_api_Pick (gt t5 t43)) hS66 (one_api_Pick _) ?_
    intro w68 hS69
    refine sR 4 (iR p45_12 1 9::.code p45_13::td50) ?_
    refine rL1 29 (.tmp 20) 2 (hS69.blk 1 rfl) ?_
    refine sR 1 (iR p45_12 3 7::.code p45_13::td50) ?_
    refine rLa 88 (.tmp 7) (hS69.blk 0 rfl) ?_
    obtain ⟨⟨t70,t71,t72,t73⟩,hr74,hp75⟩:=bind_some' hp59
    try dsimp only at hp75
    have hS79:=hS69.pick6
    have hS80:=hS79.pick6
    have hS81:=hS80.pick6
    have hS82:=hS81.pick6
    have hS83:=hS82.pick6
    have hS84:=hS83.pick7
    refine rC (weirlaw14_Net__machine_2.ok hr74 hS84 ha0_1c1v_0 ha0_1c1v_1 ha0_1c1v_2) ?_
    rintro _ w85 ⟨rfl,hS86⟩
    refine ⟨_,rfl,?_⟩
    refine sR 10 (.code (cd45 [1,1,0,1,0,0,1,1,0,0,1,1,1])::td50) ?_
    cases t71
    ·have hp87:=ite_f hp75 rfl
     refine sR 7 td47 ?_
     have hS88:=hS86.pick6
     have hS89:=hS88.drop
     have hS90:=hS89.pick8
     have hS91:=hS90.pick8
     have hS92:=hS91.pick2
     have hS93:=hS92.pick7
     have hS94:=hS93.pick7
     have hS95:=hS94.pick7
     have hS96:=hS95.pick7
     have hS97:=hS96.pick7
     have hS98:=hS97.pick8
     refine sR 1 td48 ?_
     exact rF _ (ih52 (id t39) (IntKind.i64.wrap (t43 + 1)) t72 t73 _ hp87 he50 _ A40 c41 _ hS98)
    have hp99:=ite_t hp75 rfl
    refine sR 3 (iR p45_15 1 6::td50) ?_
    refine rLa 88 (.tmp 7) (hS86.blk 6 rfl) ?_
    refine sR 2 (.inRegion (opsOf p45_15) [4,5,6]::td50) ?_
    refine r_lit (c:=p45_15) (i:=4) (d:=(some 32)) (ty:=120) (t:=120) (e:=122) (sz:=4) (n:=1) (parts:=#[(0,(.tmp 31))]) (vs:=[(0,.agg (enc_explore_edge (⟨(gt t5 t43),t70⟩ : explore_edge)).toArray)]) (z:=zeroOf Try.prog 122) (cs':=([(⟨(gt t5 t43),t70⟩ : explore_edge)] : List explore_edge).flatMap enc_explore_edge) hS86 (by kernel_rfl) (by kernel_rfl) (by kernel_rfl) (by kernel_rfl) (by kernel_rfl) (by decide) (by decide) (by kernel_rfl) rfl (Parts.cons (c:=enc_explore_edge (⟨(gt t5 t43),t70⟩ : explore_edge)) (by kernel_rfl) (len_explore_edge _) Parts.nil) rfl ?_
    intro b101 w102 hS103
    have hS104:=hS103.pick9
    obtain ⟨g105,hp106⟩:=ite_some hp99
    refine r_append (c:=p45_15) (i:=5) (d:=(some 33)) (ty:=120) (enc:=enc_explore_edge) (e:=122) (u:=122) (t:=120) (t2:=120) (sz:=4) (cp:=c41) (A:=A40) (bytes:=40) (xs:=t39) (ys:=([(⟨(gt t5 t43),t70⟩ : explore_edge)] : List explore_edge)) (s:=(.tmp 28)) (x:=(.tmp 32)) (xv:=.slice (some ⟨b101,0,none⟩) ([(⟨(gt t5 t43),t70⟩ : explore_edge)] : List explore_edge).length 1) (info:=infoOf Try.prog 122) (z:=zeroOf Try.prog 122) (ycs:=([(⟨(gt t5 t43),t70⟩ : explore_edge)] : List explore_edge).flatMap enc_explore_edge) hS104 (by kernel_rfl) (by kernel_rfl) (by kernel_rfl) (by kernel_rfl) (by kernel_rfl) (.inl (by kernel_rfl)) (by kernel_rfl) (by kernel_rfl) (by kernel_rfl) (by kernel_rfl) (by kernel_rfl) (by omega) len_explore_edge one_explore_edge (src_row (hS104.row 1 rfl) (by omega) len_explore_edge) rfl g105 (by omega) ?_
    intro A107 c108 w109 hS110
    refine sR 7 td47 ?_
    have hS112:=hS110.pick1
    have hS113:=hS112.drop
    have hS114:=hS113.pick7
    have hS115:=hS114.drop
    have hS116:=hS115.pick8
    have hS117:=hS116.pick1
    have hS118:=hS117.pick2
    have hS119:=hS118.pick7
    have hS120:=hS119.pick7
    have hS121:=hS120.pick7
    have hS122:=hS121.pick7
    have hS123:=hS122.pick7
    have hS124:=hS123.pick8
    refine sR 1 td48 ?_
    exact rF _ (ih52 (t39 ++ ([(⟨(gt t5 t43),t70⟩ : explore_edge)] : List explore_edge)) (IntKind.i64.wrap (t43 + 1)) t72 t73 _ hp106 he50 _ A107 c108 _ hS124)
   refine sR 4 td45 ?_
   have hS126:=hS47.drop
   have hS127:=hS126.pick7
   have hS128:=hS127.drop
   have hS129:=hS128.pick5
   have hS130:=hS129.pick5
   have hS131:=hS130.pick5
   have hS132:=hS131.pick5
   have hS133:=hS132.pick5
   have hS134:=hS133.pick5
   have hS135:=hS134.pick6
   exact rF _ (J35 t39 t44 t45 ((Option.some.inj hp125).trans he50) _ A40 c41 _ hS135)
  have hS137:=hS23.nilrow none 122 4
  have hS138:=hS137.pick1
  have hS139:=hS138.pick1
  have hS140:=hS139.pick7
  have hS141:=hS140.pick7
  have hS142:=hS141.pick7
  have hS143:=hS142.pick7
  have hS144:=hS143.pick7
  have hS145:=hS144.pick7
  have hS146:=hS145.pick8
  exact rF _ (L54 [] 0 t6 a0_1c0vv_2m _ hv25 rfl _ none 0 _ hS146)

noncomputable def cd44 (p : List Nat) : Code := sub (bodyOf Try.f44) p
abbrev p44_0:=cd44 [0]
abbrev p44_12:=cd44 [1,1,0,0,1,0,1,1,0,0]
abbrev p44_14:=cd44 [1,1,0,0,1,0,1,1,1]
abbrev p44_15:=cd44 [1,1,0,0,1,0,1,1,1,0]
abbrev p44_16:=cd44 [1,1,0,0,1,0,1,1,1,1]
abbrev p44_20:=cd44 [1,1,0,0,1,0,1,1,1,1,1,1,0,0]
abbrev p44_23:=cd44 [1,1,0,0,1,0,1,1,1,1,1,1,0,0,1,1,0,0,0]
abbrev p44_26:=cd44 [1,1,0,0,1,0,1,1,1,1,1,1,0,0,1,1,0,0,1,0]
abbrev p44_27:=cd44 [1,1,0,0,1,0,1,1,1,1,1,1,0,0,1,1,0,0,1,1]
abbrev p44_28:=cd44 [1,1,0,0,1,0,1,1,1,1,1,1,0,0,1,1,0,0,1,1,0]
abbrev p44_30:=cd44 [1,1,0,0,1,0,1,1,1,1,1,1,0,0,1,1,0,0,1,1,1,0,0]
abbrev p44_31:=cd44 [1,1,0,0,1,0,1,1,1,1,1,1,0,0,1,1,0,0,1,1,1,0,1]
abbrev td51:List Item:=[.inBlock 0]
abbrev td52:List Item:=.inLoop (cd44 [1,1,0,0])::td51
abbrev td53:List Item:=.code (cd44 [1,1,0,0])::td52
abbrev td54:List Item:=.inBlock 1::td52
abbrev td55:List Item:=.inBlock 2::td54
abbrev td56:List Item:=.inLoop p44_20::td55
abbrev td57:List Item:=.code p44_20::td56
abbrev td58:List Item:=.code (cd44 [1,1,0,0,1,0,1,1,1,1,1,1,0,0,1,1,1])::td56
abbrev td59:List Item:=.inBlock 3::td58
abbrev td60:List Item:=.code (cd44 [1,1,0,0,1,0,1,1,1,1,1,1,0,0,1,1,0,0,1,1,1])::td59
abbrev td61:List Item:=.code p44_28::td60
abbrev td62:List Item:=.code p44_31::td59
def explore_walk_1_1.l1 (t28 : List ByteArray) (t96 : List explore_edge) (t129 : List ByteArray) (t133 : Int) (t134 : List (ByteArray × explore_visit)) : Option ((List ByteArray) × (List (ByteArray × explore_visit))) :=
  (if (decide (t133 < (t96.length : Int))) = true then (if 0 ≤ t133 ∧ t133 < (t96.length : Int) then (((if (mget t134 ((gt t96 t133).to)).isSome = true then some (true) else some (false)) : Option Bool) >>= (fun t162 => (if (!t162) = true then (if (t129.length + ([(gt t96 t133).to] : List ByteArray).length) * 16 ≤ 140737488355328 then (explore_walk_1_1.l1 t28 t96 (t129 ++ ([(gt t96 t133).to] : List ByteArray)) (IntKind.i64.wrap (t133 + 1)) (mput t134 ((gt t96 t133).to) (⟨(IntKind.i64.wrap ((((mget t134 (gt t28 (0 : Int))).getD (⟨0,(⟨#[]⟩ : ByteArray),⟨0,0,0⟩⟩ : explore_visit)).depth) + 1)),(gt t28 (0 : Int)),(gt t96 t133).by_⟩ : explore_visit))) else none) else (explore_walk_1_1.l1 t28 t96 (id t129) (IntKind.i64.wrap (t133 + 1)) (id t134))))) else none) else some ((t129,t134)))
 partial_fixpoint
def explore_walk_1_1.l0 (a0c0v2vc0v9v_0 : List ByteArray) (a0c0v2vc0v9v_1 : List Int) (a0c0v2vc0v9v_2 : List (List weirref14_Move)) (a0c0v2vc0v9v_3 : List Bool) (a0c0v2vc0v9v_4 : List api_Final) (a0c0v2vc0v9v_5 : List Int) (a0c0v2vc0v9v_6 : List api_Pick) (a0c0v2vc0v9v_7 : Bool) (a0c0v2vc0v9v_8m : List (ByteArray × Int)) (y44 : ByteArray) (a1v_1c0vv_1m : List (ByteArray × Int)) (a1v_1c1v : weirlaw14_Net) (t28 : List ByteArray) (t32 : Int) (t33 : Bool) (t34 : Int) (t35 : Bool) (t36 t37 : List (ByteArray × Int)) (t38 : List (ByteArray × explore_visit)) : Option (Sum (Int × Bool × Int × Bool × (List (ByteArray × Int)) × (List (ByteArray × Int))) (Int × Int × Bool × Int × Bool × (List (ByteArray × Int)) × (List (ByteArray × Int)))) :=
  (if (decide ((t28.length : Int) > 0)) = true then (if 0 ≤ (0 : Int) ∧ (0 : Int) < (t28.length : Int) then (if 0 ≤ (1 : Int) ∧ (1 : Int) ≤ (t28.length : Int) then (if t32 = 0 then (explore_States_1_r_1.f (gt t28 (0 : Int)) t38 t33 a0c0v2vc0v9v_0 a0c0v2vc0v9v_1 a0c0v2vc0v9v_2 a0c0v2vc0v9v_3 a0c0v2vc0v9v_4 a0c0v2vc0v9v_5 a0c0v2vc0v9v_6 a0c0v2vc0v9v_7 a0c0v2vc0v9v_8m t34 >>= (fun (t70,t71,t72,t73) => (if decide (t70 = 0) = true then (explore_moves.f y44 t36 a1v_1c0vv_1m t37 t35 a1v_1c1v (gt t28 (0 : Int)) >>= (fun (t96,t97,t98,t99) => (explore_walk_1_1.l1 t28 t96 ((t28.take t28.length).drop ((1 : Int).toNat)) 0 t38 >>= (fun (t119,t123) => (explore_walk_1_1.l0 a0c0v2vc0v9v_0 a0c0v2vc0v9v_1 a0c0v2vc0v9v_2 a0c0v2vc0v9v_3 a0c0v2vc0v9v_4 a0c0v2vc0v9v_5 a0c0v2vc0v9v_6 a0c0v2vc0v9v_7 a0c0v2vc0v9v_8m y44 a1v_1c0vv_1m a1v_1c1v t119 t71 t72 t73 t97 t98 t99 t123))))) else some (.inr ((t70,t71,t72,t73,t35,t36,t37)))))) else none) else none) else none) else some (.inl (t32,t33,t34,t35,t36,t37)))
 partial_fixpoint
def explore_walk_1_1.f (a0c0v2vc0v6v : Bool) (a0c0v2vc0v9v_0 : List ByteArray) (a0c0v2vc0v9v_1 : List Int) (a0c0v2vc0v9v_2 : List (List weirref14_Move)) (a0c0v2vc0v9v_3 : List Bool) (a0c0v2vc0v9v_4 : List api_Final) (a0c0v2vc0v9v_5 : List Int) (a0c0v2vc0v9v_6 : List api_Pick) (a0c0v2vc0v9v_7 : Bool) (a0c0v2vc0v9v_8m : List (ByteArray × Int)) (a0c0v2vc0v18v : Int) (y44 : ByteArray) (a1v_1c0vv_0m a1v_1c0vv_1m a1v_1c0vv_2m : List (ByteArray × Int)) (a1v_1c0vv_3 : Bool) (a1v_1c1v : weirlaw14_Net) : Option (Int × Int × Bool × Int × Bool × (List (ByteArray × Int)) × (List (ByteArray × Int))) :=
  (explore_walk_1_1.l0 a0c0v2vc0v9v_0 a0c0v2vc0v9v_1 a0c0v2vc0v9v_2 a0c0v2vc0v9v_3 a0c0v2vc0v9v_4 a0c0v2vc0v9v_5 a0c0v2vc0v9v_6 a0c0v2vc0v9v_7 a0c0v2vc0v9v_8m y44 a1v_1c0vv_1m a1v_1c1v ([y44] : List ByteArray) 0 a0c0v2vc0v6v a0c0v2vc0v18v a1v_1c0vv_3 a1v_1c0vv_0m a1v_1c0vv_2m (mput ([] : List (ByteArray × explore_visit)) y44 (⟨0,(⟨#[]⟩ : ByteArray),(⟨0,0,0⟩ : api_Pick)⟩ : explore_visit)) >>= (fun | .inl (t15,t16,t17,t18,t19,t20) => some ((0,t15,t16,t17,t18,t19,t20)) | .inr e => some e))
theorem explore_walk_1_1.ok {a0c0v2vc0v6v : Bool} {a0c0v2vc0v9v_0 : List ByteArray} {a0c0v2vc0v9v_1 : List Int} {a0c0v2vc0v9v_2 : List (List weirref14_Move)} {a0c0v2vc0v9v_3 : List Bool} {a0c0v2vc0v9v_4 : List api_Final} {a0c0v2vc0v9v_5 : List Int} {a0c0v2vc0v9v_6 : List api_Pick} {a0c0v2vc0v9v_7 : Bool} {a0c0v2vc0v9v_8m : List (ByteArray × Int)} {a0c0v2vc0v18v : Int} {y44 : ByteArray} {a1v_1c0vv_0m a1v_1c0vv_1m a1v_1c0vv_2m : List (ByteArray × Int)} {a1v_1c0vv_3 : Bool} {a1v_1c1v : weirlaw14_Net} {La0c0 Da0c0 : Nat} {la0c0 : List Value} {ba0c0v2 La0c0v2vc0 Da0c0v2vc0 : Nat} {la0c0v2vc0 : List Value} {ba0c0v2vc0v6 ba0c0v2vc0v9 : Nat} {Aa0c0v2vc0v9v_0 : Option Addr} {ca0c0v2vc0v9v_0 : Nat} {Aa0c0v2vc0v9v_1 : Option Addr} {ca0c0v2vc0v9v_1 : Nat} {Aa0c0v2vc0v9v_2 : Option Addr} {ca0c0v2vc0v9v_2 : Nat} {Aa0c0v2vc0v9v_3 : Option Addr} {ca0c0v2vc0v9v_3 : Nat} {Aa0c0v2vc0v9v_4 : Option Addr} {ca0c0v2vc0v9v_4 : Nat} {Aa0c0v2vc0v9v_5 : Option Addr} {ca0c0v2vc0v9v_5 : Nat} {Aa0c0v2vc0v9v_6 : Option Addr} {ca0c0v2vc0v9v_6 ba0c0v2vc0v9v_8 : Nat} {ba0c0v2vc0v18 ba1 : Nat} {ba1v_1c0 ba1v_1c0v : Nat} {ba1v_1c0vv_0 ba1v_1c0vv_1 : Nat} {ba1v_1c0vv_2 ba1v_1c1 : Nat} {Aa1v_1c1v_0 : Option Addr} {ca1v_1c1v_0 : Nat} {Aa1v_1c1v_1 : Option Addr} {ca1v_1c1v_1 : Nat} {Aa1v_1c1v_2 : Option Addr} {ca1v_1c1v_2 ba2 : Nat} {q0 q1 : Int} {q2 : Bool} {q3 : Int} {q4 : Bool} {q5 q6 : List (ByteArray × Int)} (hp0 : explore_walk_1_1.f a0c0v2vc0v6v a0c0v2vc0v9v_0 a0c0v2vc0v9v_1 a0c0v2vc0v9v_2 a0c0v2vc0v9v_3 a0c0v2vc0v9v_4 a0c0v2vc0v9v_5 a0c0v2vc0v9v_6 a0c0v2vc0v9v_7 a0c0v2vc0v9v_8m a0c0v2vc0v18v y44 a1v_1c0vv_0m a1v_1c0vv_1m a1v_1c0vv_2m a1v_1c0vv_3 a1v_1c1v = some (q0,q1,q2,q3,q4,q5,q6)) (hS0 : St w0 Z (xlp La0c0 34 (fill (mk 17 [(2,.pointer (some ⟨ba0c0v2,0,none⟩))]) la0c0) #[7,8] p34_0 p34_1 Da0c0 [p34_2] 0::xblk ba0c0v2 96 ([.func (.yield La0c0v2vc0) #[] #[]])::xlp La0c0v2vc0 3 (fill (mk 165 [(6,.pointer (some ⟨ba0c0v2vc0v6,0,none⟩)),(9,.pointer (some ⟨ba0c0v2vc0v9,0,none⟩)),(18,.pointer (some ⟨ba0c0v2vc0v18,0,none⟩))]) la0c0v2vc0) #[107,108] p3_0 p3_1 Da0c0v2vc0 [p3_2] 0::xblk ba0c0v2vc0v6 4 ([.bool a0c0v2vc0v6v])::xblk ba0c0v2vc0v9 43 ([.slice Aa0c0v2vc0v9v_0 a0c0v2vc0v9v_0.length ca0c0v2vc0v9v_0,.slice Aa0c0v2vc0v9v_1 a0c0v2vc0v9v_1.length ca0c0v2vc0v9v_1,.slice Aa0c0v2vc0v9v_2 a0c0v2vc0v9v_2.length ca0c0v2vc0v9v_2,.slice Aa0c0v2vc0v9v_3 a0c0v2vc0v9v_3.length ca0c0v2vc0v9v_3,.slice Aa0c0v2vc0v9v_4 a0c0v2vc0v9v_4.length ca0c0v2vc0v9v_4,.slice Aa0c0v2vc0v9v_5 a0c0v2vc0v9v_5.length ca0c0v2vc0v9v_5,.slice Aa0c0v2vc0v9v_6 a0c0v2vc0v9v_6.length ca0c0v2vc0v9v_6,.bool a0c0v2vc0v9v_7,.map (some ba0c0v2vc0v9v_8)])::xmap ba0c0v2vc0v9v_8 (a0c0v2vc0v9v_8m.map (kv Value.string (Value.int .i64)))::xblk ba0c0v2vc0v18 3 ([.int .i64 a0c0v2vc0v18v])::xblk ba1 32 ([.string y44,.func (.func 28) #[] #[.pointer (some ⟨ba1v_1c0,0,none⟩),.pointer (some ⟨ba1v_1c1,0,none⟩)],.func (.func 31) #[] #[.pointer (some ⟨ba1v_1c1,0,none⟩),.pointer (some ⟨ba1v_1c0,0,none⟩)],.func (.func 32) #[] #[.pointer (some ⟨ba1v_1c0,0,none⟩),.pointer (some ⟨ba1v_1c1,0,none⟩)]])::xblk ba1v_1c0 33 ([.pointer (some ⟨ba1v_1c0v,0,none⟩)])::xblk ba1v_1c0v 49 ([.map (some ba1v_1c0vv_0),.map (some ba1v_1c0vv_1),.map (some ba1v_1c0vv_2),.bool a1v_1c0vv_3])::xmap ba1v_1c0vv_0 (a1v_1c0vv_0m.map (kv Value.string (Value.int .i64)))::xmap ba1v_1c0vv_1 (a1v_1c0vv_1m.map (kv Value.string (Value.int .i64)))::xmap ba1v_1c0vv_2 (a1v_1c0vv_2m.map (kv Value.string (Value.int .i64)))::xblk ba1v_1c1 26 ([.slice Aa1v_1c1v_0 a1v_1c1v.Next.length ca1v_1c1v_0,.slice Aa1v_1c1v_1 a1v_1c1v.End.length ca1v_1c1v_1,.slice Aa1v_1c1v_2 a1v_1c1v.Value.length ca1v_1c1v_2,.int .i64 a1v_1c1v.Start])::xblk ba2 130 ([.nilFunc])::fs) w) (ha0c0v2vc0v9v_0 : SlZ (flat encS) 1 Z Aa0c0v2vc0v9v_0 ca0c0v2vc0v9v_0 a0c0v2vc0v9v_0) (ha0c0v2vc0v9v_1 : SlZ (flat (encI .i64)) 1 Z Aa0c0v2vc0v9v_1 ca0c0v2vc0v9v_1 a0c0v2vc0v9v_1) (ha0c0v2vc0v9v_2 : SlZ (repL (flat enc_weirref14_Move) 4) 1 Z Aa0c0v2vc0v9v_2 ca0c0v2vc0v9v_2 a0c0v2vc0v9v_2) (ha0c0v2vc0v9v_3 : SlZ (flat encB) 1 Z Aa0c0v2vc0v9v_3 ca0c0v2vc0v9v_3 a0c0v2vc0v9v_3) (ha0c0v2vc0v9v_4 : SlZ (flat enc_api_Final) 49 Z Aa0c0v2vc0v9v_4 ca0c0v2vc0v9v_4 a0c0v2vc0v9v_4) (ha0c0v2vc0v9v_5 : SlZ (flat (encI .i64)) 1 Z Aa0c0v2vc0v9v_5 ca0c0v2vc0v9v_5 a0c0v2vc0v9v_5) (ha0c0v2vc0v9v_6 : SlZ (flat enc_api_Pick) 3 Z Aa0c0v2vc0v9v_6 ca0c0v2vc0v9v_6 a0c0v2vc0v9v_6) (ha1v_1c1v_0 : SlZ (repL (flat (encI .i64)) 1) 1 Z Aa1v_1c1v_0 ca1v_1c1v_0 a1v_1c1v.Next) (ha1v_1c1v_1 : SlZ (flat encB) 1 Z Aa1v_1c1v_1 ca1v_1c1v_1 a1v_1c1v.End) (ha1v_1c1v_2 : SlZ (flat (encI .i64)) 1 Z Aa1v_1c1v_2 ca1v_1c1v_2 a1v_1c1v.Value) :
    Calls Try.prog 44 #[.func (.yield La0c0) #[] #[],.pointer (some ⟨ba1,0,none⟩),.pointer (some ⟨ba2,0,none⟩)] w (fun e w' => e = .returned (.tuple #[]) ∧ St w0 Z (xlp La0c0 34 (fill (mk 17 [(2,.pointer (some ⟨ba0c0v2,0,none⟩))]) la0c0) #[7,8] p34_0 p34_1 Da0c0 [p34_2] q0::xblk ba0c0v2 96 ([.func (.yield La0c0v2vc0) #[] #[]])::xlp La0c0v2vc0 3 (fill (mk 165 [(6,.pointer (some ⟨ba0c0v2vc0v6,0,none⟩)),(9,.pointer (some ⟨ba0c0v2vc0v9,0,none⟩)),(18,.pointer (some ⟨ba0c0v2vc0v18,0,none⟩))]) la0c0v2vc0) #[107,108] p3_0 p3_1 Da0c0v2vc0 [p3_2] q1::xblk ba0c0v2vc0v6 4 ([.bool q2])::xblk ba0c0v2vc0v9 43 ([.slice Aa0c0v2vc0v9v_0 a0c0v2vc0v9v_0.length ca0c0v2vc0v9v_0,.slice Aa0c0v2vc0v9v_1 a0c0v2vc0v9v_1.length ca0c0v2vc0v9v_1,.slice Aa0c0v2vc0v9v_2 a0c0v2vc0v9v_2.length ca0c0v2vc0v9v_2,.slice Aa0c0v2vc0v9v_3 a0c0v2vc0v9v_3.length ca0c0v2vc0v9v_3,.slice Aa0c0v2vc0v9v_4 a0c0v2vc0v9v_4.length ca0c0v2vc0v9v_4,.slice Aa0c0v2vc0v9v_5 a0c0v2vc0v9v_5.length ca0c0v2vc0v9v_5,.slice Aa0c0v2vc0v9v_6 a0c0v2vc0v9v_6.length ca0c0v2vc0v9v_6,.bool a0c0v2vc0v9v_7,.map (some ba0c0v2vc0v9v_8)])::xmap ba0c0v2vc0v9v_8 (a0c0v2vc0v9v_8m.map (kv Value.string (Value.int .i64)))::xblk ba0c0v2vc0v18 3 ([.int .i64 q3])::xblk ba1 32 ([.string y44,.func (.func 28) #[] #[.pointer (some ⟨ba1v_1c0,0,none⟩),.pointer (some ⟨ba1v_1c1,0,none⟩)],.func (.func 31) #[] #[.pointer (some ⟨ba1v_1c1,0,none⟩),.pointer (some ⟨ba1v_1c0,0,none⟩)],.func (.func 32) #[] #[.pointer (some ⟨ba1v_1c0,0,none⟩),.pointer (some ⟨ba1v_1c1,0,none⟩)]])::xblk ba1v_1c0 33 ([.pointer (some ⟨ba1v_1c0v,0,none⟩)])::xblk ba1v_1c0v 49 ([.map (some ba1v_1c0vv_0),.map (some ba1v_1c0vv_1),.map (some ba1v_1c0vv_2),.bool q4])::xmap ba1v_1c0vv_0 (q5.map (kv Value.string (Value.int .i64)))::xmap ba1v_1c0vv_1 (a1v_1c0vv_1m.map (kv Value.string (Value.int .i64)))::xmap ba1v_1c0vv_2 (q6.map (kv Value.string (Value.int .i64)))::xblk ba1v_1c1 26 ([.slice Aa1v_1c1v_0 a1v_1c1v.Next.length ca1v_1c1v_0,.slice Aa1v_1c1v_1 a1v_1c1v.End.length ca1v_1c1v_1,.slice Aa1v_1c1v_2 a1v_1c1v.Value.length ca1v_1c1v_2,.int .i64 a1v_1c1v.Start])::xblk ba2 130 ([.nilFunc])::fs) w'):=by
  refine calls_abs ?_; intro R hR
  unfold explore_walk_1_1.f at hp0
  refine calls_of_runs (fn:=Try.f44) (c:=cd44 []) Try.func44 (by kernel_rfl) (al:=[.func (.yield La0c0) #[] #[],.pointer (some ⟨ba1,0,none⟩),.pointer (some ⟨ba2,0,none⟩)]) rfl (n:=72) rfl ?_
  refine sR 2 [iR p44_0 0 7,.code (cd44 [1])] ?_
  refine r_makeMap (c:=p44_0) (i:=0) (d:=(some 12)) (ty:=100) (t:=100) hS0 (by kernel_rfl) (by kernel_rfl) ?_
  intro b1 w2 hS3
  have hS5 : St w0 Z (xmap b1 (([] : List (ByteArray × explore_visit)).map (kv Value.string (fun v => Value.agg (enc_explore_visit v).toArray)))::xlp La0c0 34 (fill (mk 17 [(2,.pointer (some ⟨ba0c0v2,0,none⟩))]) la0c0) #[7,8] p34_0 p34_1 Da0c0 [p34_2] 0::xblk ba0c0v2 96 ([.func (.yield La0c0v2vc0) #[] #[]])::xlp La0c0v2vc0 3 (fill (mk 165 [(6,.pointer (some ⟨ba0c0v2vc0v6,0,none⟩)),(9,.pointer (some ⟨ba0c0v2vc0v9,0,none⟩)),(18,.pointer (some ⟨ba0c0v2vc0v18,0,none⟩))]) la0c0v2vc0) #[107,108] p3_0 p3_1 Da0c0v2vc0 [p3_2] 0::xblk ba0c0v2vc0v6 4 ([.bool a0c0v2vc0v6v])::xblk ba0c0v2vc0v9 43 ([.slice Aa0c0v2vc0v9v_0 a0c0v2vc0v9v_0.length ca0c0v2vc0v9v_0,.slice Aa0c0v2vc0v9v_1 a0c0v2vc0v9v_1.length ca0c0v2vc0v9v_1,.slice Aa0c0v2vc0v9v_2 a0c0v2vc0v9v_2.length ca0c0v2vc0v9v_2,.slice Aa0c0v2vc0v9v_3 a0c0v2vc0v9v_3.length ca0c0v2vc0v9v_3,.slice Aa0c0v2vc0v9v_4 a0c0v2vc0v9v_4.length ca0c0v2vc0v9v_4,.slice Aa0c0v2vc0v9v_5 a0c0v2vc0v9v_5.length ca0c0v2vc0v9v_5,.slice Aa0c0v2vc0v9v_6 a0c0v2vc0v9v_6.length ca0c0v2vc0v9v_6,.bool a0c0v2vc0v9v_7,.map (some ba0c0v2vc0v9v_8)])::xmap ba0c0v2vc0v9v_8 (a0c0v2vc0v9v_8m.map (kv Value.string (Value.int .i64)))::xblk ba0c0v2vc0v18 3 ([.int .i64 a0c0v2vc0v18v])::xblk ba1 32 ([.string y44,.func (.func 28) #[] #[.pointer (some ⟨ba1v_1c0,0,none⟩),.pointer (some ⟨ba1v_1c1,0,none⟩)],.func (.func 31) #[] #[.pointer (some ⟨ba1v_1c1,0,none⟩),.pointer (some ⟨ba1v_1c0,0,none⟩)],.func (.func 32) #[] #[.pointer (some ⟨ba1v_1c0,0,none⟩),.pointer (some ⟨ba1v_1c1,0,none⟩)]])::xblk ba1v_1c0 33 ([.pointer (some ⟨ba1v_1c0v,0,none⟩)])::xblk ba1v_1c0v 49 ([.map (some ba1v_1c0vv_0),.map (some ba1v_1c0vv_1),.map (some ba1v_1c0vv_2),.bool a1v_1c0vv_3])::xmap ba1v_1c0vv_0 (a1v_1c0vv_0m.map (kv Value.string (Value.int .i64)))::xmap ba1v_1c0vv_1 (a1v_1c0vv_1m.map (kv Value.string (Value.int .i64)))::xmap ba1v_1c0vv_2 (a1v_1c0vv_2m.map (kv Value.string (Value.int .i64)))::xblk ba1v_1c1 26 ([.slice Aa1v_1c1v_0 a1v_1c1v.Next.length ca1v_1c1v_0,.slice Aa1v_1c1v_1 a1v_1c1v.End.length ca1v_1c1v_1,.slice Aa1v_1c1v_2 a1v_1c1v.Value.length ca1v_1c1v_2,.int .i64 a1v_1c1v.Start])::xblk ba2 130 ([.nilFunc])::fs) w2:=hS3
  refine sR 1 [iR p44_0 2 5,.code (cd44 [1])] ?_
  refine rL1 9 (.tmp 13) 0 (hS5.blk 8 rfl) ?_
  refine sR 1 [.inRegion (opsOf p44_0) [4,5,6],.code (cd44 [1])] ?_
  refine r_insert (c:=p44_0) (i:=4) (d:=none) (ty:=0) (eK:=Value.string) (eV:=(fun v => Value.agg (enc_explore_visit v).toArray)) (dk:=.string) (b:=b1) (t:=100) (kt:=9) (et:=102) (x:=(.tmp 12)) (y:=(.tmp 14)) (z:=(.tmp 15)) (m:=([] : List (ByteArray × explore_visit))) (kk:=y44) (v:=(⟨0,(⟨#[]⟩ : ByteArray),(⟨0,0,0⟩ : api_Pick)⟩ : explore_visit)) hS5 (by kernel_rfl) (by kernel_rfl) key_str (by kernel_rfl) (by kernel_rfl) (by kernel_rfl) (by kernel_rfl) (by kernel_rfl) ?_
  intro w6 hS7
  refine sR 6 [.inRegion (opsOf (cd44 [1,0])) [1,2,3],.code (cd44 [1,1])] ?_
  refine rL1 9 (.tmp 17) 0 (hS7.blk 8 rfl) ?_
  refine r_lit (c:=(cd44 [1,0])) (i:=2) (d:=(some 19)) (ty:=36) (t:=36) (e:=9) (sz:=1) (n:=1) (parts:=#[(0,(.tmp 18))]) (vs:=[(0,.string y44)]) (z:=zeroOf Try.prog 9) (cs':=([y44] : List ByteArray).flatMap encS) hS7 (by kernel_rfl) (by kernel_rfl) (by kernel_rfl) (by kernel_rfl) (by kernel_rfl) (by decide) (by decide) (by kernel_rfl) rfl (Parts.cons (c:=[.string y44]) (by kernel_rfl) rfl Parts.nil) rfl ?_
  intro b9 w10 hS11
  refine sR 4 td53 ?_
  obtain ⟨v12,hv13,hp14⟩:=bind_some' hp0
  have hq23 : ∀ x,Sum.inr x = v12 → x = (q0,q1,q2,q3,q4,q5,q6):=by intro x hx; subst hx; simpa using hp14
  have J24 : ∀ (t15 : Int) (t16 : Bool) (t17 : Int) (t18 : Bool) (t19 t20 : List (ByteArray × Int)) (he26 : Sum.inl (t15,t16,t17,t18,t19,t20) = v12) (l25 : List Value) (w21 : World) (hS22 : St w0 Z (xlp La0c0 34 (fill (mk 17 [(2,.pointer (some ⟨ba0c0v2,0,none⟩))]) la0c0) #[7,8] p34_0 p34_1 Da0c0 [p34_2] 0::xblk ba0c0v2 96 ([.func (.yield La0c0v2vc0) #[] #[]])::xlp La0c0v2vc0 3 (fill (mk 165 [(6,.pointer (some ⟨ba0c0v2vc0v6,0,none⟩)),(9,.pointer (some ⟨ba0c0v2vc0v9,0,none⟩)),(18,.pointer (some ⟨ba0c0v2vc0v18,0,none⟩))]) la0c0v2vc0) #[107,108] p3_0 p3_1 Da0c0v2vc0 [p3_2] t15::xblk ba0c0v2vc0v6 4 ([.bool t16])::xblk ba0c0v2vc0v9 43 ([.slice Aa0c0v2vc0v9v_0 a0c0v2vc0v9v_0.length ca0c0v2vc0v9v_0,.slice Aa0c0v2vc0v9v_1 a0c0v2vc0v9v_1.length ca0c0v2vc0v9v_1,.slice Aa0c0v2vc0v9v_2 a0c0v2vc0v9v_2.length ca0c0v2vc0v9v_2,.slice Aa0c0v2vc0v9v_3 a0c0v2vc0v9v_3.length ca0c0v2vc0v9v_3,.slice Aa0c0v2vc0v9v_4 a0c0v2vc0v9v_4.length ca0c0v2vc0v9v_4,.slice Aa0c0v2vc0v9v_5 a0c0v2vc0v9v_5.length ca0c0v2vc0v9v_5,.slice Aa0c0v2vc0v9v_6 a0c0v2vc0v9v_6.length ca0c0v2vc0v9v_6,.bool a0c0v2vc0v9v_7,.map (some ba0c0v2vc0v9v_8)])::xmap ba0c0v2vc0v9v_8 (a0c0v2vc0v9v_8m.map (kv Value.string (Value.int .i64)))::xblk ba0c0v2vc0v18 3 ([.int .i64 t17])::xblk ba1 32 ([.string y44,.func (.func 28) #[] #[.pointer (some ⟨ba1v_1c0,0,none⟩),.pointer (some ⟨ba1v_1c1,0,none⟩)],.func (.func 31) #[] #[.pointer (some ⟨ba1v_1c1,0,none⟩),.pointer (some ⟨ba1v_1c0,0,none⟩)],.func (.func 32) #[] #[.pointer (some ⟨ba1v_1c0,0,none⟩),.pointer (some ⟨ba1v_1c1,0,none⟩)]])::xblk ba1v_1c0 33 ([.pointer (some ⟨ba1v_1c0v,0,none⟩)])::xblk ba1v_1c0v 49 ([.map (some ba1v_1c0vv_0),.map (some ba1v_1c0vv_1),.map (some ba1v_1c0vv_2),.bool t18])::xmap ba1v_1c0vv_0 (t19.map (kv Value.string (Value.int .i64)))::xmap ba1v_1c0vv_1 (a1v_1c0vv_1m.map (kv Value.string (Value.int .i64)))::xmap ba1v_1c0vv_2 (t20.map (kv Value.string (Value.int .i64)))::xblk ba1v_1c1 26 ([.slice Aa1v_1c1v_0 a1v_1c1v.Next.length ca1v_1c1v_0,.slice Aa1v_1c1v_1 a1v_1c1v.End.length ca1v_1c1v_1,.slice Aa1v_1c1v_2 a1v_1c1v.Value.length ca1v_1c1v_2,.int .i64 a1v_1c1v.Start])::xblk ba2 130 ([.nilFunc])::fs) w21),Runs Try.prog (fx 44) [] (fill (mk 75 []) l25) w21 R:=by
   intro t15 t16 t17 t18 t19 t20 he26 l25 w21 hS22
   subst he26
   try dsimp only at hp14
   refine runs_end (fn:=Try.f44) (v:=.tuple #[]) Try.func44 (by kernel_rfl) ?_
   cases Option.some.inj hp14
   exact hR _ _ ⟨rfl,hS22⟩
  have L47 : ∀ (t28 : List ByteArray) (t32 : Int) (t33 : Bool) (t34 : Int) (t35 : Bool) (t36 t37 : List (ByteArray × Int)) (t38 : List (ByteArray × explore_visit)) (e42 : Sum (Int × Bool × Int × Bool × (List (ByteArray × Int)) × (List (ByteArray × Int))) (Int × Int × Bool × Int × Bool × (List (ByteArray × Int)) × (List (ByteArray × Int)))),explore_walk_1_1.l0 a0c0v2vc0v9v_0 a0c0v2vc0v9v_1 a0c0v2vc0v9v_2 a0c0v2vc0v9v_3 a0c0v2vc0v9v_4 a0c0v2vc0v9v_5 a0c0v2vc0v9v_6 a0c0v2vc0v9v_7 a0c0v2vc0v9v_8m y44 a1v_1c0vv_1m a1v_1c1v t28 t32 t33 t34 t35 t36 t37 t38 = some e42 → e42 = v12 → ∀ (l41 : List Value) (A29 : Option Addr) (c30 : Nat) (w39 : World) (hS40 : St w0 Z (xlp La0c0 34 (fill (mk 17 [(2,.pointer (some ⟨ba0c0v2,0,none⟩))]) la0c0) #[7,8] p34_0 p34_1 Da0c0 [p34_2] 0::xblk ba0c0v2 96 ([.func (.yield La0c0v2vc0) #[] #[]])::xlp La0c0v2vc0 3 (fill (mk 165 [(6,.pointer (some ⟨ba0c0v2vc0v6,0,none⟩)),(9,.pointer (some ⟨ba0c0v2vc0v9,0,none⟩)),(18,.pointer (some ⟨ba0c0v2vc0v18,0,none⟩))]) la0c0v2vc0) #[107,108] p3_0 p3_1 Da0c0v2vc0 [p3_2] t32::xblk ba0c0v2vc0v6 4 ([.bool t33])::xblk ba0c0v2vc0v9 43 ([.slice Aa0c0v2vc0v9v_0 a0c0v2vc0v9v_0.length ca0c0v2vc0v9v_0,.slice Aa0c0v2vc0v9v_1 a0c0v2vc0v9v_1.length ca0c0v2vc0v9v_1,.slice Aa0c0v2vc0v9v_2 a0c0v2vc0v9v_2.length ca0c0v2vc0v9v_2,.slice Aa0c0v2vc0v9v_3 a0c0v2vc0v9v_3.length ca0c0v2vc0v9v_3,.slice Aa0c0v2vc0v9v_4 a0c0v2vc0v9v_4.length ca0c0v2vc0v9v_4,.slice Aa0c0v2vc0v9v_5 a0c0v2vc0v9v_5.length ca0c0v2vc0v9v_5,.slice Aa0c0v2vc0v9v_6 a0c0v2vc0v9v_6.length ca0c0v2vc0v9v_6,.bool a0c0v2vc0v9v_7,.map (some ba0c0v2vc0v9v_8)])::xmap ba0c0v2vc0v9v_8 (a0c0v2vc0v9v_8m.map (kv Value.string (Value.int .i64)))::xblk ba0c0v2vc0v18 3 ([.int .i64 t34])::xblk ba1 32 ([.string y44,.func (.func 28) #[] #[.pointer (some ⟨ba1v_1c0,0,none⟩),.pointer (some ⟨ba1v_1c1,0,none⟩)],.func (.func 31) #[] #[.pointer (some ⟨ba1v_1c1,0,none⟩),.pointer (some ⟨ba1v_1c0,0,none⟩)],.func (.func 32) #[] #[.pointer (some ⟨ba1v_1c0,0,none⟩),.pointer (some ⟨ba1v_1c1,0,none⟩)]])::xblk ba1v_1c0 33 ([.pointer (some ⟨ba1v_1c0v,0,none⟩)])::xblk ba1v_1c0v 49 ([.map (some ba1v_1c0vv_0),.map (some ba1v_1c0vv_1),.map (some ba1v_1c0vv_2),.bool t35])::xmap ba1v_1c0vv_0 (t36.map (kv Value.string (Value.int .i64)))::xmap ba1v_1c0vv_1 (a1v_1c0vv_1m.map (kv Value.string (Value.int .i64)))::xmap ba1v_1c0vv_2 (t37.map (kv Value.string (Value.int .i64)))::xblk ba1v_1c1 26 ([.slice Aa1v_1c1v_0 a1v_1c1v.Next.length ca1v_1c1v_0,.slice Aa1v_1c1v_1 a1v_1c1v.End.length ca1v_1c1v_1,.slice Aa1v_1c1v_2 a1v_1c1v.Value.length ca1v_1c1v_2,.int .i64 a1v_1c1v.Start])::xblk ba2 130 ([.nilFunc])::xmap b1 (t38.map (kv Value.string (fun v => Value.agg (enc_explore_visit v).toArray)))::xrow A29 c30 9 1 (t28.flatMap encS)::fs) w39),Runs Try.prog (fx 44) td53 (fill (mk 75 [(0,.func (.yield La0c0) #[] #[]),(1,.pointer (some ⟨ba1,0,none⟩)),(2,.pointer (some ⟨ba2,0,none⟩)),(4,.map (some b1)),(5,.slice A29 t28.length c30)]) l41) w39 R:=by
   refine explore_walk_1_1.l0.partial_correctness a0c0v2vc0v9v_0 a0c0v2vc0v9v_1 a0c0v2vc0v9v_2 a0c0v2vc0v9v_3 a0c0v2vc0v9v_4 a0c0v2vc0v9v_5 a0c0v2vc0v9v_6 a0c0v2vc0v9v_7 a0c0v2vc0v9v_8m y44 a1v_1c0vv_1m a1v_1c1v (fun t28 t32 t33 t34 t35 t36 t37 t38 e42 => e42 = v12 → ∀ (l41 : List Value) (A29 : Option Addr) (c30 : Nat) (w39 : World) (hS40 : St w0 Z (xlp La0c0 34 (fill (mk 17 [(2,.pointer (some ⟨ba0c0v2,0,none⟩))]) la0c0) #[7,8] p34_0 p34_1 Da0c0 [p34_2] 0::xblk ba0c0v2 96 ([.func (.yield La0c0v2vc0) #[] #[]])::xlp La0c0v2vc0 3 (fill (mk 165 [(6,.pointer (some ⟨ba0c0v2vc0v6,0,none⟩)),(9,.pointer (some ⟨ba0c0v2vc0v9,0,none⟩)),(18,.pointer (some ⟨ba0c0v2vc0v18,0,none⟩))]) la0c0v2vc0) #[107,108] p3_0 p3_1 Da0c0v2vc0 [p3_2] t32::xblk ba0c0v2vc0v6 4 ([.bool t33])::xblk ba0c0v2vc0v9 43 ([.slice Aa0c0v2vc0v9v_0 a0c0v2vc0v9v_0.length ca0c0v2vc0v9v_0,.slice Aa0c0v2vc0v9v_1 a0c0v2vc0v9v_1.length ca0c0v2vc0v9v_1,.slice Aa0c0v2vc0v9v_2 a0c0v2vc0v9v_2.length ca0c0v2vc0v9v_2,.slice Aa0c0v2vc0v9v_3 a0c0v2vc0v9v_3.length ca0c0v2vc0v9v_3,.slice Aa0c0v2vc0v9v_4 a0c0v2vc0v9v_4.length ca0c0v2vc0v9v_4,.slice Aa0c0v2vc0v9v_5 a0c0v2vc0v9v_5.length ca0c0v2vc0v9v_5,.slice Aa0c0v2vc0v9v_6 a0c0v2vc0v9v_6.length ca0c0v2vc0v9v_6,.bool a0c0v2vc0v9v_7,.map (some ba0c0v2vc0v9v_8)])::xmap ba0c0v2vc0v9v_8 (a0c0v2vc0v9v_8m.map (kv Value.string (Value.int .i64)))::xblk ba0c0v2vc0v18 3 ([.int .i64 t34])::xblk ba1 32 ([.string y44,.func (.func 28) #[] #[.pointer (some ⟨ba1v_1c0,0,none⟩),.pointer (some ⟨ba1v_1c1,0,none⟩)],.func (.func 31) #[] #[.pointer (some ⟨ba1v_1c1,0,none⟩),.pointer (some ⟨ba1v_1c0,0,none⟩)],.func (.func 32) #[] #[.pointer (some ⟨ba1v_1c0,0,none⟩),.pointer (some ⟨ba1v_1c1,0,none⟩)]])::xblk ba1v_1c0 33 ([.pointer (some ⟨ba1v_1c0v,0,none⟩)])::xblk ba1v_1c0v 49 ([.map (some ba1v_1c0vv_0),.map (some ba1v_1c0vv_1),.map (some ba1v_1c0vv_2),.bool t35])::xmap ba1v_1c0vv_0 (t36.map (kv Value.string (Value.int .i64)))::xmap ba1v_1c0vv_1 (a1v_1c0vv_1m.map (kv Value.string (Value.int .i64)))::xmap ba1v_1c0vv_2 (t37.map (kv Value.string (Value.int .i64)))::xblk ba1v_1c1 26 ([.slice Aa1v_1c1v_0 a1v_1c1v.Next.length ca1v_1c1v_0,.slice Aa1v_1c1v_1 a1v_1c1v.End.length ca1v_1c1v_1,.slice Aa1v_1c1v_2 a1v_1c1v.Value.length ca1v_1c1v_2,.int .i64 a1v_1c1v.Start])::xblk ba2 130 ([.nilFunc])::xmap b1 (t38.map (kv Value.string (fun v => Value.agg (enc_explore_visit v).toArray)))::xrow A29 c30 9 1 (t28.flatMap encS)::fs) w39),Runs Try.prog (fx 44) td53 (fill (mk 75 [(0,.func (.yield La0c0) #[] #[]),(1,.pointer (some ⟨ba1,0,none⟩)),(2,.pointer (some ⟨ba2,0,none⟩)),(4,.map (some b1)),(5,.slice A29 t28.length c30)]) l41) w39 R) ?_
   intro rec46 ih45 t28 t32 t33 t34 t35 t36 t37 t38 e42 hb44 he43 l41 A29 c30 w39 hS40
   have hq48 : ∀ x,Sum.inr x = e42 → x = (q0,q1,q2,q3,q4,q5,q6):=fun x hx => hq23 x (hx.trans he43)
   refine sI 6 (.inRegion (opsOf (cd44 [1,1,0,0,0,0])) []::.code (cd44 [1,1,0,0,0,1])::.code (cd44 [1,1,0,0,1])::td52) 22 hb44 (fun hp51 => ?_) fun hp292 => ?_
   ·refine sR 7 (.inRegion (opsOf (cd44 [1,1,0,0,1,0,0])) [1,2,3]::.code (cd44 [1,1,0,0,1,0,1])::td54) ?_
    obtain ⟨g52,hp53⟩:=ite_some hp51
    obtain ⟨b54,p55,hA56,-⟩:=(hS40.row 16 rfl).at_ len_encS (by omega) g52.1 g52.2
    refine r_indexAddr (c:=(cd44 [1,1,0,0,1,0,0])) (i:=1) (d:=(some 24)) (ty:=0) (t:=36) (e:=9) (n:=t28.length) (cp:=c30) (sz:=1) (kk:=.i64) (x:=(.tmp 23)) (y:=(.const (.int .i64 0))) (b:=b54) (o':=p55) (j:=(0 : Int)) (by kernel_rfl) (by kernel_rfl) (slv (by kernel_rfl) hA56) (by kernel_rfl) (by kernel_rfl) (by kernel_rfl) g52.1 g52.2 ?_
    refine rL1 9 (.tmp 24) 0 ((hS40.row 16 rfl).at2 hA56 len_encS (by omega) g52.1 g52.2) ?_
    refine sR 5 (.inRegion (opsOf (cd44 [1,1,0,0,1,0,1,0])) [1,2]::.code (cd44 [1,1,0,0,1,0,1,1])::td54) ?_
    obtain ⟨g58,hp59⟩:=ite_some hp53
    have hS64:=hS40.pick16
    obtain ⟨A60,c61,hr62,hS65⟩:=hS64.cutrow len_encS (by omega) ((1 : Int).toNat) (t28.length) (by omega) (by omega)
    refine rV (.slice 36 (.tmp 26) (some (.const (.int .i64 1))) none none) (.slice A60 ((t28.take t28.length).drop ((1 : Int).toNat)).length c61) (fun o ho _ => x_cutSl_sn (e:=9) (sz:=1) (A:=A29) (n:=t28.length) (c:=c30) (k:=.i64) (by kernel_rfl) (by kernel_rfl) (by kernel_rfl) (by kernel_rfl) g58 hr62 ho) ?_
    refine sR 8 (.inRegion (opsOf p44_12) [3,4]::.code (cd44 [1,1,0,0,1,0,1,1,0,1])::.code p44_14::td54) ?_
    obtain ⟨g67,hp68⟩:=ite_some hp59
    have hS69 : St w0 Z (xrow A60 c61 9 1 (((t28.take t28.length).drop ((1 : Int).toNat)).flatMap encS)::xlp La0c0 34 (fill (mk 17 [(2,.pointer (some ⟨ba0c0v2,0,none⟩))]) la0c0) #[7,8] p34_0 p34_1 Da0c0 [p34_2] 0::xblk ba0c0v2 96 ([.func (.yield La0c0v2vc0) #[] #[]])::xlp La0c0v2vc0 3 (fill (mk 165 [(6,.pointer (some ⟨ba0c0v2vc0v6,0,none⟩)),(9,.pointer (some ⟨ba0c0v2vc0v9,0,none⟩)),(18,.pointer (some ⟨ba0c0v2vc0v18,0,none⟩))]) la0c0v2vc0) #[107,108] p3_0 p3_1 Da0c0v2vc0 [p3_2] 0::xblk ba0c0v2vc0v6 4 ([.bool t33])::xblk ba0c0v2vc0v9 43 ([.slice Aa0c0v2vc0v9v_0 a0c0v2vc0v9v_0.length ca0c0v2vc0v9v_0,.slice Aa0c0v2vc0v9v_1 a0c0v2vc0v9v_1.length ca0c0v2vc0v9v_1,.slice Aa0c0v2vc0v9v_2 a0c0v2vc0v9v_2.length ca0c0v2vc0v9v_2,.slice Aa0c0v2vc0v9v_3 a0c0v2vc0v9v_3.length ca0c0v2vc0v9v_3,.slice Aa0c0v2vc0v9v_4 a0c0v2vc0v9v_4.length ca0c0v2vc0v9v_4,.slice Aa0c0v2vc0v9v_5 a0c0v2vc0v9v_5.length ca0c0v2vc0v9v_5,.slice Aa0c0v2vc0v9v_6 a0c0v2vc0v9v_6.length ca0c0v2vc0v9v_6,.bool a0c0v2vc0v9v_7,.map (some ba0c0v2vc0v9v_8)])::xmap ba0c0v2vc0v9v_8 (a0c0v2vc0v9v_8m.map (kv Value.string (Value.int .i64)))::xblk ba0c0v2vc0v18 3 ([.int .i64 t34])::xblk ba1 32 ([.string y44,.func (.func 28) #[] #[.pointer (some ⟨ba1v_1c0,0,none⟩),.pointer (some ⟨ba1v_1c1,0,none⟩)],.func (.func 31) #[] #[.pointer (some ⟨ba1v_1c1,0,none⟩),.pointer (some ⟨ba1v_1c0,0,none⟩)],.func (.func 32) #[] #[.pointer (some ⟨ba1v_1c0,0,none⟩),.pointer (some ⟨ba1v_1c1,0,none⟩)]])::xblk ba1v_1c0 33 ([.pointer (some ⟨ba1v_1c0v,0,none⟩)])::xblk ba1v_1c0v 49 ([.map (some ba1v_1c0vv_0),.map (some ba1v_1c0vv_1),.map (some ba1v_1c0vv_2),.bool t35])::xmap ba1v_1c0vv_0 (t36.map (kv Value.string (Value.int .i64)))::xmap ba1v_1c0vv_1 (a1v_1c0vv_1m.map (kv Value.string (Value.int .i64)))::xmap ba1v_1c0vv_2 (t37.map (kv Value.string (Value.int .i64)))::xblk ba1v_1c1 26 ([.slice Aa1v_1c1v_0 a1v_1c1v.Next.length ca1v_1c1v_0,.slice Aa1v_1c1v_1 a1v_1c1v.End.length ca1v_1c1v_1,.slice Aa1v_1c1v_2 a1v_1c1v.Value.length ca1v_1c1v_2,.int .i64 a1v_1c1v.Start])::xblk ba2 130 ([.nilFunc])::xmap b1 (t38.map (kv Value.string (fun v => Value.agg (enc_explore_visit v).toArray)))::fs) w39:=by have h:=hS65; rw [g67] at h; exact h
    obtain ⟨⟨t70,t71,t72,t73⟩,hr74,hp75⟩:=bind_some' hp68
    try dsimp only at hp75
    have hS83:=hS69.pick7
    have hS84:=hS83.pick7
    have hS85:=hS84.pick7
    have hS86:=hS85.pick7
    have hS87:=hS86.pick7
    have hS88:=hS87.pick7
    have hS89:=hS88.pick7
    have hS90:=hS89.pick16
    refine r_yield (c:=p44_12) (i:=3) (d:=(some 31)) (args:=#[.string (gt t28 (0 : Int)),.map (some b1)]) (hS90.lp 1 rfl) (by kernel_rfl) (by kernel_rfl) (by kernel_rfl) (by kernel_rfl) (explore_States_1_r_1.ok (gt t28 (0 : Int)) t38 t33 a0c0v2vc0v9v_0 a0c0v2vc0v9v_1 a0c0v2vc0v9v_2 a0c0v2vc0v9v_3 a0c0v2vc0v9v_4 a0c0v2vc0v9v_5 a0c0v2vc0v9v_6 a0c0v2vc0v9v_7 a0c0v2vc0v9v_8m t34 b1 La0c0 Da0c0 la0c0 ba0c0v2 La0c0v2vc0 Da0c0v2vc0 la0c0v2vc0 ba0c0v2vc0v6 ba0c0v2vc0v9 Aa0c0v2vc0v9v_0 ca0c0v2vc0v9v_0 Aa0c0v2vc0v9v_1 ca0c0v2vc0v9v_1 Aa0c0v2vc0v9v_2 ca0c0v2vc0v9v_2 Aa0c0v2vc0v9v_3 ca0c0v2vc0v9v_3 Aa0c0v2vc0v9v_4 ca0c0v2vc0v9v_4 Aa0c0v2vc0v9v_5 ca0c0v2vc0v9v_5 Aa0c0v2vc0v9v_6 ca0c0v2vc0v9v_6 ba0c0v2vc0v9v_8 ba0c0v2vc0v18 hS90 ha0c0v2vc0v9v_0 ha0c0v2vc0v9v_1 ha0c0v2vc0v9v_2 ha0c0v2vc0v9v_3 ha0c0v2vc0v9v_4 ha0c0v2vc0v9v_5 ha0c0v2vc0v9v_6 hr74) rfl (by kernel_rfl) ?_
    rintro _ w91 ⟨rfl,hS92⟩
    refine ⟨_,rfl,?_⟩
    refine r_split (decide (t70 = 0)) (fun h93 => ?_) (fun h94 => ?_)
    ·have hp95:=ite_t hp75 h93
     obtain rfl:=of_decide_eq_true h93
     refine sR 6 (iR p44_15 0 4::.code p44_16::td54) ?_
     refine rLa 32 (.tmp 1) (hS92.blk 9 rfl) ?_
     refine sR 1 (.inRegion (opsOf p44_15) [2,3]::.code p44_16::td54) ?_
     obtain ⟨⟨t96,t97,t98,t99⟩,hr102,hp103⟩:=bind_some' hp95
     try dsimp only at hp103
     have hS108:=hS92.pick15
     have hS109:=hS108.pick15
     have hS110:=hS109.pick15
     have hS111:=hS110.pick15
     have hS112:=hS111.pick15
     have hS113:=hS112.pick15
     refine rC (explore_moves.ok hr102 hS113 ha1v_1c1v_0 ha1v_1c1v_1 ha1v_1c1v_2) ?_
     rintro _ w114 ⟨Q100,Q101,rfl,hS115⟩
     refine ⟨_,rfl,?_⟩
     refine sR 5 (.inRegion (opsOf (cd44 [1,1,0,0,1,0,1,1,1,1,0,0])) [0,1]::.code (cd44 [1,1,0,0,1,0,1,1,1,1,0,1])::.code (cd44 [1,1,0,0,1,0,1,1,1,1,1])::td54) ?_
     refine rL1 130 (.tmp 2) 0 (hS115.blk 17 rfl) ?_
     refine sR 12 td57 ?_
     obtain ⟨v116,hv117,hp118⟩:=bind_some' hp103
     have J126 : ∀ (t119 : List ByteArray) (t123 : List (ByteArray × explore_visit)) (he128 : (t119,t123) = v116) (l127 : List Value) (A120 : Option Addr) (c121 : Nat) (w124 : World) (hS125 : St w0 Z (xlp La0c0 34 (fill (mk 17 [(2,.pointer (some ⟨ba0c0v2,0,none⟩))]) la0c0) #[7,8] p34_0 p34_1 Da0c0 [p34_2] 0::xblk ba0c0v2 96 ([.func (.yield La0c0v2vc0) #[] #[]])::xlp La0c0v2vc0 3 (fill (mk 165 [(6,.pointer (some ⟨ba0c0v2vc0v6,0,none⟩)),(9,.pointer (some ⟨ba0c0v2vc0v9,0,none⟩)),(18,.pointer (some ⟨ba0c0v2vc0v18,0,none⟩))]) la0c0v2vc0) #[107,108] p3_0 p3_1 Da0c0v2vc0 [p3_2] t71::xblk ba0c0v2vc0v6 4 ([.bool t72])::xblk ba0c0v2vc0v9 43 ([.slice Aa0c0v2vc0v9v_0 a0c0v2vc0v9v_0.length ca0c0v2vc0v9v_0,.slice Aa0c0v2vc0v9v_1 a0c0v2vc0v9v_1.length ca0c0v2vc0v9v_1,.slice Aa0c0v2vc0v9v_2 a0c0v2vc0v9v_2.length ca0c0v2vc0v9v_2,.slice Aa0c0v2vc0v9v_3 a0c0v2vc0v9v_3.length ca0c0v2vc0v9v_3,.slice Aa0c0v2vc0v9v_4 a0c0v2vc0v9v_4.length ca0c0v2vc0v9v_4,.slice Aa0c0v2vc0v9v_5 a0c0v2vc0v9v_5.length ca0c0v2vc0v9v_5,.slice Aa0c0v2vc0v9v_6 a0c0v2vc0v9v_6.length ca0c0v2vc0v9v_6,.bool a0c0v2vc0v9v_7,.map (some ba0c0v2vc0v9v_8)])::xmap ba0c0v2vc0v9v_8 (a0c0v2vc0v9v_8m.map (kv Value.string (Value.int .i64)))::xblk ba0c0v2vc0v18 3 ([.int .i64 t73])::xblk ba1 32 ([.string y44,.func (.func 28) #[] #[.pointer (some ⟨ba1v_1c0,0,none⟩),.pointer (some ⟨ba1v_1c1,0,none⟩)],.func (.func 31) #[] #[.pointer (some ⟨ba1v_1c1,0,none⟩),.pointer (some ⟨ba1v_1c0,0,none⟩)],.func (.func 32) #[] #[.pointer (some ⟨ba1v_1c0,0,none⟩),.pointer (some ⟨ba1v_1c1,0,none⟩)]])::xblk ba1v_1c0 33 ([.pointer (some ⟨ba1v_1c0v,0,none⟩)])::xblk ba1v_1c0v 49 ([.map (some ba1v_1c0vv_0),.map (some ba1v_1c0vv_1),.map (some ba1v_1c0vv_2),.bool t97])::xmap ba1v_1c0vv_0 (t98.map (kv Value.string (Value.int .i64)))::xmap ba1v_1c0vv_1 (a1v_1c0vv_1m.map (kv Value.string (Value.int .i64)))::xmap ba1v_1c0vv_2 (t99.map (kv Value.string (Value.int .i64)))::xblk ba1v_1c1 26 ([.slice Aa1v_1c1v_0 a1v_1c1v.Next.length ca1v_1c1v_0,.slice Aa1v_1c1v_1 a1v_1c1v.End.length ca1v_1c1v_1,.slice Aa1v_1c1v_2 a1v_1c1v.Value.length ca1v_1c1v_2,.int .i64 a1v_1c1v.Start])::xblk ba2 130 ([.nilFunc])::xmap b1 (t123.map (kv Value.string (fun v => Value.agg (enc_explore_visit v).toArray)))::xrow A120 c121 9 1 (t119.flatMap encS)::fs) w124),Runs Try.prog (fx 44) td54 (fill (mk 75 [(0,.func (.yield La0c0) #[] #[]),(1,.pointer (some ⟨ba1,0,none⟩)),(2,.pointer (some ⟨ba2,0,none⟩)),(4,.map (some b1)),(5,.slice A120 t119.length c121)]) l127) w124 R:=by
      intro t119 t123 he128 l127 A120 c121 w124 hS125
      subst he128
      try dsimp only at hp118
      refine sR 1 td52 ?_
      refine sR 1 td53 ?_
      exact rF _ (ih45 t119 t71 t72 t73 t97 t98 t99 t123 _ hp118 he43 _ A120 c121 _ hS125)
     have L143 : ∀ (t129 : List ByteArray) (t133 : Int) (t134 : List (ByteArray × explore_visit)) (e138 : ((List ByteArray) × (List (ByteArray × explore_visit)))),explore_walk_1_1.l1 t28 t96 t129 t133 t134 = some e138 → e138 = v116 → ∀ (l137 : List Value) (A130 : Option Addr) (c131 : Nat) (w135 : World) (hS136 : St w0 Z (xlp La0c0 34 (fill (mk 17 [(2,.pointer (some ⟨ba0c0v2,0,none⟩))]) la0c0) #[7,8] p34_0 p34_1 Da0c0 [p34_2] 0::xblk ba0c0v2 96 ([.func (.yield La0c0v2vc0) #[] #[]])::xlp La0c0v2vc0 3 (fill (mk 165 [(6,.pointer (some ⟨ba0c0v2vc0v6,0,none⟩)),(9,.pointer (some ⟨ba0c0v2vc0v9,0,none⟩)),(18,.pointer (some ⟨ba0c0v2vc0v18,0,none⟩))]) la0c0v2vc0) #[107,108] p3_0 p3_1 Da0c0v2vc0 [p3_2] t71::xblk ba0c0v2vc0v6 4 ([.bool t72])::xblk ba0c0v2vc0v9 43 ([.slice Aa0c0v2vc0v9v_0 a0c0v2vc0v9v_0.length ca0c0v2vc0v9v_0,.slice Aa0c0v2vc0v9v_1 a0c0v2vc0v9v_1.length ca0c0v2vc0v9v_1,.slice Aa0c0v2vc0v9v_2 a0c0v2vc0v9v_2.length ca0c0v2vc0v9v_2,.slice Aa0c0v2vc0v9v_3 a0c0v2vc0v9v_3.length ca0c0v2vc0v9v_3,.slice Aa0c0v2vc0v9v_4 a0c0v2vc0v9v_4.length ca0c0v2vc0v9v_4,.slice Aa0c0v2vc0v9v_5 a0c0v2vc0v9v_5.length ca0c0v2vc0v9v_5,.slice Aa0c0v2vc0v9v_6 a0c0v2vc0v9v_6.length ca0c0v2vc0v9v_6,.bool a0c0v2vc0v9v_7,.map (some ba0c0v2vc0v9v_8)])::xmap ba0c0v2vc0v9v_8 (a0c0v2vc0v9v_8m.map (kv Value.string (Value.int .i64)))::xblk ba0c0v2vc0v18 3 ([.int .i64 t73])::xblk ba1 32 ([.string y44,.func (.func 28) #[] #[.pointer (some ⟨ba1v_1c0,0,none⟩),.pointer (some ⟨ba1v_1c1,0,none⟩)],.func (.func 31) #[] #[.pointer (some ⟨ba1v_1c1,0,none⟩),.pointer (some ⟨ba1v_1c0,0,none⟩)],.func (.func 32) #[] #[.pointer (some ⟨ba1v_1c0,0,none⟩),.pointer (some ⟨ba1v_1c1,0,none⟩)]])::xblk ba1v_1c0 33 ([.pointer (some ⟨ba1v_1c0v,0,none⟩)])::xblk ba1v_1c0v 49 ([.map (some ba1v_1c0vv_0),.map (some ba1v_1c0vv_1),.map (some ba1v_1c0vv_2),.bool t97])::xmap ba1v_1c0vv_0 (t98.map (kv Value.string (Value.int .i64)))::xmap ba1v_1c0vv_1 (a1v_1c0vv_1m.map (kv Value.string (Value.int .i64)))::xmap ba1v_1c0vv_2 (t99.map (kv Value.string (Value.int .i64)))::xblk ba1v_1c1 26 ([.slice Aa1v_1c1v_0 a1v_1c1v.Next.length ca1v_1c1v_0,.slice Aa1v_1c1v_1 a1v_1c1v.End.length ca1v_1c1v_1,.slice Aa1v_1c1v_2 a1v_1c1v.Value.length ca1v_1c1v_2,.int .i64 a1v_1c1v.Start])::xblk ba2 130 ([.nilFunc])::xmap b1 (t134.map (kv Value.string (fun v => Value.agg (enc_explore_visit v).toArray)))::xrow A130 c131 9 1 (t129.flatMap encS)::xrow Q100 Q101 122 4 (t96.flatMap enc_explore_edge)::fs) w135),Runs Try.prog (fx 44) td57 (fill (mk 75 [(0,.func (.yield La0c0) #[] #[]),(1,.pointer (some ⟨ba1,0,none⟩)),(2,.pointer (some ⟨ba2,0,none⟩)),(4,.map (some b1)),(5,.slice A130 t129.length c131),(6,.string (gt t28 (0 : Int))),(42,.slice Q100 t96.length Q101),(43,.int .i64 (t96.length : Int)),(44,.int .i64 t133)]) l137) w135 R:=by
      refine explore_walk_1_1.l1.partial_correctness t28 t96 (fun t129 t133 t134 e138 => e138 = v116 → ∀ (l137 : List Value) (A130 : Option Addr) (c131 : Nat) (w135 : World) (hS136 : St w0 Z (xlp La0c0 34 (fill (mk 17 [(2,.pointer (some ⟨ba0c0v2,0,none⟩))]) la0c0) #[7,8] p34_0 p34_1 Da0c0 [p34_2] 0::xblk ba0c0v2 96 ([.func (.yield La0c0v2vc0) #[] #[]])::xlp La0c0v2vc0 3 (fill (mk 165 [(6,.pointer (some ⟨ba0c0v2vc0v6,0,none⟩)),(9,.pointer (some ⟨ba0c0v2vc0v9,0,none⟩)),(18,.pointer (some ⟨ba0c0v2vc0v18,0,none⟩))]) la0c0v2vc0) #[107,108] p3_0 p3_1 Da0c0v2vc0 [p3_2] t71::xblk ba0c0v2vc0v6 4 ([.bool t72])::xblk ba0c0v2vc0v9 43 ([.slice Aa0c0v2vc0v9v_0 a0c0v2vc0v9v_0.length ca0c0v2vc0v9v_0,.slice Aa0c0v2vc0v9v_1 a0c0v2vc0v9v_1.length ca0c0v2vc0v9v_1,.slice Aa0c0v2vc0v9v_2 a0c0v2vc0v9v_2.length ca0c0v2vc0v9v_2,.slice Aa0c0v2vc0v9v_3 a0c0v2vc0v9v_3.length ca0c0v2vc0v9v_3,.slice Aa0c0v2vc0v9v_4 a0c0v2vc0v9v_4.length ca0c0v2vc0v9v_4,.slice Aa0c0v2vc0v9v_5 a0c0v2vc0v9v_5.length ca0c0v2vc0v9v_5,.slice Aa0c0v2vc0v9v_6 a0c0v2vc0v9v_6.length ca0c0v2vc0v9v_6,.bool a0c0v2vc0v9v_7,.map (some ba0c0v2vc0v9v_8)])::xmap ba0c0v2vc0v9v_8 (a0c0v2vc0v9v_8m.map (kv Value.string (Value.int .i64)))::xblk ba0c0v2vc0v18 3 ([.int .i64 t73])::xblk ba1 32 ([.string y44,.func (.func 28) #[] #[.pointer (some ⟨ba1v_1c0,0,none⟩),.pointer (some ⟨ba1v_1c1,0,none⟩)],.func (.func 31) #[] #[.pointer (some ⟨ba1v_1c1,0,none⟩),.pointer (some ⟨ba1v_1c0,0,none⟩)],.func (.func 32) #[] #[.pointer (some ⟨ba1v_1c0,0,none⟩),.pointer (some ⟨ba1v_1c1,0,none⟩)]])::xblk ba1v_1c0 33 ([.pointer (some ⟨ba1v_1c0v,0,none⟩)])::xblk ba1v_1c0v 49 ([.map (some ba1v_1c0vv_0),.map (some ba1v_1c0vv_1),.map (some ba1v_1c0vv_2),.bool t97])::xmap ba1v_1c0vv_0 (t98.map (kv Value.string (Value.int .i64)))::xmap ba1v_1c0vv_1 (a1v_1c0vv_1m.map (kv Value.string (Value.int .i64)))::xmap ba1v_1c0vv_2 (t99.map (kv Value.string (Value.int .i64)))::xblk ba1v_1c1 26 ([.slice Aa1v_1c1v_0 a1v_1c1v.Next.length ca1v_1c1v_0,.slice Aa1v_1c1v_1 a1v_1c1v.End.length ca1v_1c1v_1,.slice Aa1v_1c1v_2 a1v_1c1v.Value.length ca1v_1c1v_2,.int .i64 a1v_1c1v.Start])::xblk ba2 130 ([.nilFunc])::xmap b1 (t134.map (kv Value.string (fun v => Value.agg (enc_explore_visit v).toArray)))::xrow A130 c131 9 1 (t129.flatMap encS)::xrow Q100 Q101 122 4 (t96.flatMap enc_explore_edge)::fs) w135),Runs Try.prog (fx 44) td57 (fill (mk 75 [(0,.func (.yield La0c0) #[] #[]),(1,.pointer (some ⟨ba1,0,none⟩)),(2,.pointer (some ⟨ba2,0,none⟩)),(4,.map (some b1)),(5,.slice A130 t129.length c131),(6,.string (gt t28 (0 : Int))),(42,.slice Q100 t96.length Q101),(43,.int .i64 (t96.length : Int)),(44,.int .i64 t133)]) l137) w135 R) ?_
      intro rec142 ih141 t129 t133 t134 e138 hb140 he139 l137 A130 c131 w135 hS136
      refine sI 3 (.inRegion (opsOf (cd44 [1,1,0,0,1,0,1,1,1,1,1,1,0,0,0])) []::.code (cd44 [1,1,0,0,1,0,1,1,1,1,1,1,0,0,1])::td56) 45 hb140 (fun hp146 => ?_) fun hp267 => ?_
      ·refine sR 8 (iR p44_23 0 4::.code (cd44 [1,1,0,0,1,0,1,1,1,1,1,1,0,0,1,1,0,0,1])::td59) ?_
       obtain ⟨g147,hp148⟩:=ite_some hp146
       obtain ⟨b149,p150,hA151,-⟩:=(hS136.row 17 rfl).at_ len_explore_edge (by omega) g147.1 g147.2
       refine r_indexAddr (c:=p44_23) (i:=0) (d:=(some 46)) (ty:=0) (t:=120) (e:=122) (n:=t96.length) (cp:=Q101) (sz:=4) (kk:=.i64) (x:=(.tmp 42)) (y:=(.tmp 44)) (b:=b149) (o':=p150) (j:=t133) (by kernel_rfl) (by kernel_rfl) (slv (by kernel_rfl) hA151) (by kernel_rfl) (by kernel_rfl) (by kernel_rfl) g147.1 g147.2 ?_
       refine rLa 122 (.tmp 46) ((hS136.row 17 rfl).at2 hA151 len_explore_edge (by omega) g147.1 g147.2) ?_
       refine rA 122 (.agg (enc_explore_edge (⟨⟨0,0,0⟩,(⟨#[]⟩ : ByteArray)⟩ : explore_edge)).toArray) (enc_explore_edge (⟨⟨0,0,0⟩,(⟨#[]⟩ : ByteArray)⟩ : explore_edge)) hS136 ?_
       intro b153 w154 hS155
       refine rSA 122 (.tmp 9) (.tmp 47) (enc_explore_edge (gt t96 t133)) hS155 (one_explore_edge _) ?_
       intro w157 hS158
       refine sR 5 (iR p44_26 2 8::.code p44_27::td59) ?_
       refine rL1 9 (.tmp 50) 3 (hS158.blk 0 rfl) ?_
       refine rV (.lookup 100 (.tmp 49) (.tmp 51) true) (.tuple #[.agg (enc_explore_visit ((mget t134 ((gt t96 t133).to)).getD (⟨0,(⟨#[]⟩ : ByteArray),⟨0,0,0⟩⟩ : explore_visit))).toArray,.bool ((mget t134 ((gt t96 t133).to)).isSome)]) (fun o ho _ => x_lookup2 (eK:=Value.string) (eV:=(fun v => Value.agg (enc_explore_visit v).toArray)) (dk:=.string) (b:=b1) (t:=100) (kt:=9) (et:=102) (m:=t134) (kk:=((gt t96 t133).to)) (z:=(⟨0,(⟨#[]⟩ : ByteArray),⟨0,0,0⟩⟩ : explore_visit)) (hS158.at 16 rfl) key_str (by kernel_rfl) (by kernel_rfl) (by kernel_rfl) (by kernel_rfl) (by kernel_rfl) ho) ?_
       obtain ⟨v159,hv160,hp161⟩:=bind_some' hp148
       have J165 : ∀ (t162 : Bool) (he167 : t162 = v159) (l166 : List Value) (w163 : World) (hS164 : St w0 Z (xlp La0c0 34 (fill (mk 17 [(2,.pointer (some ⟨ba0c0v2,0,none⟩))]) la0c0) #[7,8] p34_0 p34_1 Da0c0 [p34_2] 0::xblk ba0c0v2 96 ([.func (.yield La0c0v2vc0) #[] #[]])::xlp La0c0v2vc0 3 (fill (mk 165 [(6,.pointer (some ⟨ba0c0v2vc0v6,0,none⟩)),(9,.pointer (some ⟨ba0c0v2vc0v9,0,none⟩)),(18,.pointer (some ⟨ba0c0v2vc0v18,0,none⟩))]) la0c0v2vc0) #[107,108] p3_0 p3_1 Da0c0v2vc0 [p3_2] t71::xblk ba0c0v2vc0v6 4 ([.bool t72])::xblk ba0c0v2vc0v9 43 ([.slice Aa0c0v2vc0v9v_0 a0c0v2vc0v9v_0.length ca0c0v2vc0v9v_0,.slice Aa0c0v2vc0v9v_1 a0c0v2vc0v9v_1.length ca0c0v2vc0v9v_1,.slice Aa0c0v2vc0v9v_2 a0c0v2vc0v9v_2.length ca0c0v2vc0v9v_2,.slice Aa0c0v2vc0v9v_3 a0c0v2vc0v9v_3.length ca0c0v2vc0v9v_3,.slice Aa0c0v2vc0v9v_4 a0c0v2vc0v9v_4.length ca0c0v2vc0v9v_4,.slice Aa0c0v2vc0v9v_5 a0c0v2vc0v9v_5.length ca0c0v2vc0v9v_5,.slice Aa0c0v2vc0v9v_6 a0c0v2vc0v9v_6.length ca0c0v2vc0v9v_6,.bool a0c0v2vc0v9v_7,.map (some ba0c0v2vc0v9v_8)])::xmap ba0c0v2vc0v9v_8 (a0c0v2vc0v9v_8m.map (kv Value.string (Value.int .i64)))::xblk ba0c0v2vc0v18 3 ([.int .i64 t73])::xblk ba1 32 ([.string y44,.func (.func 28) #[] #[.pointer (some ⟨ba1v_1c0,0,none⟩),.pointer (some ⟨ba1v_1c1,0,none⟩)],.func (.func 31) #[] #[.pointer (some ⟨ba1v_1c1,0,none⟩),.pointer (some ⟨ba1v_1c0,0,none⟩)],.func (.func 32) #[] #[.pointer (some ⟨ba1v_1c0,0,none⟩),.pointer (some ⟨ba1v_1c1,0,none⟩)]])::xblk ba1v_1c0 33 ([.pointer (some ⟨ba1v_1c0v,0,none⟩)])::xblk ba1v_1c0v 49 ([.map (some ba1v_1c0vv_0),.map (some ba1v_1c0vv_1),.map (some ba1v_1c0vv_2),.bool t97])::xmap ba1v_1c0vv_0 (t98.map (kv Value.string (Value.int .i64)))::xmap ba1v_1c0vv_1 (a1v_1c0vv_1m.map (kv Value.string (Value.int .i64)))::xmap ba1v_1c0vv_2 (t99.map (kv Value.string (Value.int .i64)))::xblk ba1v_1c1 26 ([.slice Aa1v_1c1v_0 a1v_1c1v.Next.length ca1v_1c1v_0,.slice Aa1v_1c1v_1 a1v_1c1v.End.length ca1v_1c1v_1,.slice Aa1v_1c1v_2 a1v_1c1v.Value.length ca1v_1c1v_2,.int .i64 a1v_1c1v.Start])::xblk ba2 130 ([.nilFunc])::xmap b1 (t134.map (kv Value.string (fun v => Value.agg (enc_explore_visit v).toArray)))::xrow A130 c131 9 1 (t129.flatMap encS)::xblk b153 122 (enc_explore_edge (gt t96 t133))::xrow Q100 Q101 122 4 (t96.flatMap enc_explore_edge)::fs) w163),Runs Try.prog (fx 44) td61 (fill (mk 75 [(0,.func (.yield La0c0) #[] #[]),(1,.pointer (some ⟨ba1,0,none⟩)),(2,.pointer (some ⟨ba2,0,none⟩)),(4,.map (some b1)),(5,.slice A130 t129.length c131),(6,.string (gt t28 (0 : Int))),(9,.pointer (some ⟨b153,0,none⟩)),(11,.bool t162),(42,.slice Q100 t96.length Q101),(43,.int .i64 (t96.length : Int)),(44,.int .i64 t133)]) l166) w163 R:=by
        intro t162 he167 l166 w163 hS164
        subst he167
        try dsimp only at hp161
        refine sI 3 (.inRegion (opsOf p44_28) []::td60) 56 hp161 (fun hp170 => ?_) fun hp208 => ?_
        ·refine sR 6 (iR p44_30 2 11::td62) ?_
         refine rL1 9 (.tmp 58) 3 (hS164.blk 17 rfl) ?_
         refine sR 2 (iR p44_30 5 8::td62) ?_
         refine rV (.lookup 100 (.tmp 60) (.tmp 61) false) (.agg (enc_explore_visit ((mget t134 (gt t28 (0 : Int))).getD (⟨0,(⟨#[]⟩ : ByteArray),⟨0,0,0⟩⟩ : explore_visit))).toArray) (fun o ho _ => x_lookup1 (eK:=Value.string) (eV:=(fun v => Value.agg (enc_explore_visit v).toArray)) (dk:=.string) (b:=b1) (t:=100) (kt:=9) (et:=102) (m:=t134) (kk:=(gt t28 (0 : Int))) (z:=(⟨0,(⟨#[]⟩ : ByteArray),⟨0,0,0⟩⟩ : explore_visit)) (hS164.at 15 rfl) key_str (by kernel_rfl) (by kernel_rfl) (by kernel_rfl) (by kernel_rfl) (by kernel_rfl) ho) ?_
         refine sR 4 (.inRegion (opsOf p44_30) [10,11,12]::td62) ?_
         refine rLa 88 (.tmp 66) (sub_explore_edge_by (hS164.blk 17 rfl)) ?_
         refine sR 1 (.inRegion (opsOf p44_30) [12]::td62) ?_
         have hS171:=hS164.pick15
         refine r_mapUpdate (c:=p44_30) (i:=12) (d:=none) (ty:=0) (eK:=Value.string) (eV:=(fun v => Value.agg (enc_explore_visit v).toArray)) (dk:=.string) (b:=b1) (t:=100) (kt:=9) (et:=102) (x:=(.tmp 57)) (y:=(.tmp 59)) (z:=(.tmp 68)) (m:=t134) (kk:=((gt t96 t133).to)) (v:=(⟨(IntKind.i64.wrap ((((mget t134 (gt t28 (0 : Int))).getD (⟨0,(⟨#[]⟩ : ByteArray),⟨0,0,0⟩⟩ : explore_visit)).depth) + 1)),(gt t28 (0 : Int)),(gt t96 t133).by_⟩ : explore_visit)) hS171 (by kernel_rfl) (by kernel_rfl) key_str (by kernel_rfl) (by kernel_rfl) (by kernel_rfl) (by kernel_rfl) (by kernel_rfl) ?_
         intro w172 hS173
         refine sR 4 (iR p44_31 2 4::td59) ?_
         refine rL1 9 (.tmp 70) 3 (hS173.blk 17 rfl) ?_
         refine r_lit (c:=p44_31) (i:=3) (d:=(some 72)) (ty:=36) (t:=36) (e:=9) (sz:=1) (n:=1) (parts:=#[(0,(.tmp 71))]) (vs:=[(0,.string ((gt t96 t133).to))]) (z:=zeroOf Try.prog 9) (cs':=([(gt t96 t133).to] : List ByteArray).flatMap encS) hS173 (by kernel_rfl) (by kernel_rfl) (by kernel_rfl) (by kernel_rfl) (by kernel_rfl) (by decide) (by decide) (by kernel_rfl) rfl (Parts.cons (c:=[.string ((gt t96 t133).to)]) (by kernel_rfl) rfl Parts.nil) rfl ?_
         intro b175 w176 hS177
         have hS178:=hS177.pick17
         obtain ⟨g179,hp180⟩:=ite_some hp170
         refine r_append (c:=p44_31) (i:=4) (d:=(some 73)) (ty:=36) (enc:=encS) (e:=9) (u:=9) (t:=36) (t2:=36) (sz:=1) (cp:=c131) (A:=A130) (bytes:=16) (xs:=t129) (ys:=([(gt t96 t133).to] : List ByteArray)) (s:=(.tmp 69)) (x:=(.tmp 72)) (xv:=.slice (some ⟨b175,0,none⟩) ([(gt t96 t133).to] : List ByteArray).length 1) (info:=infoOf Try.prog 9) (z:=zeroOf Try.prog 9) (ycs:=([(gt t96 t133).to] : List ByteArray).flatMap encS) hS178 (by kernel_rfl) (by kernel_rfl) (by kernel_rfl) (by kernel_rfl) (by kernel_rfl) (.inl (by kernel_rfl)) (by kernel_rfl) (by kernel_rfl) (by kernel_rfl) (by kernel_rfl) (by kernel_rfl) (by omega) len_encS one_encS (src_row (hS178.row 1 rfl) (by omega) len_encS) rfl g179 (by omega) ?_
         intro A181 c182 w183 hS184
         refine sR 7 td56 ?_
         have hS186:=hS184.pick1
         have hS187:=hS186.drop
         have hS188:=hS187.pick17
         have hS189:=hS188.drop
         have hS190:=hS189.pick17
         have hS191:=hS190.pick1
         have hS192:=hS191.pick2
         have hS193:=hS192.pick17
         have hS194:=hS193.pick17
         have hS195:=hS194.pick17
         have hS196:=hS195.pick17
         have hS197:=hS196.pick17
         have hS198:=hS197.pick17
         have hS199:=hS198.pick17
         have hS200:=hS199.pick17
         have hS201:=hS200.pick17
         have hS202:=hS201.pick17
         have hS203:=hS202.pick17
         have hS204:=hS203.pick17
         have hS205:=hS204.pick17
         have hS206:=hS205.pick17
         have hS207:=hS206.pick17
         refine sR 1 td57 ?_
         exact rF _ (ih141 (t129 ++ ([(gt t96 t133).to] : List ByteArray)) (IntKind.i64.wrap (t133 + 1)) (mput t134 ((gt t96 t133).to) (⟨(IntKind.i64.wrap ((((mget t134 (gt t28 (0 : Int))).getD (⟨0,(⟨#[]⟩ : ByteArray),⟨0,0,0⟩⟩ : explore_visit)).depth) + 1)),(gt t28 (0 : Int)),(gt t96 t133).by_⟩ : explore_visit)) _ hp180 he139 _ A181 c182 _ hS207)
        refine sR 8 td56 ?_
        have hS209:=hS164.pick17
        have hS210:=hS209.drop
        refine sR 1 td57 ?_
        exact rF _ (ih141 (id t129) (IntKind.i64.wrap (t133 + 1)) (id t134) _ hp208 he139 _ A130 c131 _ hS210)
       refine sI 3 (.inRegion (opsOf p44_26) [7,8,9]::.code p44_27::td59) 54 hv160 (fun hp213 => ?_) fun hp240 => ?_
       ·refine rA 102 (.agg (enc_explore_visit (⟨0,(⟨#[]⟩ : ByteArray),⟨0,0,0⟩⟩ : explore_visit)).toArray) (enc_explore_visit (⟨0,(⟨#[]⟩ : ByteArray),⟨0,0,0⟩⟩ : explore_visit)) hS158 ?_
        intro b214 w215 hS216
        refine rSA 102 (.tmp 10) (.tmp 53) (enc_explore_visit ((mget t134 ((gt t96 t133).to)).getD (⟨0,(⟨#[]⟩ : ByteArray),⟨0,0,0⟩⟩ : explore_visit))) hS216 (one_explore_visit _) ?_
        intro w218 hS219
        refine sR 3 td61 ?_
        have hS220:=hS219.drop
        have hS221:=hS220.pick18
        have hS222:=hS221.pick1
        have hS223:=hS222.pick18
        have hS224:=hS223.pick18
        have hS225:=hS224.pick18
        have hS226:=hS225.pick18
        have hS227:=hS226.pick18
        have hS228:=hS227.pick18
        have hS229:=hS228.pick18
        have hS230:=hS229.pick18
        have hS231:=hS230.pick18
        have hS232:=hS231.pick18
        have hS233:=hS232.pick18
        have hS234:=hS233.pick18
        have hS235:=hS234.pick18
        have hS236:=hS235.pick18
        have hS237:=hS236.pick18
        have hS238:=hS237.pick18
        have hS239:=hS238.pick18
        exact rF _ (J165 true (Option.some.inj hp213) _ _ hS239)
       refine rA 102 (.agg (enc_explore_visit (⟨0,(⟨#[]⟩ : ByteArray),⟨0,0,0⟩⟩ : explore_visit)).toArray) (enc_explore_visit (⟨0,(⟨#[]⟩ : ByteArray),⟨0,0,0⟩⟩ : explore_visit)) hS158 ?_
       intro b241 w242 hS243
       refine rSA 102 (.tmp 10) (.tmp 53) (enc_explore_visit ((mget t134 ((gt t96 t133).to)).getD (⟨0,(⟨#[]⟩ : ByteArray),⟨0,0,0⟩⟩ : explore_visit))) hS243 (one_explore_visit _) ?_
       intro w245 hS246
       refine sR 3 td61 ?_
       have hS247:=hS246.drop
       have hS248:=hS247.pick18
       have hS249:=hS248.pick1
       have hS250:=hS249.pick18
       have hS251:=hS250.pick18
       have hS252:=hS251.pick18
       have hS253:=hS252.pick18
       have hS254:=hS253.pick18
       have hS255:=hS254.pick18
       have hS256:=hS255.pick18
       have hS257:=hS256.pick18
       have hS258:=hS257.pick18
       have hS259:=hS258.pick18
       have hS260:=hS259.pick18
       have hS261:=hS260.pick18
       have hS262:=hS261.pick18
       have hS263:=hS262.pick18
       have hS264:=hS263.pick18
       have hS265:=hS264.pick18
       have hS266:=hS265.pick18
       exact rF _ (J165 false (Option.some.inj hp240) _ _ hS266)
      refine sR 4 td54 ?_
      have hS268:=hS136.pick17
      have hS269:=hS268.drop
      exact rF _ (J126 t129 t134 ((Option.some.inj hp267).trans he139) _ A130 c131 _ hS269)
     have hS270:=hS115.pick15
     have hS271:=hS270.pick8
     have hS272:=hS271.pick17
     have hS273:=hS272.pick9
     have hS274:=hS273.pick9
     have hS275:=hS274.pick9
     have hS276:=hS275.pick9
     have hS277:=hS276.pick9
     have hS278:=hS277.pick9
     have hS279:=hS278.pick17
     have hS280:=hS279.pick17
     have hS281:=hS280.pick17
     have hS282:=hS281.pick17
     have hS283:=hS282.pick17
     have hS284:=hS283.pick17
     have hS285:=hS284.pick17
     have hS286:=hS285.pick17
     exact rF _ (L143 ((t28.take t28.length).drop ((1 : Int).toNat)) 0 t38 _ hv117 rfl _ A60 c61 _ hS286)
    have hp287:=ite_f hp75 h94
    refine sR 3 (.code (cd44 [1,1,0,0,1,0,1,1,0,1,0])::.code p44_14::td54) ?_
    have hS288:=hS92.drop
    have hS289:=hS288.pick7
    have hS290:=hS289.drop
    refine rR (.tuple #[]) Try.func44 ?_
    cases hq48 _ (Option.some.inj hp287)
    exact hR _ _ ⟨rfl,hS290⟩
   refine sR 3 [] ?_
   have hS293:=hS40.pick15
   have hS294:=hS293.drop
   have hS295:=hS294.pick15
   have hS296:=hS295.drop
   exact rF _ (J24 t32 t33 t34 t35 t36 t37 ((Option.some.inj hp292).trans he43) _ _ hS296)
  have hS297:=hS11.pick1
  have hS298:=hS297.pick16
  have hS299:=hS298.pick16
  have hS300:=hS299.pick16
  have hS301:=hS300.pick16
  have hS302:=hS301.pick16
  have hS303:=hS302.pick16
  have hS304:=hS303.pick16
  have hS305:=hS304.pick16
  have hS306:=hS305.pick16
  have hS307:=hS306.pick16
  have hS308:=hS307.pick16
  have hS309:=hS308.pick16
  have hS310:=hS309.pick16
  have hS311:=hS310.pick16
  have hS312:=hS311.pick16
  exact rF _ (L47 ([y44] : List ByteArray) 0 a0c0v2vc0v6v a0c0v2vc0v18v a1v_1c0vv_3 a1v_1c0vv_0m a1v_1c0vv_2m (mput ([] : List (ByteArray × explore_visit)) y44 (⟨0,(⟨#[]⟩ : ByteArray),(⟨0,0,0⟩ : api_Pick)⟩ : explore_visit)) _ hv13 rfl _ (some ⟨b9,0,none⟩) 1 _ hS312)

def explore_States_1_1.f (a0c0v6v : Bool) (a0c0v9v_0 : List ByteArray) (a0c0v9v_1 : List Int) (a0c0v9v_2 : List (List weirref14_Move)) (a0c0v9v_3 : List Bool) (a0c0v9v_4 : List api_Final) (a0c0v9v_5 : List Int) (a0c0v9v_6 : List api_Pick) (a0c0v9v_7 : Bool) (a0c0v9v_8m : List (ByteArray × Int)) (a0c0v18v : Int) (y44 : ByteArray) (a1v_1c0vv_0m a1v_1c0vv_1m a1v_1c0vv_2m : List (ByteArray × Int)) (a1v_1c0vv_3 : Bool) (a1v_1c1v : weirlaw14_Net) : Option (Int × Bool × Int × Bool × (List (ByteArray × Int)) × (List (ByteArray × Int))) :=
  (explore_walk.f y44 a1v_1c0vv_0m a1v_1c0vv_1m a1v_1c0vv_2m a1v_1c0vv_3 a1v_1c1v >>= (fun t5 => (explore_walk_1_1.f a0c0v6v a0c0v9v_0 a0c0v9v_1 a0c0v9v_2 a0c0v9v_3 a0c0v9v_4 a0c0v9v_5 a0c0v9v_6 a0c0v9v_7 a0c0v9v_8m a0c0v18v t5 a1v_1c0vv_0m a1v_1c0vv_1m a1v_1c0vv_2m a1v_1c0vv_3 a1v_1c1v >>= (fun (t31,t32,t33,t34,t35,t36,t37) => (if decide (t31 = 0) = true then some ((t32,t33,t34,t35,t36,t37)) else (if t31 = 1 then some ((t32,t33,t34,t35,t36,t37)) else none))))))
theorem explore_States_1_1.ok {a0c0v6v : Bool} {a0c0v9v_0 : List ByteArray} {a0c0v9v_1 : List Int} {a0c0v9v_2 : List (List weirref14_Move)} {a0c0v9v_3 : List Bool} {a0c0v9v_4 : List api_Final} {a0c0v9v_5 : List Int} {a0c0v9v_6 : List api_Pick} {a0c0v9v_7 : Bool} {a0c0v9v_8m : List (ByteArray × Int)} {a0c0v18v : Int} {y44 : ByteArray} {a1v_1c0vv_0m a1v_1c0vv_1m a1v_1c0vv_2m : List (ByteArray × Int)} {a1v_1c0vv_3 : Bool} {a1v_1c1v : weirlaw14_Net} {La0c0 Da0c0 : Nat} {la0c0 : List Value} {ba0c0v6 ba0c0v9 : Nat} {Aa0c0v9v_0 : Option Addr} {ca0c0v9v_0 : Nat} {Aa0c0v9v_1 : Option Addr} {ca0c0v9v_1 : Nat} {Aa0c0v9v_2 : Option Addr} {ca0c0v9v_2 : Nat} {Aa0c0v9v_3 : Option Addr} {ca0c0v9v_3 : Nat} {Aa0c0v9v_4 : Option Addr} {ca0c0v9v_4 : Nat} {Aa0c0v9v_5 : Option Addr} {ca0c0v9v_5 : Nat} {Aa0c0v9v_6 : Option Addr} {ca0c0v9v_6 ba0c0v9v_8 : Nat} {ba0c0v18 ba1 : Nat} {ba1v_1c0 ba1v_1c0v : Nat} {ba1v_1c0vv_0 ba1v_1c0vv_1 : Nat} {ba1v_1c0vv_2 ba1v_1c1 : Nat} {Aa1v_1c1v_0 : Option Addr} {ca1v_1c1v_0 : Nat} {Aa1v_1c1v_1 : Option Addr} {ca1v_1c1v_1 : Nat} {Aa1v_1c1v_2 : Option Addr} {ca1v_1c1v_2 : Nat} {q0 : Int} {q1 : Bool} {q2 : Int} {q3 : Bool} {q4 q5 : List (ByteArray × Int)} (hp0 : explore_States_1_1.f a0c0v6v a0c0v9v_0 a0c0v9v_1 a0c0v9v_2 a0c0v9v_3 a0c0v9v_4 a0c0v9v_5 a0c0v9v_6 a0c0v9v_7 a0c0v9v_8m a0c0v18v y44 a1v_1c0vv_0m a1v_1c0vv_1m a1v_1c0vv_2m a1v_1c0vv_3 a1v_1c1v = some (q0,q1,q2,q3,q4,q5)) (hS0 : St w0 Z (xlp La0c0 3 (fill (mk 165 [(6,.pointer (some ⟨ba0c0v6,0,none⟩)),(9,.pointer (some ⟨ba0c0v9,0,none⟩)),(18,.pointer (some ⟨ba0c0v18,0,none⟩))]) la0c0) #[107,108] p3_0 p3_1 Da0c0 [p3_2] 0::xblk ba0c0v6 4 ([.bool a0c0v6v])::xblk ba0c0v9 43 ([.slice Aa0c0v9v_0 a0c0v9v_0.length ca0c0v9v_0,.slice Aa0c0v9v_1 a0c0v9v_1.length ca0c0v9v_1,.slice Aa0c0v9v_2 a0c0v9v_2.length ca0c0v9v_2,.slice Aa0c0v9v_3 a0c0v9v_3.length ca0c0v9v_3,.slice Aa0c0v9v_4 a0c0v9v_4.length ca0c0v9v_4,.slice Aa0c0v9v_5 a0c0v9v_5.length ca0c0v9v_5,.slice Aa0c0v9v_6 a0c0v9v_6.length ca0c0v9v_6,.bool a0c0v9v_7,.map (some ba0c0v9v_8)])::xmap ba0c0v9v_8 (a0c0v9v_8m.map (kv Value.string (Value.int .i64)))::xblk ba0c0v18 3 ([.int .i64 a0c0v18v])::xblk ba1 32 ([.string y44,.func (.func 28) #[] #[.pointer (some ⟨ba1v_1c0,0,none⟩),.pointer (some ⟨ba1v_1c1,0,none⟩)],.func (.func 31) #[] #[.pointer (some ⟨ba1v_1c1,0,none⟩),.pointer (some ⟨ba1v_1c0,0,none⟩)],.func (.func 32) #[] #[.pointer (some ⟨ba1v_1c0,0,none⟩),.pointer (some ⟨ba1v_1c1,0,none⟩)]])::xblk ba1v_1c0 33 ([.pointer (some ⟨ba1v_1c0v,0,none⟩)])::xblk ba1v_1c0v 49 ([.map (some ba1v_1c0vv_0),.map (some ba1v_1c0vv_1),.map (some ba1v_1c0vv_2),.bool a1v_1c0vv_3])::xmap ba1v_1c0vv_0 (a1v_1c0vv_0m.map (kv Value.string (Value.int .i64)))::xmap ba1v_1c0vv_1 (a1v_1c0vv_1m.map (kv Value.string (Value.int .i64)))::xmap ba1v_1c0vv_2 (a1v_1c0vv_2m.map (kv Value.string (Value.int .i64)))::xblk ba1v_1c1 26 ([.slice Aa1v_1c1v_0 a1v_1c1v.Next.length ca1v_1c1v_0,.slice Aa1v_1c1v_1 a1v_1c1v.End.length ca1v_1c1v_1,.slice Aa1v_1c1v_2 a1v_1c1v.Value.length ca1v_1c1v_2,.int .i64 a1v_1c1v.Start])::fs) w) (ha0c0v9v_0 : SlZ (flat encS) 1 Z Aa0c0v9v_0 ca0c0v9v_0 a0c0v9v_0) (ha0c0v9v_1 : SlZ (flat (encI .i64)) 1 Z Aa0c0v9v_1 ca0c0v9v_1 a0c0v9v_1) (ha0c0v9v_2 : SlZ (repL (flat enc_weirref14_Move) 4) 1 Z Aa0c0v9v_2 ca0c0v9v_2 a0c0v9v_2) (ha0c0v9v_3 : SlZ (flat encB) 1 Z Aa0c0v9v_3 ca0c0v9v_3 a0c0v9v_3) (ha0c0v9v_4 : SlZ (flat enc_api_Final) 49 Z Aa0c0v9v_4 ca0c0v9v_4 a0c0v9v_4) (ha0c0v9v_5 : SlZ (flat (encI .i64)) 1 Z Aa0c0v9v_5 ca0c0v9v_5 a0c0v9v_5) (ha0c0v9v_6 : SlZ (flat enc_api_Pick) 3 Z Aa0c0v9v_6 ca0c0v9v_6 a0c0v9v_6) (ha1v_1c1v_0 : SlZ (repL (flat (encI .i64)) 1) 1 Z Aa1v_1c1v_0 ca1v_1c1v_0 a1v_1c1v.Next) (ha1v_1c1v_1 : SlZ (flat encB) 1 Z Aa1v_1c1v_1 ca1v_1c1v_1 a1v_1c1v.End) (ha1v_1c1v_2 : SlZ (flat (encI .i64)) 1 Z Aa1v_1c1v_2 ca1v_1c1v_2 a1v_1c1v.Value) :
    Calls Try.prog 34 #[.func (.yield La0c0) #[] #[],.pointer (some ⟨ba1,0,none⟩)] w (fun e w' => e = .returned (.tuple #[]) ∧ St w0 Z (xlp La0c0 3 (fill (mk 165 [(6,.pointer (some ⟨ba0c0v6,0,none⟩)),(9,.pointer (some ⟨ba0c0v9,0,none⟩)),(18,.pointer (some ⟨ba0c0v18,0,none⟩))]) la0c0) #[107,108] p3_0 p3_1 Da0c0 [p3_2] q0::xblk ba0c0v6 4 ([.bool q1])::xblk ba0c0v9 43 ([.slice Aa0c0v9v_0 a0c0v9v_0.length ca0c0v9v_0,.slice Aa0c0v9v_1 a0c0v9v_1.length ca0c0v9v_1,.slice Aa0c0v9v_2 a0c0v9v_2.length ca0c0v9v_2,.slice Aa0c0v9v_3 a0c0v9v_3.length ca0c0v9v_3,.slice Aa0c0v9v_4 a0c0v9v_4.length ca0c0v9v_4,.slice Aa0c0v9v_5 a0c0v9v_5.length ca0c0v9v_5,.slice Aa0c0v9v_6 a0c0v9v_6.length ca0c0v9v_6,.bool a0c0v9v_7,.map (some ba0c0v9v_8)])::xmap ba0c0v9v_8 (a0c0v9v_8m.map (kv Value.string (Value.int .i64)))::xblk ba0c0v18 3 ([.int .i64 q2])::xblk ba1 32 ([.string y44,.func (.func 28) #[] #[.pointer (some ⟨ba1v_1c0,0,none⟩),.pointer (some ⟨ba1v_1c1,0,none⟩)],.func (.func 31) #[] #[.pointer (some ⟨ba1v_1c1,0,none⟩),.pointer (some ⟨ba1v_1c0,0,none⟩)],.func (.func 32) #[] #[.pointer (some ⟨ba1v_1c0,0,none⟩),.pointer (some ⟨ba1v_1c1,0,none⟩)]])::xblk ba1v_1c0 33 ([.pointer (some ⟨ba1v_1c0v,0,none⟩)])::xblk ba1v_1c0v 49 ([.map (some ba1v_1c0vv_0),.map (some ba1v_1c0vv_1),.map (some ba1v_1c0vv_2),.bool q3])::xmap ba1v_1c0vv_0 (q4.map (kv Value.string (Value.int .i64)))::xmap ba1v_1c0vv_1 (a1v_1c0vv_1m.map (kv Value.string (Value.int .i64)))::xmap ba1v_1c0vv_2 (q5.map (kv Value.string (Value.int .i64)))::xblk ba1v_1c1 26 ([.slice Aa1v_1c1v_0 a1v_1c1v.Next.length ca1v_1c1v_0,.slice Aa1v_1c1v_1 a1v_1c1v.End.length ca1v_1c1v_1,.slice Aa1v_1c1v_2 a1v_1c1v.Value.length ca1v_1c1v_2,.int .i64 a1v_1c1v.Start])::fs) w'):=by
  refine calls_abs ?_; intro R hR
  unfold explore_States_1_1.f at hp0
  refine calls_of_runs (fn:=Try.f34) (c:=cd34 []) Try.func34 (by kernel_rfl) (al:=[.func (.yield La0c0) #[] #[],.pointer (some ⟨ba1,0,none⟩)]) rfl (n:=15) rfl ?_
  refine sR 2 [.inRegion (opsOf (cd34 [0])) [0],.code (cd34 [1])] ?_
  refine r_box (c:=(cd34 [0])) (i:=0) (d:=(some 2)) (ty:=0) (x:=(.tmp 0)) (v:=.func (.yield La0c0) #[] #[]) (t:=96) (cs:=[.func (.yield La0c0) #[] #[]]) hS0 (by kernel_rfl) (by kernel_rfl) (by kernel_rfl) (by kernel_rfl) ?_
  intro b1 w2 hS3
  refine sR 3 [.inRegion (opsOf (cd34 [1,0])) [0,1],.code (cd34 [1,1])] ?_
  refine rLa 32 (.tmp 1) (hS3.blk 6 rfl) ?_
  obtain ⟨t5,hr8,hp9⟩:=bind_some' hp0
  have hS15:=hS3.pick12
  have hS16:=hS15.pick12
  have hS17:=hS16.pick12
  have hS18:=hS17.pick12
  have hS19:=hS18.pick12
  have hS20:=hS19.pick12
  refine rC (explore_walk.ok hr8 hS20 ha1v_1c1v_0 ha1v_1c1v_1 ha1v_1c1v_2) ?_
  rintro _ w21 ⟨Q6,Q7,rfl,hS22⟩
  refine ⟨_,rfl,?_⟩
  refine sR 2 [.code (cd34 [1,1,0]),.inBlock 0] ?_
  refine Runs.fillG (m:=(mk 17 [(2,.pointer (some ⟨b1,0,none⟩)),(6,.func (.func 44) #[] #[.pointer (some ⟨Q6,0,none⟩),.pointer (some ⟨Q7,0,none⟩)])])) (by kernel_rfl) ?_
  intro l23
  refine r_rangeF (c:=(cd34 [1,1,0])) (g:=(.tmp 6)) (ps:=#[7,8]) (am:=p34_0) (bd:=p34_1) (gf:=44) (caps:=#[.pointer (some ⟨Q6,0,none⟩),.pointer (some ⟨Q7,0,none⟩)]) (args:=fun L => #[.func (.yield L) #[] #[],.pointer (some ⟨Q6,0,none⟩),.pointer (some ⟨Q7,0,none⟩)]) [p34_2] hS22 (by kernel_rfl) (by kernel_rfl) (fun _ => (by kernel_rfl)) ?_
  intro D25 L24 w26 hS27
  have hS30 : St w0 Z (xlp L24 34 (fill (mk 17 [(2,.pointer (some ⟨b1,0,none⟩))]) (fill (mk 17 [(2,.pointer (some ⟨b1,0,none⟩)),(6,.func (.func 44) #[] #[.pointer (some ⟨Q6,0,none⟩),.pointer (some ⟨Q7,0,none⟩)])]) l23)) #[7,8] p34_0 p34_1 D25 [p34_2] 0::xdef D25::xblk Q6 32 ([.string t5,.func (.func 28) #[] #[.pointer (some ⟨ba1v_1c0,0,none⟩),.pointer (some ⟨ba1v_1c1,0,none⟩)],.func (.func 31) #[] #[.pointer (some ⟨ba1v_1c1,0,none⟩),.pointer (some ⟨ba1v_1c0,0,none⟩)],.func (.func 32) #[] #[.pointer (some ⟨ba1v_1c0,0,none⟩),.pointer (some ⟨ba1v_1c1,0,none⟩)]])::xblk Q7 130 ([.nilFunc])::xblk ba1v_1c0 33 ([.pointer (some ⟨ba1v_1c0v,0,none⟩)])::xblk ba1v_1c0v 49 ([.map (some ba1v_1c0vv_0),.map (some ba1v_1c0vv_1),.map (some ba1v_1c0vv_2),.bool a1v_1c0vv_3])::xmap ba1v_1c0vv_0 (a1v_1c0vv_0m.map (kv Value.string (Value.int .i64)))::xmap ba1v_1c0vv_1 (a1v_1c0vv_1m.map (kv Value.string (Value.int .i64)))::xmap ba1v_1c0vv_2 (a1v_1c0vv_2m.map (kv Value.string (Value.int .i64)))::xblk ba1v_1c1 26 ([.slice Aa1v_1c1v_0 a1v_1c1v.Next.length ca1v_1c1v_0,.slice Aa1v_1c1v_1 a1v_1c1v.End.length ca1v_1c1v_1,.slice Aa1v_1c1v_2 a1v_1c1v.Value.length ca1v_1c1v_2,.int .i64 a1v_1c1v.Start])::xblk b1 96 ([.func (.yield La0c0) #[] #[]])::xlp La0c0 3 (fill (mk 165 [(6,.pointer (some ⟨ba0c0v6,0,none⟩)),(9,.pointer (some ⟨ba0c0v9,0,none⟩)),(18,.pointer (some ⟨ba0c0v18,0,none⟩))]) la0c0) #[107,108] p3_0 p3_1 Da0c0 [p3_2] 0::xblk ba0c0v6 4 ([.bool a0c0v6v])::xblk ba0c0v9 43 ([.slice Aa0c0v9v_0 a0c0v9v_0.length ca0c0v9v_0,.slice Aa0c0v9v_1 a0c0v9v_1.length ca0c0v9v_1,.slice Aa0c0v9v_2 a0c0v9v_2.length ca0c0v9v_2,.slice Aa0c0v9v_3 a0c0v9v_3.length ca0c0v9v_3,.slice Aa0c0v9v_4 a0c0v9v_4.length ca0c0v9v_4,.slice Aa0c0v9v_5 a0c0v9v_5.length ca0c0v9v_5,.slice Aa0c0v9v_6 a0c0v9v_6.length ca0c0v9v_6,.bool a0c0v9v_7,.map (some ba0c0v9v_8)])::xmap ba0c0v9v_8 (a0c0v9v_8m.map (kv Value.string (Value.int .i64)))::xblk ba0c0v18 3 ([.int .i64 a0c0v18v])::xblk ba1 32 ([.string y44,.func (.func 28) #[] #[.pointer (some ⟨ba1v_1c0,0,none⟩),.pointer (some ⟨ba1v_1c1,0,none⟩)],.func (.func 31) #[] #[.pointer (some ⟨ba1v_1c1,0,none⟩),.pointer (some ⟨ba1v_1c0,0,none⟩)],.func (.func 32) #[] #[.pointer (some ⟨ba1v_1c0,0,none⟩),.pointer (some ⟨ba1v_1c1,0,none⟩)]])::fs) w26:=hS27
  obtain ⟨⟨t31,t32,t33,t34,t35,t36,t37⟩,hr38,hp39⟩:=bind_some' hp9
  try dsimp only at hp39
  have hS50:=hS30.pick3
  have hS51:=hS50.pick9
  have hS52:=hS51.pick9
  have hS53:=hS52.pick9
  have hS54:=hS53.pick9
  have hS55:=hS54.pick9
  have hS56:=hS55.pick9
  have hS57:=hS56.pick9
  have hS58:=hS57.pick15
  have hS59:=hS58.pick15
  have hS60:=hS59.pick15
  have hS61:=hS60.pick15
  have hS62:=hS61.pick15
  have hS63:=hS62.pick15
  have hS64:=hS63.pick14
  refine ⟨_,(explore_walk_1_1.ok hr38 hS64 ha0c0v9v_0 ha0c0v9v_1 ha0c0v9v_2 ha0c0v9v_3 ha0c0v9v_4 ha0c0v9v_5 ha0c0v9v_6 ha1v_1c1v_0 ha1v_1c1v_1 ha1v_1c1v_2),?_⟩
  rintro _ w65 ⟨rfl,hS66⟩
  refine ⟨⟨_,rfl⟩,?_⟩
  rcases Bool.eq_false_or_eq_true (decide (t31 = 0)) with h67 | h68
  ·have hp69:=ite_t hp39 h67
   have hS70 : St w0 Z (xlp L24 34 (fill (mk 17 [(2,.pointer (some ⟨b1,0,none⟩))]) (fill (mk 17 [(2,.pointer (some ⟨b1,0,none⟩)),(6,.func (.func 44) #[] #[.pointer (some ⟨Q6,0,none⟩),.pointer (some ⟨Q7,0,none⟩)])]) l23)) #[7,8] p34_0 p34_1 D25 [p34_2] 0::xblk b1 96 ([.func (.yield La0c0) #[] #[]])::xlp La0c0 3 (fill (mk 165 [(6,.pointer (some ⟨ba0c0v6,0,none⟩)),(9,.pointer (some ⟨ba0c0v9,0,none⟩)),(18,.pointer (some ⟨ba0c0v18,0,none⟩))]) la0c0) #[107,108] p3_0 p3_1 Da0c0 [p3_2] t32::xblk ba0c0v6 4 ([.bool t33])::xblk ba0c0v9 43 ([.slice Aa0c0v9v_0 a0c0v9v_0.length ca0c0v9v_0,.slice Aa0c0v9v_1 a0c0v9v_1.length ca0c0v9v_1,.slice Aa0c0v9v_2 a0c0v9v_2.length ca0c0v9v_2,.slice Aa0c0v9v_3 a0c0v9v_3.length ca0c0v9v_3,.slice Aa0c0v9v_4 a0c0v9v_4.length ca0c0v9v_4,.slice Aa0c0v9v_5 a0c0v9v_5.length ca0c0v9v_5,.slice Aa0c0v9v_6 a0c0v9v_6.length ca0c0v9v_6,.bool a0c0v9v_7,.map (some ba0c0v9v_8)])::xmap ba0c0v9v_8 (a0c0v9v_8m.map (kv Value.string (Value.int .i64)))::xblk ba0c0v18 3 ([.int .i64 t34])::xblk Q6 32 ([.string t5,.func (.func 28) #[] #[.pointer (some ⟨ba1v_1c0,0,none⟩),.pointer (some ⟨ba1v_1c1,0,none⟩)],.func (.func 31) #[] #[.pointer (some ⟨ba1v_1c1,0,none⟩),.pointer (some ⟨ba1v_1c0,0,none⟩)],.func (.func 32) #[] #[.pointer (some ⟨ba1v_1c0,0,none⟩),.pointer (some ⟨ba1v_1c1,0,none⟩)]])::xblk ba1v_1c0 33 ([.pointer (some ⟨ba1v_1c0v,0,none⟩)])::xblk ba1v_1c0v 49 ([.map (some ba1v_1c0vv_0),.map (some ba1v_1c0vv_1),.map (some ba1v_1c0vv_2),.bool t35])::xmap ba1v_1c0vv_0 (t36.map (kv Value.string (Value.int .i64)))::xmap ba1v_1c0vv_1 (a1v_1c0vv_1m.map (kv Value.string (Value.int .i64)))::xmap ba1v_1c0vv_2 (t37.map (kv Value.string (Value.int .i64)))::xblk ba1v_1c1 26 ([.slice Aa1v_1c1v_0 a1v_1c1v.Next.length ca1v_1c1v_0,.slice Aa1v_1c1v_1 a1v_1c1v.End.length ca1v_1c1v_1,.slice Aa1v_1c1v_2 a1v_1c1v.Value.length ca1v_1c1v_2,.int .i64 a1v_1c1v.Start])::xblk Q7 130 ([.nilFunc])::xdef D25::xblk ba1 32 ([.string y44,.func (.func 28) #[] #[.pointer (some ⟨ba1v_1c0,0,none⟩),.pointer (some ⟨ba1v_1c1,0,none⟩)],.func (.func 31) #[] #[.pointer (some ⟨ba1v_1c1,0,none⟩),.pointer (some ⟨ba1v_1c0,0,none⟩)],.func (.func 32) #[] #[.pointer (some ⟨ba1v_1c0,0,none⟩),.pointer (some ⟨ba1v_1c1,0,none⟩)]])::fs) w65:=by have h:=hS66; rw [of_decide_eq_true h67] at h; exact h
   refine r_endF0 hS70 ?_
   intro w71 hS72
   refine sR 1 [] ?_
   refine runsC_end (fn:=Try.f34) Try.func34 ?_
   have hS73:=hS72.pick14
   refine leavesC_cons hS73 ?_
   intro w74 hS75
   have hS76:=hS75.drop
   have hS77:=hS76.pick5
   have hS78:=hS77.drop
   have hS79:=hS78.pick11
   have hS80:=hS79.drop
   have hS81:=hS80.pick10
   have hS82:=hS81.pick10
   have hS83:=hS82.pick10
   have hS84:=hS83.pick10
   have hS85:=hS84.pick10
   have hS86:=hS85.pick10
   have hS87:=hS86.pick11
   have hS88:=hS87.pick11
   have hS89:=hS88.pick11
   have hS90:=hS89.pick11
   have hS91:=hS90.pick11
   have hS92:=hS91.pick11
   refine leavesC_nil (v:=.tuple #[]) (by kernel_rfl) ?_
   cases Option.some.inj hp69
   exact hR _ _ ⟨rfl,hS92⟩
  have hp94:=ite_f hp39 h68
  obtain ⟨g95,hp96⟩:=ite_some hp94
  have hS97 : St w0 Z (xlp L24 34 (fill (mk 17 [(2,.pointer (some ⟨b1,0,none⟩))]) (fill (mk 17 [(2,.pointer (some ⟨b1,0,none⟩)),(6,.func (.func 44) #[] #[.pointer (some ⟨Q6,0,none⟩),.pointer (some ⟨Q7,0,none⟩)])]) l23)) #[7,8] p34_0 p34_1 D25 [p34_2] 1::xblk b1 96 ([.func (.yield La0c0) #[] #[]])::xlp La0c0 3 (fill (mk 165 [(6,.pointer (some ⟨ba0c0v6,0,none⟩)),(9,.pointer (some ⟨ba0c0v9,0,none⟩)),(18,.pointer (some ⟨ba0c0v18,0,none⟩))]) la0c0) #[107,108] p3_0 p3_1 Da0c0 [p3_2] t32::xblk ba0c0v6 4 ([.bool t33])::xblk ba0c0v9 43 ([.slice Aa0c0v9v_0 a0c0v9v_0.length ca0c0v9v_0,.slice Aa0c0v9v_1 a0c0v9v_1.length ca0c0v9v_1,.slice Aa0c0v9v_2 a0c0v9v_2.length ca0c0v9v_2,.slice Aa0c0v9v_3 a0c0v9v_3.length ca0c0v9v_3,.slice Aa0c0v9v_4 a0c0v9v_4.length ca0c0v9v_4,.slice Aa0c0v9v_5 a0c0v9v_5.length ca0c0v9v_5,.slice Aa0c0v9v_6 a0c0v9v_6.length ca0c0v9v_6,.bool a0c0v9v_7,.map (some ba0c0v9v_8)])::xmap ba0c0v9v_8 (a0c0v9v_8m.map (kv Value.string (Value.int .i64)))::xblk ba0c0v18 3 ([.int .i64 t34])::xblk Q6 32 ([.string t5,.func (.func 28) #[] #[.pointer (some ⟨ba1v_1c0,0,none⟩),.pointer (some ⟨ba1v_1c1,0,none⟩)],.func (.func 31) #[] #[.pointer (some ⟨ba1v_1c1,0,none⟩),.pointer (some ⟨ba1v_1c0,0,none⟩)],.func (.func 32) #[] #[.pointer (some ⟨ba1v_1c0,0,none⟩),.pointer (some ⟨ba1v_1c1,0,none⟩)]])::xblk ba1v_1c0 33 ([.pointer (some ⟨ba1v_1c0v,0,none⟩)])::xblk ba1v_1c0v 49 ([.map (some ba1v_1c0vv_0),.map (some ba1v_1c0vv_1),.map (some ba1v_1c0vv_2),.bool t35])::xmap ba1v_1c0vv_0 (t36.map (kv Value.string (Value.int .i64)))::xmap ba1v_1c0vv_1 (a1v_1c0vv_1m.map (kv Value.string (Value.int .i64)))::xmap ba1v_1c0vv_2 (t37.map (kv Value.string (Value.int .i64)))::xblk ba1v_1c1 26 ([.slice Aa1v_1c1v_0 a1v_1c1v.Next.length ca1v_1c1v_0,.slice Aa1v_1c1v_1 a1v_1c1v.End.length ca1v_1c1v_1,.slice Aa1v_1c1v_2 a1v_1c1v.Value.length ca1v_1c1v_2,.int .i64 a1v_1c1v.Start])::xblk Q7 130 ([.nilFunc])::xdef D25::xblk ba1 32 ([.string y44,.func (.func 28) #[] #[.pointer (some ⟨ba1v_1c0,0,none⟩),.pointer (some ⟨ba1v_1c1,0,none⟩)],.func (.func 31) #[] #[.pointer (some ⟨ba1v_1c1,0,none⟩),.pointer (some ⟨ba1v_1c0,0,none⟩)],.func (.func 32) #[] #[.pointer (some ⟨ba1v_1c0,0,none⟩),.pointer (some ⟨ba1v_1c1,0,none⟩)]])::fs) w65:=by have h:=hS66; rw [g95] at h; exact h
  refine r_endFj 0 (cj:=p34_2) (by kernel_rfl) hS97 ?_
  intro w98 hS99
  refine runsC_ret (fn:=Try.f34) Try.func34 ?_
  have hS100:=hS99.pick14
  refine leavesC_cons hS100 ?_
  intro w101 hS102
  have hS103:=hS102.drop
  have hS104:=hS103.pick5
  have hS105:=hS104.drop
  have hS106:=hS105.pick11
  have hS107:=hS106.drop
  have hS108:=hS107.pick10
  have hS109:=hS108.pick10
  have hS110:=hS109.pick10
  have hS111:=hS110.pick10
  have hS112:=hS111.pick10
  have hS113:=hS112.pick10
  have hS114:=hS113.pick11
  have hS115:=hS114.pick11
  have hS116:=hS115.pick11
  have hS117:=hS116.pick11
  have hS118:=hS117.pick11
  have hS119:=hS118.pick11
  refine leavesC_nil (v:=.tuple #[]) (by kernel_rfl) ?_
  cases Option.some.inj hp96
  exact hR _ _ ⟨rfl,hS119⟩

end
end Go.Proofs.Ytfiamlhhhkiiaaa.K
