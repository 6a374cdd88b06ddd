/- The walk, part 3: each Go function as a plain Lean function, and that its call answers as that function says. No condition. -/
import Derived.Test.YtkhcbamlhckilaaGreatDoorE
import Derived.Test.YtkhcbamlhckilaaGreatDoorNG
import Derived.Test.YtkhcbamlhckilaaGreatDoorNP
import Derived.Test.YtkhcbamlhckilaaGreatDoorNM
import Derived.Test.YtkhcbamlhckilaaGreatDoorNI
import Derived.Test.YtkhcbamlhckilaaGreatDoorNV
import Derived.Test.YtkhcbamlhckilaaGreatDoorNY
import Derived.Test.YtkhcbamlhckilaaGreatDoorNC
import Derived.Test.YtkhcbamlhckilaaGreatDoorNA
import Derived.Test.YtkhcbamlhckilaaGreatDoorG2
set_option linter.unusedVariables false
set_option linter.unusedSimpArgs false
set_option maxRecDepth 100000
namespace Go.Proofs.YtkhcbamlhckilaaGreatDoor.K
open Go Go.RowKit
noncomputable section
noncomputable def cd9 (p : List Nat) : Code := sub (bodyOf Tryz.f9) p
abbrev p9_8:=cd9 [1,0,0,1,1,1,1,1]
abbrev p9_13:=cd9 [1,1,1,1,1]
abbrev p9_19:=cd9 [1,1,1,1,1,1,1,1]
abbrev p9_20:=cd9 [1,1,1,1,1,1,1,1,0]
abbrev p9_21:=cd9 [1,1,1,1,1,1,1,1,1]
abbrev p9_22:=cd9 [1,1,1,1,1,1,1,0,1,0,0]
abbrev p9_27:=cd9 [1,0,0,1,1,1,1,1,0,0]
abbrev p9_28:=cd9 [1,0,0,1,1,1,1,1,0,1]
abbrev p9_31:=cd9 [1,0,0,1,1,1,1,1,0,1,1,0]
abbrev p9_32:=cd9 [1,0,0,1,1,1,1,1,0,1,1,1]
abbrev p9_34:=cd9 [1,0,0,1,1,1,1,1,0,1,1,1,1]
abbrev p9_36:=cd9 [1,0,0,1,1,1,0,1]
abbrev td158:List Item:=[.code (cd9 [1,1])]
abbrev td159:List Item:=.inBlock 0::td158
abbrev td160:List Item:=[.code (cd9 [1,1,1,1,1,1,1,0,1,0,1]),.code p9_19]
def litmus_reader__instr.f (y7 : ByteArray) (y8 : Int) (y9 : Int) (y10 : Int) (y11 : PErr) (y1 : List api_Token) (y2 : api_Test) (y3 : List litmus_place) (y4 : List litmus_place) (y12 : List (List litmus_place)) (y13 : List litmus_place) (y14 : List litmus_place) : Option (Sum PErr (api_Instr × (List api_Token) × Int × Int × Int × PErr)) :=
  (litmus_reader__is.f y7 y8 y9 y10 y11 y1 y2 y3 y4 y12 y13 y14 (⟨#[77,79,86]⟩ : ByteArray) >>= (fun | .inl pe17 => some (.inl pe17) | .inr (t5,t6,t7,t8,t9,t10) => (if t5 = true then (litmus_reader__mov.f y7 t7 t8 t9 t10 t6 y2 y3 y4 y12 y13 y14 >>= (fun | .inl pe506 => some (.inl pe506) | .inr (t494,t495,t496,t497,t498,t499) => some (.inr (t494,t495,t496,t497,t498,t499)))) else (litmus_reader__is.f y7 t7 t8 t9 t10 t6 y2 y3 y4 y12 y13 y14 (⟨#[77,70,69,78,67,69]⟩ : ByteArray) >>= (fun | .inl pe51 => some (.inl pe51) | .inr (t39,t40,t41,t42,t43,t44) => (if t39 = true then some (.inr ((⟨6,(⟨#[]⟩ : ByteArray),(⟨#[]⟩ : ByteArray),(⟨#[]⟩ : ByteArray),0⟩ : api_Instr),t40,t41,t42,t43,t44)) else (litmus_reader__is.f y7 t41 t42 t43 t44 t40 y2 y3 y4 y12 y13 y14 (⟨#[88,67,72,71]⟩ : ByteArray) >>= (fun | .inl pe84 => some (.inl pe84) | .inr (t72,t73,t74,t75,t76,t77) => (if t72 = true then (litmus_reader__bracketed.f y7 t74 t75 t76 t77 t73 y2 y3 y4 y12 y13 y14 >>= (fun | .inl pe386 => some (.inl pe386) | .inr (t374,t375,t376,t377,t378,t379) => (litmus_reader__must.f y7 t376 t377 t378 t379 t375 y2 y3 y4 y12 y13 y14 (⟨#[44]⟩ : ByteArray) >>= (fun | .inl pe423 => some (.inl pe423) | .inr (t412,t413,t414,t415,t416) => (litmus_reader__name.f y7 t413 t414 t415 t416 t412 y2 y3 y4 y12 y13 y14 >>= (fun | .inl pe457 => some (.inl pe457) | .inr (t445,t446,t447,t448,t449,t450) => some (.inr ((⟨7,t445,(⟨#[]⟩ : ByteArray),t374,0⟩ : api_Instr),t446,t447,t448,t449,t450)))))))) else (litmus_reader__must.f y7 t74 t75 t76 t77 t73 y2 y3 y4 y12 y13 y14 (⟨#[76,79,67,75]⟩ : ByteArray) >>= (fun | .inl pe116 => some (.inl pe116) | .inr (t105,t106,t107,t108,t109) => (litmus_reader__is.f y7 t106 t107 t108 t109 t105 y2 y3 y4 y12 y13 y14 (⟨#[67,77,80,88,67,72,71]⟩ : ByteArray) >>= (fun | .inl pe148 => some (.inl pe148) | .inr (t136,t137,t138,t139,t140,t141) => (((if (!t136) = true then (litmus_reader__must.f y7 t138 t139 t140 t141 t137 y2 y3 y4 y12 y13 y14 (⟨#[88,65,68,68]⟩ : ByteArray) >>= (fun | .inl pe344 => some (.inr (.inl pe344)) | .inr (t333,t334,t335,t336,t337) => some (.inl (t333,t334,t335,t336,t337)))) else some (.inl (t137,t138,t139,t140,t141))) : Option (Sum ((List api_Token) × Int × Int × Int × PErr) (Sum PErr (api_Instr × (List api_Token) × Int × Int × Int × PErr)))) >>= (fun | .inl (t173,t177,t178,t179,t180) => (litmus_reader__bracketed.f y7 t177 t178 t179 t180 t173 y2 y3 y4 y12 y13 y14 >>= (fun | .inl pe202 => some (.inl pe202) | .inr (t190,t191,t192,t193,t194,t195) => (litmus_reader__must.f y7 t192 t193 t194 t195 t191 y2 y3 y4 y12 y13 y14 (⟨#[44]⟩ : ByteArray) >>= (fun | .inl pe234 => some (.inl pe234) | .inr (t223,t224,t225,t226,t227) => (if t136 = true then (litmus_reader__name.f y7 t224 t225 t226 t227 t223 y2 y3 y4 y12 y13 y14 >>= (fun | .inl pe305 => some (.inl pe305) | .inr (t293,t294,t295,t296,t297,t298) => some (.inr ((⟨8,(⟨#[]⟩ : ByteArray),t293,t190,0⟩ : api_Instr),t294,t295,t296,t297,t298)))) else (litmus_reader__name.f y7 t224 t225 t226 t227 t223 y2 y3 y4 y12 y13 y14 >>= (fun | .inl pe267 => some (.inl pe267) | .inr (t255,t256,t257,t258,t259,t260) => some (.inr ((⟨9,t255,(⟨#[]⟩ : ByteArray),t190,0⟩ : api_Instr),t256,t257,t258,t259,t260))))))))) | .inr e => some e)))))))))))))))
set_option maxHeartbeats 16000000 in
theorem litmus_reader__instr.ok (y7 : ByteArray) (y8 : Int) (y9 : Int) (y10 : Int) (y11 : PErr) (y1 : List api_Token) (y2 : api_Test) (y3 : List litmus_place) (y4 : List litmus_place) (y12 : List (List litmus_place)) (y13 : List litmus_place) (y14 : List litmus_place) (ba0 : Nat) (y15 : Nat) (y16 : Value) (y17 : Option Addr) (y18 : Nat) (y19 : Option Addr) (y20 : Nat) (y21 : Option Addr) (y22 : Nat) (y23 : Option Addr) (y24 : Nat) (y25 : Option Addr) (y26 : Nat) (y27 : Option Addr) (y28 : Nat) (y29 : Option Addr) (y30 : Nat) (y31 : Option Addr) (y32 : Nat) (y33 : Option Addr) (y34 : Nat) (y35 : Option Addr) (y36 : Nat) {w0 : World} {Z : Zm} {fs : List XObj} {w : World} (hS0 : St w0 Z (xblk ba0 70 ([.pointer (some ⟨y15,0,none⟩),.slice y17 y1.length y18,.string y2.Name,.string y2.Doc,.slice y19 y2.Inits.length y20,.slice y21 y2.Threads.length y22,.slice y23 y2.Watch.length y24,.int .i64 y2.Quant,.slice y25 y2.Cond.length y26,.slice y27 y3.length y28,.slice y29 y4.length y30,.slice y31 y12.length y32,.slice y33 y13.length y34,.slice y35 y14.length y36,.nilIface])::xblk y15 93 ([.string y7,.int .i64 y8,.int .i64 y9,.int .i64 y10,y16])::xrow y17 y18 39 7 (y1.flatMap enc_api_Token)::fs) w) (y37 : RepE 57 58 Z y16 y11) (y38 : SlZ (flat enc_api_Init) 3 Z y19 y20 y2.Inits) (y39 : SlZ (repL (flat enc_api_Instr) 5) 1 Z y21 y22 y2.Threads) (y40 : SlZ (flat enc_api_Ref) 2 Z y23 y24 y2.Watch) (y41 : SlZ (flat enc_api_Node) 6 Z y25 y26 y2.Cond) (y42 : SlZ (flat enc_litmus_place) 2 Z y27 y28 y3) (y43 : SlZ (flat enc_litmus_place) 2 Z y29 y30 y4) (y44 : SlZ (repL (flat enc_litmus_place) 2) 1 Z y31 y32 y12) (y45 : SlZ (flat enc_litmus_place) 2 Z y33 y34 y13) (y46 : SlZ (flat enc_litmus_place) 2 Z y35 y36 y14) {qr : Sum PErr (api_Instr × (List api_Token) × Int × Int × Int × PErr)} (hp0 : litmus_reader__instr.f y7 y8 y9 y10 y11 y1 y2 y3 y4 y12 y13 y14 = some qr) :
    Calls Tryz.prog 9 #[.pointer (some ⟨ba0,0,none⟩)] w (fun e w' => PanQ (fun p => ∃ (v : Value) (Z' : Zm),Zm.Le Z Z' ∧ e = .panicked [{ v:=v,recovered:=false }] ∧ St w0 Z' fs w' ∧ RepE 57 58 Z' v p) (fun q => ∃ (QA0 : Option Addr) (Qc0 : Nat) (Qv2 : Value) (Z' : Zm),Zm.Le Z Z' ∧ e = .returned (.agg (enc_api_Instr q.1).toArray) ∧ St w0 Z' (xrow QA0 Qc0 39 7 (q.2.1.flatMap enc_api_Token)::xblk ba0 70 ([.pointer (some ⟨y15,0,none⟩),.slice QA0 q.2.1.length Qc0,.string y2.Name,.string y2.Doc,.slice y19 y2.Inits.length y20,.slice y21 y2.Threads.length y22,.slice y23 y2.Watch.length y24,.int .i64 y2.Quant,.slice y25 y2.Cond.length y26,.slice y27 y3.length y28,.slice y29 y4.length y30,.slice y31 y12.length y32,.slice y33 y13.length y34,.slice y35 y14.length y36,.nilIface])::xblk y15 93 ([.string y7,.int .i64 q.2.2.1,.int .i64 q.2.2.2.1,.int .i64 q.2.2.2.2.1,Qv2])::fs) w' ∧ RepE 57 58 Z' Qv2 q.2.2.2.2.2) qr):=by
  refine calls_abs ?_; intro R hR
  unfold litmus_reader__instr.f at hp0
  refine calls_of_runs (fn:=Tryz.f9) (c:=cd9 []) Tryz.func9 (by kernel_rfl) (al:=[.pointer (some ⟨ba0,0,none⟩)]) rfl (n:=47) rfl ?_
  refine sR 2 [.inRegion (opsOf (cd9 [0])) [0],.code (cd9 [1])] ?_
  refine rA 23 (.agg (enc_api_Instr (⟨0,(⟨#[]⟩ : ByteArray),(⟨#[]⟩ : ByteArray),(⟨#[]⟩ : ByteArray),0⟩ : api_Instr)).toArray) (enc_api_Instr (⟨0,(⟨#[]⟩ : ByteArray),(⟨#[]⟩ : ByteArray),(⟨#[]⟩ : ByteArray),0⟩ : api_Instr)) hS0 ?_
  intro b1 w2 hS3
  refine sR 6 (.inRegion (opsOf (cd9 [1,0,0,0])) [1,2]::.code (cd9 [1,0,0,1])::td159) ?_
  obtain ⟨q16,hr14,hp15⟩:=bind_some' hp0
  have hS21:=hS3.pick3
  have hS22:=hS21.pick3
  have hS23:=hS22.pick3
  refine rCB (litmus_reader__is.ok y7 y8 y9 y10 y11 y1 y2 y3 y4 y12 y13 y14 (⟨#[77,79,86]⟩ : ByteArray) ba0 y15 y16 y17 y18 y19 y20 y21 y22 y23 y24 y25 y26 y27 y28 y29 y30 y31 y32 y33 y34 y35 y36 hS23 y37 y38 y39 y40 y41 y42 y43 y44 y45 y46 hr14) ?_
  intro e20 w19 hQ18
  rcases q16 with pe17 | ⟨t5,t6,t7,t8,t9,t10⟩
  all_goals try dsimp only at hp15
  ·obtain ⟨v24,Z25,hz26,rfl,hS27,he28⟩:=hQ18
   refine .inr ⟨_,rfl,?_⟩
   have hS30:=hS27.drop
   refine raised_fx Tryz.func9 ?_
   cases Option.some.inj hp15
   exact hR _ _ (panq_l ⟨v24,Z25,hz26,rfl,hS30,he28⟩)
  obtain ⟨Q11,Q12,Q13,Z35,hz36,rfl,hS34,hs37⟩:=hQ18
  try dsimp only at hS34 hs37
  refine .inl ⟨_,rfl,?_⟩
  refine sR 2 (.code (cd9 [1,0,0,1])::td159) ?_
  cases t5
  ·have hp38:=ite_f hp15 rfl
   refine sR 4 (.inRegion (opsOf (cd9 [1,0,0,1,1,0])) [1,2]::.code (cd9 [1,0,0,1,1,1])::td159) ?_
   obtain ⟨q50,hr48,hp49⟩:=bind_some' hp38
   have hS55:=hS34.pick2
   have hS56:=hS55.pick2
   refine rCB (litmus_reader__is.ok y7 t7 t8 t9 t10 t6 y2 y3 y4 y12 y13 y14 (⟨#[77,70,69,78,67,69]⟩ : ByteArray) ba0 y15 Q13 Q11 Q12 y19 y20 y21 y22 y23 y24 y25 y26 y27 y28 y29 y30 y31 y32 y33 y34 y35 y36 hS56 hs37 (y38.up hz36) (SlZ.mono (mono_repL (mono_flat _)) y39 hz36) (y40.up hz36) (y41.up hz36) (y42.up hz36) (y43.up hz36) (SlZ.mono (mono_repL (mono_flat _)) y44 hz36) (y45.up hz36) (y46.up hz36) hr48) ?_
   intro e54 w53 hQ52
   rcases q50 with pe51 | ⟨t39,t40,t41,t42,t43,t44⟩
   all_goals try dsimp only at hp49
   ·obtain ⟨v57,Z58,hz59,rfl,hS60,he61⟩:=hQ52
    refine .inr ⟨_,rfl,?_⟩
    have hS63:=hS60.drop
    refine raised_fx Tryz.func9 ?_
    cases Option.some.inj hp49
    exact hR _ _ (panq_l ⟨v57,Z58,(Zm.Le.trans hz36 hz59),rfl,hS63,he61⟩)
   obtain ⟨Q45,Q46,Q47,Z68,hz69,rfl,hS67,hs70⟩:=hQ52
   try dsimp only at hS67 hs70
   refine .inl ⟨_,rfl,?_⟩
   refine sR 2 (.code (cd9 [1,0,0,1,1,1])::td159) ?_
   cases t39
   ·have hp71:=ite_f hp49 rfl
    refine sR 4 (.inRegion (opsOf (cd9 [1,0,0,1,1,1,1,0])) [1,2]::.code p9_8::td159) ?_
    obtain ⟨q83,hr81,hp82⟩:=bind_some' hp71
    have hS88:=hS67.pick2
    have hS89:=hS88.pick2
    refine rCB (litmus_reader__is.ok y7 t41 t42 t43 t44 t40 y2 y3 y4 y12 y13 y14 (⟨#[88,67,72,71]⟩ : ByteArray) ba0 y15 Q47 Q45 Q46 y19 y20 y21 y22 y23 y24 y25 y26 y27 y28 y29 y30 y31 y32 y33 y34 y35 y36 hS89 hs70 (y38.up (Zm.Le.trans hz36 hz69)) (SlZ.mono (mono_repL (mono_flat _)) y39 (Zm.Le.trans hz36 hz69)) (y40.up (Zm.Le.trans hz36 hz69)) (y41.up (Zm.Le.trans hz36 hz69)) (y42.up (Zm.Le.trans hz36 hz69)) (y43.up (Zm.Le.trans hz36 hz69)) (SlZ.mono (mono_repL (mono_flat _)) y44 (Zm.Le.trans hz36 hz69)) (y45.up (Zm.Le.trans hz36 hz69)) (y46.up (Zm.Le.trans hz36 hz69)) hr81) ?_
    intro e87 w86 hQ85
    rcases q83 with pe84 | ⟨t72,t73,t74,t75,t76,t77⟩
    all_goals try dsimp only at hp82
    ·obtain ⟨v90,Z91,hz92,rfl,hS93,he94⟩:=hQ85
     refine .inr ⟨_,rfl,?_⟩
     have hS96:=hS93.drop
     refine raised_fx Tryz.func9 ?_
     cases Option.some.inj hp82
     exact hR _ _ (panq_l ⟨v90,Z91,(Zm.Le.trans hz36 (Zm.Le.trans hz69 hz92)),rfl,hS96,he94⟩)
    obtain ⟨Q78,Q79,Q80,Z101,hz102,rfl,hS100,hs103⟩:=hQ85
    try dsimp only at hS100 hs103
    refine .inl ⟨_,rfl,?_⟩
    refine sR 2 (.code p9_8::td159) ?_
    cases t72
    ·have hp104:=ite_f hp82 rfl
     refine sR 6 [.inRegion (opsOf (cd9 [1,1,0])) [1],.code (cd9 [1,1,1])] ?_
     obtain ⟨q115,hr113,hp114⟩:=bind_some' hp104
     have hS120:=hS100.pick2
     have hS121:=hS120.pick2
     refine rCB (litmus_reader__must.ok y7 t74 t75 t76 t77 t73 y2 y3 y4 y12 y13 y14 (⟨#[76,79,67,75]⟩ : ByteArray) ba0 y15 Q80 Q78 Q79 y19 y20 y21 y22 y23 y24 y25 y26 y27 y28 y29 y30 y31 y32 y33 y34 y35 y36 hS121 hs103 (y38.up (Zm.Le.trans hz36 (Zm.Le.trans hz69 hz102))) (SlZ.mono (mono_repL (mono_flat _)) y39 (Zm.Le.trans hz36 (Zm.Le.trans hz69 hz102))) (y40.up (Zm.Le.trans hz36 (Zm.Le.trans hz69 hz102))) (y41.up (Zm.Le.trans hz36 (Zm.Le.trans hz69 hz102))) (y42.up (Zm.Le.trans hz36 (Zm.Le.trans hz69 hz102))) (y43.up (Zm.Le.trans hz36 (Zm.Le.trans hz69 hz102))) (SlZ.mono (mono_repL (mono_flat _)) y44 (Zm.Le.trans hz36 (Zm.Le.trans hz69 hz102))) (y45.up (Zm.Le.trans hz36 (Zm.Le.trans hz69 hz102))) (y46.up (Zm.Le.trans hz36 (Zm.Le.trans hz69 hz102))) hr113) ?_
     intro e119 w118 hQ117
     rcases q115 with pe116 | ⟨t105,t106,t107,t108,t109⟩
     all_goals try dsimp only at hp114
     ·obtain ⟨v122,Z123,hz124,rfl,hS125,he126⟩:=hQ117
      refine .inr ⟨_,rfl,?_⟩
      have hS128:=hS125.drop
      refine raised_fx Tryz.func9 ?_
      cases Option.some.inj hp114
      exact hR _ _ (panq_l ⟨v122,Z123,(Zm.Le.trans hz36 (Zm.Le.trans hz69 (Zm.Le.trans hz102 hz124))),rfl,hS128,he126⟩)
     obtain ⟨Q110,Q111,Q112,Z133,hz134,rfl,hS132,hs135⟩:=hQ117
     try dsimp only at hS132 hs135
     refine .inl ⟨_,rfl,?_⟩
     refine sR 4 [.inRegion (opsOf (cd9 [1,1,1,0])) [1,2],.code (cd9 [1,1,1,1])] ?_
     obtain ⟨q147,hr145,hp146⟩:=bind_some' hp114
     have hS152:=hS132.pick2
     have hS153:=hS152.pick2
     refine rCB (litmus_reader__is.ok y7 t106 t107 t108 t109 t105 y2 y3 y4 y12 y13 y14 (⟨#[67,77,80,88,67,72,71]⟩ : ByteArray) ba0 y15 Q112 Q110 Q111 y19 y20 y21 y22 y23 y24 y25 y26 y27 y28 y29 y30 y31 y32 y33 y34 y35 y36 hS153 hs135 (y38.up (Zm.Le.trans hz36 (Zm.Le.trans hz69 (Zm.Le.trans hz102 hz134)))) (SlZ.mono (mono_repL (mono_flat _)) y39 (Zm.Le.trans hz36 (Zm.Le.trans hz69 (Zm.Le.trans hz102 hz134)))) (y40.up (Zm.Le.trans hz36 (Zm.Le.trans hz69 (Zm.Le.trans hz102 hz134)))) (y41.up (Zm.Le.trans hz36 (Zm.Le.trans hz69 (Zm.Le.trans hz102 hz134)))) (y42.up (Zm.Le.trans hz36 (Zm.Le.trans hz69 (Zm.Le.trans hz102 hz134)))) (y43.up (Zm.Le.trans hz36 (Zm.Le.trans hz69 (Zm.Le.trans hz102 hz134)))) (SlZ.mono (mono_repL (mono_flat _)) y44 (Zm.Le.trans hz36 (Zm.Le.trans hz69 (Zm.Le.trans hz102 hz134)))) (y45.up (Zm.Le.trans hz36 (Zm.Le.trans hz69 (Zm.Le.trans hz102 hz134)))) (y46.up (Zm.Le.trans hz36 (Zm.Le.trans hz69 (Zm.Le.trans hz102 hz134)))) hr145) ?_
     intro e151 w150 hQ149
     rcases q147 with pe148 | ⟨t136,t137,t138,t139,t140,t141⟩
     all_goals try dsimp only at hp146
     ·obtain ⟨v154,Z155,hz156,rfl,hS157,he158⟩:=hQ149
      refine .inr ⟨_,rfl,?_⟩
      have hS160:=hS157.drop
      refine raised_fx Tryz.func9 ?_
      cases Option.some.inj hp146
      exact hR _ _ (panq_l ⟨v154,Z155,(Zm.Le.trans hz36 (Zm.Le.trans hz69 (Zm.Le.trans hz102 (Zm.Le.trans hz134 hz156)))),rfl,hS160,he158⟩)
     obtain ⟨Q142,Q143,Q144,Z165,hz166,rfl,hS164,hs167⟩:=hQ149
     try dsimp only at hS164 hs167
     refine .inl ⟨_,rfl,?_⟩
     obtain ⟨v168,hv169,hp170⟩:=bind_some' hp146
     have hq186 : ∀ x,Sum.inr x = v168 → x = qr:=by intro x hx; subst hx; simpa using hp170
     have J187 : ∀ (t173 : List api_Token) (t177 : Int) (t178 : Int) (t179 : Int) (t180 : PErr) (he189 : Sum.inl (t173,t177,t178,t179,t180) = v168) (l188 : List Value) (Z171 : Zm) (A174 : Option Addr) (c175 : Nat) (v181 : Value) (w184 : World) (hz172 : Zm.Le Z165 Z171) (hS185 : St w0 Z171 (xblk ba0 70 ([.pointer (some ⟨y15,0,none⟩),.slice A174 t173.length c175,.string y2.Name,.string y2.Doc,.slice y19 y2.Inits.length y20,.slice y21 y2.Threads.length y22,.slice y23 y2.Watch.length y24,.int .i64 y2.Quant,.slice y25 y2.Cond.length y26,.slice y27 y3.length y28,.slice y29 y4.length y30,.slice y31 y12.length y32,.slice y33 y13.length y34,.slice y35 y14.length y36,.nilIface])::xblk y15 93 ([.string y7,.int .i64 t177,.int .i64 t178,.int .i64 t179,v181])::xrow A174 c175 39 7 (t173.flatMap enc_api_Token)::xblk b1 23 (enc_api_Instr (⟨0,(⟨#[]⟩ : ByteArray),(⟨#[]⟩ : ByteArray),(⟨#[]⟩ : ByteArray),0⟩ : api_Instr))::fs) w184) (he182 : RepE 57 58 Z171 v181 t180),Runs Tryz.prog (fx 9) [.code p9_13] (fill (mk 48 [(0,.pointer (some ⟨ba0,0,none⟩)),(2,.pointer (some ⟨b1,0,none⟩)),(4,.bool t136)]) l188) w184 R:=by
      intro t173 t177 t178 t179 t180 he189 l188 Z171 A174 c175 v181 w184 hz172 hS185 he182
      subst he189
      try dsimp only at hp170
      refine sR 3 [.inRegion (opsOf (cd9 [1,1,1,1,1,0])) [1,2],.code (cd9 [1,1,1,1,1,1])] ?_
      obtain ⟨q201,hr199,hp200⟩:=bind_some' hp170
      have hS206:=hS185.pick2
      have hS207:=hS206.pick2
      have hS208:=hS207.pick2
      refine rCB (litmus_reader__bracketed.ok y7 t177 t178 t179 t180 t173 y2 y3 y4 y12 y13 y14 ba0 y15 v181 A174 c175 y19 y20 y21 y22 y23 y24 y25 y26 y27 y28 y29 y30 y31 y32 y33 y34 y35 y36 hS208 he182 (y38.up (Zm.Le.trans hz36 (Zm.Le.trans hz69 (Zm.Le.trans hz102 (Zm.Le.trans hz134 (Zm.Le.trans hz166 hz172)))))) (SlZ.mono (mono_repL (mono_flat _)) y39 (Zm.Le.trans hz36 (Zm.Le.trans hz69 (Zm.Le.trans hz102 (Zm.Le.trans hz134 (Zm.Le.trans hz166 hz172)))))) (y40.up (Zm.Le.trans hz36 (Zm.Le.trans hz69 (Zm.Le.trans hz102 (Zm.Le.trans hz134 (Zm.Le.trans hz166 hz172)))))) (y41.up (Zm.Le.trans hz36 (Zm.Le.trans hz69 (Zm.Le.trans hz102 (Zm.Le.trans hz134 (Zm.Le.trans hz166 hz172)))))) (y42.up (Zm.Le.trans hz36 (Zm.Le.trans hz69 (Zm.Le.trans hz102 (Zm.Le.trans hz134 (Zm.Le.trans hz166 hz172)))))) (y43.up (Zm.Le.trans hz36 (Zm.Le.trans hz69 (Zm.Le.trans hz102 (Zm.Le.trans hz134 (Zm.Le.trans hz166 hz172)))))) (SlZ.mono (mono_repL (mono_flat _)) y44 (Zm.Le.trans hz36 (Zm.Le.trans hz69 (Zm.Le.trans hz102 (Zm.Le.trans hz134 (Zm.Le.trans hz166 hz172)))))) (y45.up (Zm.Le.trans hz36 (Zm.Le.trans hz69 (Zm.Le.trans hz102 (Zm.Le.trans hz134 (Zm.Le.trans hz166 hz172)))))) (y46.up (Zm.Le.trans hz36 (Zm.Le.trans hz69 (Zm.Le.trans hz102 (Zm.Le.trans hz134 (Zm.Le.trans hz166 hz172)))))) hr199) ?_
      intro e205 w204 hQ203
      rcases q201 with pe202 | ⟨t190,t191,t192,t193,t194,t195⟩
      all_goals try dsimp only at hp200
      ·obtain ⟨v209,Z210,hz211,rfl,hS212,he213⟩:=hQ203
       refine .inr ⟨_,rfl,?_⟩
       have hS215:=hS212.drop
       refine raised_fx Tryz.func9 ?_
       cases Option.some.inj hp200
       exact hR _ _ (panq_l ⟨v209,Z210,(Zm.Le.trans hz36 (Zm.Le.trans hz69 (Zm.Le.trans hz102 (Zm.Le.trans hz134 (Zm.Le.trans hz166 (Zm.Le.trans hz172 hz211)))))),rfl,hS215,he213⟩)
      obtain ⟨Q196,Q197,Q198,Z220,hz221,rfl,hS219,hs222⟩:=hQ203
      try dsimp only at hS219 hs222
      refine .inl ⟨_,rfl,?_⟩
      refine sR 5 [.inRegion (opsOf (cd9 [1,1,1,1,1,1,0])) [1],.code (cd9 [1,1,1,1,1,1,1])] ?_
      obtain ⟨q233,hr231,hp232⟩:=bind_some' hp200
      have hS238:=hS219.pick2
      have hS239:=hS238.pick2
      refine rCB (litmus_reader__must.ok y7 t192 t193 t194 t195 t191 y2 y3 y4 y12 y13 y14 (⟨#[44]⟩ : ByteArray) ba0 y15 Q198 Q196 Q197 y19 y20 y21 y22 y23 y24 y25 y26 y27 y28 y29 y30 y31 y32 y33 y34 y35 y36 hS239 hs222 (y38.up (Zm.Le.trans hz36 (Zm.Le.trans hz69 (Zm.Le.trans hz102 (Zm.Le.trans hz134 (Zm.Le.trans hz166 (Zm.Le.trans hz172 hz221))))))) (SlZ.mono (mono_repL (mono_flat _)) y39 (Zm.Le.trans hz36 (Zm.Le.trans hz69 (Zm.Le.trans hz102 (Zm.Le.trans hz134 (Zm.Le.trans hz166 (Zm.Le.trans hz172 hz221))))))) (y40.up (Zm.Le.trans hz36 (Zm.Le.trans hz69 (Zm.Le.trans hz102 (Zm.Le.trans hz134 (Zm.Le.trans hz166 (Zm.Le.trans hz172 hz221))))))) (y41.up (Zm.Le.trans hz36 (Zm.Le.trans hz69 (Zm.Le.trans hz102 (Zm.Le.trans hz134 (Zm.Le.trans hz166 (Zm.Le.trans hz172 hz221))))))) (y42.up (Zm.Le.trans hz36 (Zm.Le.trans hz69 (Zm.Le.trans hz102 (Zm.Le.trans hz134 (Zm.Le.trans hz166 (Zm.Le.trans hz172 hz221))))))) (y43.up (Zm.Le.trans hz36 (Zm.Le.trans hz69 (Zm.Le.trans hz102 (Zm.Le.trans hz134 (Zm.Le.trans hz166 (Zm.Le.trans hz172 hz221))))))) (SlZ.mono (mono_repL (mono_flat _)) y44 (Zm.Le.trans hz36 (Zm.Le.trans hz69 (Zm.Le.trans hz102 (Zm.Le.trans hz134 (Zm.Le.trans hz166 (Zm.Le.trans hz172 hz221))))))) (y45.up (Zm.Le.trans hz36 (Zm.Le.trans hz69 (Zm.Le.trans hz102 (Zm.Le.trans hz134 (Zm.Le.trans hz166 (Zm.Le.trans hz172 hz221))))))) (y46.up (Zm.Le.trans hz36 (Zm.Le.trans hz69 (Zm.Le.trans hz102 (Zm.Le.trans hz134 (Zm.Le.trans hz166 (Zm.Le.trans hz172 hz221))))))) hr231) ?_
      intro e237 w236 hQ235
      rcases q233 with pe234 | ⟨t223,t224,t225,t226,t227⟩
      all_goals try dsimp only at hp232
      ·obtain ⟨v240,Z241,hz242,rfl,hS243,he244⟩:=hQ235
       refine .inr ⟨_,rfl,?_⟩
       have hS246:=hS243.drop
       refine raised_fx Tryz.func9 ?_
       cases Option.some.inj hp232
       exact hR _ _ (panq_l ⟨v240,Z241,(Zm.Le.trans hz36 (Zm.Le.trans hz69 (Zm.Le.trans hz102 (Zm.Le.trans hz134 (Zm.Le.trans hz166 (Zm.Le.trans hz172 (Zm.Le.trans hz221 hz242))))))),rfl,hS246,he244⟩)
      obtain ⟨Q228,Q229,Q230,Z251,hz252,rfl,hS250,hs253⟩:=hQ235
      try dsimp only at hS250 hs253
      refine .inl ⟨_,rfl,?_⟩
      refine sR 6 [.code (cd9 [1,1,1,1,1,1,1,0,1]),.code p9_19] ?_
      cases t136
      ·have hp254:=ite_f hp232 rfl
       refine sR 6 [.inRegion (opsOf p9_20) [2,3,4],.code p9_21] ?_
       obtain ⟨q266,hr264,hp265⟩:=bind_some' hp254
       have hS271:=hS250.pick2
       have hS272:=hS271.pick2
       refine rCB (litmus_reader__name.ok y7 t224 t225 t226 t227 t223 y2 y3 y4 y12 y13 y14 ba0 y15 Q230 Q228 Q229 y19 y20 y21 y22 y23 y24 y25 y26 y27 y28 y29 y30 y31 y32 y33 y34 y35 y36 hS272 hs253 (y38.up (Zm.Le.trans hz36 (Zm.Le.trans hz69 (Zm.Le.trans hz102 (Zm.Le.trans hz134 (Zm.Le.trans hz166 (Zm.Le.trans hz172 (Zm.Le.trans hz221 hz252)))))))) (SlZ.mono (mono_repL (mono_flat _)) y39 (Zm.Le.trans hz36 (Zm.Le.trans hz69 (Zm.Le.trans hz102 (Zm.Le.trans hz134 (Zm.Le.trans hz166 (Zm.Le.trans hz172 (Zm.Le.trans hz221 hz252)))))))) (y40.up (Zm.Le.trans hz36 (Zm.Le.trans hz69 (Zm.Le.trans hz102 (Zm.Le.trans hz134 (Zm.Le.trans hz166 (Zm.Le.trans hz172 (Zm.Le.trans hz221 hz252)))))))) (y41.up (Zm.Le.trans hz36 (Zm.Le.trans hz69 (Zm.Le.trans hz102 (Zm.Le.trans hz134 (Zm.Le.trans hz166 (Zm.Le.trans hz172 (Zm.Le.trans hz221 hz252)))))))) (y42.up (Zm.Le.trans hz36 (Zm.Le.trans hz69 (Zm.Le.trans hz102 (Zm.Le.trans hz134 (Zm.Le.trans hz166 (Zm.Le.trans hz172 (Zm.Le.trans hz221 hz252)))))))) (y43.up (Zm.Le.trans hz36 (Zm.Le.trans hz69 (Zm.Le.trans hz102 (Zm.Le.trans hz134 (Zm.Le.trans hz166 (Zm.Le.trans hz172 (Zm.Le.trans hz221 hz252)))))))) (SlZ.mono (mono_repL (mono_flat _)) y44 (Zm.Le.trans hz36 (Zm.Le.trans hz69 (Zm.Le.trans hz102 (Zm.Le.trans hz134 (Zm.Le.trans hz166 (Zm.Le.trans hz172 (Zm.Le.trans hz221 hz252)))))))) (y45.up (Zm.Le.trans hz36 (Zm.Le.trans hz69 (Zm.Le.trans hz102 (Zm.Le.trans hz134 (Zm.Le.trans hz166 (Zm.Le.trans hz172 (Zm.Le.trans hz221 hz252)))))))) (y46.up (Zm.Le.trans hz36 (Zm.Le.trans hz69 (Zm.Le.trans hz102 (Zm.Le.trans hz134 (Zm.Le.trans hz166 (Zm.Le.trans hz172 (Zm.Le.trans hz221 hz252)))))))) hr264) ?_
       intro e270 w269 hQ268
       rcases q266 with pe267 | ⟨t255,t256,t257,t258,t259,t260⟩
       all_goals try dsimp only at hp265
       ·obtain ⟨v273,Z274,hz275,rfl,hS276,he277⟩:=hQ268
        refine .inr ⟨_,rfl,?_⟩
        have hS279:=hS276.drop
        refine raised_fx Tryz.func9 ?_
        cases Option.some.inj hp265
        exact hR _ _ (panq_l ⟨v273,Z274,(Zm.Le.trans hz36 (Zm.Le.trans hz69 (Zm.Le.trans hz102 (Zm.Le.trans hz134 (Zm.Le.trans hz166 (Zm.Le.trans hz172 (Zm.Le.trans hz221 (Zm.Le.trans hz252 hz275)))))))),rfl,hS279,he277⟩)
       obtain ⟨Q261,Q262,Q263,Z284,hz285,rfl,hS283,hs286⟩:=hQ268
       try dsimp only at hS283 hs286
       refine .inl ⟨_,rfl,?_⟩
       refine sR 1 [.inRegion (opsOf p9_20) [4],.code p9_21] ?_
       have hS287:=hS283.pick3
       refine rSA 23 (.tmp 2) (.tmp 47) (enc_api_Instr (⟨9,t255,(⟨#[]⟩ : ByteArray),t190,0⟩ : api_Instr)) hS287 (one_api_Instr _) ?_
       intro w288 hS289
       refine sR 1 [.code p9_21] ?_
       have hS290:=hS289.drop
       refine rRc (.agg (enc_api_Instr (⟨9,t255,(⟨#[]⟩ : ByteArray),t190,0⟩ : api_Instr)).toArray) (.ca 2 23 (hS289.blk 0 rfl) .nil) Tryz.func9 ?_
       cases Option.some.inj hp265
       exact hR _ _ (panq_r ⟨Q261,Q262,Q263,Z284,(Zm.Le.trans hz36 (Zm.Le.trans hz69 (Zm.Le.trans hz102 (Zm.Le.trans hz134 (Zm.Le.trans hz166 (Zm.Le.trans hz172 (Zm.Le.trans hz221 (Zm.Le.trans hz252 hz285)))))))),rfl,hS290,hs286⟩)
      have hp292:=ite_t hp232 rfl
      refine sR 5 (.inRegion (opsOf p9_22) [2,3,4]::td160) ?_
      obtain ⟨q304,hr302,hp303⟩:=bind_some' hp292
      have hS309:=hS250.pick2
      have hS310:=hS309.pick2
      refine rCB (litmus_reader__name.ok y7 t224 t225 t226 t227 t223 y2 y3 y4 y12 y13 y14 ba0 y15 Q230 Q228 Q229 y19 y20 y21 y22 y23 y24 y25 y26 y27 y28 y29 y30 y31 y32 y33 y34 y35 y36 hS310 hs253 (y38.up (Zm.Le.trans hz36 (Zm.Le.trans hz69 (Zm.Le.trans hz102 (Zm.Le.trans hz134 (Zm.Le.trans hz166 (Zm.Le.trans hz172 (Zm.Le.trans hz221 hz252)))))))) (SlZ.mono (mono_repL (mono_flat _)) y39 (Zm.Le.trans hz36 (Zm.Le.trans hz69 (Zm.Le.trans hz102 (Zm.Le.trans hz134 (Zm.Le.trans hz166 (Zm.Le.trans hz172 (Zm.Le.trans hz221 hz252)))))))) (y40.up (Zm.Le.trans hz36 (Zm.Le.trans hz69 (Zm.Le.trans hz102 (Zm.Le.trans hz134 (Zm.Le.trans hz166 (Zm.Le.trans hz172 (Zm.Le.trans hz221 hz252)))))))) (y41.up (Zm.Le.trans hz36 (Zm.Le.trans hz69 (Zm.Le.trans hz102 (Zm.Le.trans hz134 (Zm.Le.trans hz166 (Zm.Le.trans hz172 (Zm.Le.trans hz221 hz252)))))))) (y42.up (Zm.Le.trans hz36 (Zm.Le.trans hz69 (Zm.Le.trans hz102 (Zm.Le.trans hz134 (Zm.Le.trans hz166 (Zm.Le.trans hz172 (Zm.Le.trans hz221 hz252)))))))) (y43.up (Zm.Le.trans hz36 (Zm.Le.trans hz69 (Zm.Le.trans hz102 (Zm.Le.trans hz134 (Zm.Le.trans hz166 (Zm.Le.trans hz172 (Zm.Le.trans hz221 hz252)))))))) (SlZ.mono (mono_repL (mono_flat _)) y44 (Zm.Le.trans hz36 (Zm.Le.trans hz69 (Zm.Le.trans hz102 (Zm.Le.trans hz134 (Zm.Le.trans hz166 (Zm.Le.trans hz172 (Zm.Le.trans hz221 hz252)))))))) (y45.up (Zm.Le.trans hz36 (Zm.Le.trans hz69 (Zm.Le.trans hz102 (Zm.Le.trans hz134 (Zm.Le.trans hz166 (Zm.Le.trans hz172 (Zm.Le.trans hz221 hz252)))))))) (y46.up (Zm.Le.trans hz36 (Zm.Le.trans hz69 (Zm.Le.trans hz102 (Zm.Le.trans hz134 (Zm.Le.trans hz166 (Zm.Le.trans hz172 (Zm.Le.trans hz221 hz252)))))))) hr302) ?_
      intro e308 w307 hQ306
      rcases q304 with pe305 | ⟨t293,t294,t295,t296,t297,t298⟩
      all_goals try dsimp only at hp303
      ·obtain ⟨v311,Z312,hz313,rfl,hS314,he315⟩:=hQ306
       refine .inr ⟨_,rfl,?_⟩
       have hS317:=hS314.drop
       refine raised_fx Tryz.func9 ?_
       cases Option.some.inj hp303
       exact hR _ _ (panq_l ⟨v311,Z312,(Zm.Le.trans hz36 (Zm.Le.trans hz69 (Zm.Le.trans hz102 (Zm.Le.trans hz134 (Zm.Le.trans hz166 (Zm.Le.trans hz172 (Zm.Le.trans hz221 (Zm.Le.trans hz252 hz313)))))))),rfl,hS317,he315⟩)
      obtain ⟨Q299,Q300,Q301,Z322,hz323,rfl,hS321,hs324⟩:=hQ306
      try dsimp only at hS321 hs324
      refine .inl ⟨_,rfl,?_⟩
      refine sR 1 (.inRegion (opsOf p9_22) [4]::td160) ?_
      have hS325:=hS321.pick3
      refine rSA 23 (.tmp 2) (.tmp 43) (enc_api_Instr (⟨8,(⟨#[]⟩ : ByteArray),t293,t190,0⟩ : api_Instr)) hS325 (one_api_Instr _) ?_
      intro w326 hS327
      refine sR 1 td160 ?_
      have hS328:=hS327.drop
      refine rRc (.agg (enc_api_Instr (⟨8,(⟨#[]⟩ : ByteArray),t293,t190,0⟩ : api_Instr)).toArray) (.ca 2 23 (hS327.blk 0 rfl) .nil) Tryz.func9 ?_
      cases Option.some.inj hp303
      exact hR _ _ (panq_r ⟨Q299,Q300,Q301,Z322,(Zm.Le.trans hz36 (Zm.Le.trans hz69 (Zm.Le.trans hz102 (Zm.Le.trans hz134 (Zm.Le.trans hz166 (Zm.Le.trans hz172 (Zm.Le.trans hz221 (Zm.Le.trans hz252 hz323)))))))),rfl,hS328,hs324⟩)
     refine sS 7 [.inRegion (opsOf (cd9 [1,1,1,1,0,0])) [],.code (cd9 [1,1,1,1,0,1]),.code p9_13] 32 (!t136) (fun h330 => ?_) fun h331 => ?_
     ·have hp332:=ite_t hv169 h330
      refine sR 4 [.inRegion (opsOf (cd9 [1,1,1,1,0,1,0])) [1],.code p9_13] ?_
      obtain ⟨q343,hr341,hp342⟩:=bind_some' hp332
      have hS348:=hS164.pick2
      have hS349:=hS348.pick2
      refine rCB (litmus_reader__must.ok y7 t138 t139 t140 t141 t137 y2 y3 y4 y12 y13 y14 (⟨#[88,65,68,68]⟩ : ByteArray) ba0 y15 Q144 Q142 Q143 y19 y20 y21 y22 y23 y24 y25 y26 y27 y28 y29 y30 y31 y32 y33 y34 y35 y36 hS349 hs167 (y38.up (Zm.Le.trans hz36 (Zm.Le.trans hz69 (Zm.Le.trans hz102 (Zm.Le.trans hz134 hz166))))) (SlZ.mono (mono_repL (mono_flat _)) y39 (Zm.Le.trans hz36 (Zm.Le.trans hz69 (Zm.Le.trans hz102 (Zm.Le.trans hz134 hz166))))) (y40.up (Zm.Le.trans hz36 (Zm.Le.trans hz69 (Zm.Le.trans hz102 (Zm.Le.trans hz134 hz166))))) (y41.up (Zm.Le.trans hz36 (Zm.Le.trans hz69 (Zm.Le.trans hz102 (Zm.Le.trans hz134 hz166))))) (y42.up (Zm.Le.trans hz36 (Zm.Le.trans hz69 (Zm.Le.trans hz102 (Zm.Le.trans hz134 hz166))))) (y43.up (Zm.Le.trans hz36 (Zm.Le.trans hz69 (Zm.Le.trans hz102 (Zm.Le.trans hz134 hz166))))) (SlZ.mono (mono_repL (mono_flat _)) y44 (Zm.Le.trans hz36 (Zm.Le.trans hz69 (Zm.Le.trans hz102 (Zm.Le.trans hz134 hz166))))) (y45.up (Zm.Le.trans hz36 (Zm.Le.trans hz69 (Zm.Le.trans hz102 (Zm.Le.trans hz134 hz166))))) (y46.up (Zm.Le.trans hz36 (Zm.Le.trans hz69 (Zm.Le.trans hz102 (Zm.Le.trans hz134 hz166))))) hr341) ?_
      intro e347 w346 hQ345
      rcases q343 with pe344 | ⟨t333,t334,t335,t336,t337⟩
      all_goals try dsimp only at hp342
      ·obtain ⟨v350,Z351,hz352,rfl,hS353,he354⟩:=hQ345
       refine .inr ⟨_,rfl,?_⟩
       have hS356:=hS353.drop
       refine raised_fx Tryz.func9 ?_
       cases hq186 _ (Option.some.inj hp342)
       exact hR _ _ (panq_l ⟨v350,Z351,(Zm.Le.trans hz36 (Zm.Le.trans hz69 (Zm.Le.trans hz102 (Zm.Le.trans hz134 (Zm.Le.trans hz166 hz352))))),rfl,hS356,he354⟩)
      obtain ⟨Q338,Q339,Q340,Z361,hz362,rfl,hS360,hs363⟩:=hQ345
      try dsimp only at hS360 hs363
      refine .inl ⟨_,rfl,?_⟩
      refine sR 1 [.code p9_13] ?_
      have hS364:=hS360.pick3
      have hS365:=hS364.pick1
      have hS366:=hS365.pick3
      have hS367:=hS366.pick3
      refine rF (mk 48 [(0,.pointer (some ⟨ba0,0,none⟩)),(2,.pointer (some ⟨b1,0,none⟩)),(4,.bool t136)]) ?_
      exact J187 t333 t334 t335 t336 t337 (Option.some.inj hp342) _ Z361 Q338 Q339 Q340 _ hz362 hS367 hs363
     have hp368:=ite_f hv169 h331
     refine sR 3 [.code p9_13] ?_
     have hS369:=hS164.pick3
     have hS370:=hS369.pick1
     have hS371:=hS370.pick3
     have hS372:=hS371.pick3
     refine rF (mk 48 [(0,.pointer (some ⟨ba0,0,none⟩)),(2,.pointer (some ⟨b1,0,none⟩)),(4,.bool t136)]) ?_
     exact J187 t137 t138 t139 t140 t141 (Option.some.inj hp368) _ Z165 Q142 Q143 Q144 _ (Zm.Le.refl _) hS372 hs167
    have hp373:=ite_t hp82 rfl
    refine sR 4 (iR p9_27 1 4::.code p9_28::td159) ?_
    obtain ⟨q385,hr383,hp384⟩:=bind_some' hp373
    have hS390:=hS100.pick2
    have hS391:=hS390.pick2
    refine rCB (litmus_reader__bracketed.ok y7 t74 t75 t76 t77 t73 y2 y3 y4 y12 y13 y14 ba0 y15 Q80 Q78 Q79 y19 y20 y21 y22 y23 y24 y25 y26 y27 y28 y29 y30 y31 y32 y33 y34 y35 y36 hS391 hs103 (y38.up (Zm.Le.trans hz36 (Zm.Le.trans hz69 hz102))) (SlZ.mono (mono_repL (mono_flat _)) y39 (Zm.Le.trans hz36 (Zm.Le.trans hz69 hz102))) (y40.up (Zm.Le.trans hz36 (Zm.Le.trans hz69 hz102))) (y41.up (Zm.Le.trans hz36 (Zm.Le.trans hz69 hz102))) (y42.up (Zm.Le.trans hz36 (Zm.Le.trans hz69 hz102))) (y43.up (Zm.Le.trans hz36 (Zm.Le.trans hz69 hz102))) (SlZ.mono (mono_repL (mono_flat _)) y44 (Zm.Le.trans hz36 (Zm.Le.trans hz69 hz102))) (y45.up (Zm.Le.trans hz36 (Zm.Le.trans hz69 hz102))) (y46.up (Zm.Le.trans hz36 (Zm.Le.trans hz69 hz102))) hr383) ?_
    intro e389 w388 hQ387
    rcases q385 with pe386 | ⟨t374,t375,t376,t377,t378,t379⟩
    all_goals try dsimp only at hp384
    ·obtain ⟨v392,Z393,hz394,rfl,hS395,he396⟩:=hQ387
     refine .inr ⟨_,rfl,?_⟩
     have hS398:=hS395.drop
     refine raised_fx Tryz.func9 ?_
     cases Option.some.inj hp384
     exact hR _ _ (panq_l ⟨v392,Z393,(Zm.Le.trans hz36 (Zm.Le.trans hz69 (Zm.Le.trans hz102 hz394))),rfl,hS398,he396⟩)
    obtain ⟨Q380,Q381,Q382,Z403,hz404,rfl,hS402,hs405⟩:=hQ387
    try dsimp only at hS402 hs405
    refine .inl ⟨_,rfl,?_⟩
    refine sR 1 (.inRegion (opsOf p9_27) [3,4]::.code p9_28::td159) ?_
    refine rA 23 (.agg (enc_api_Instr (⟨0,(⟨#[]⟩ : ByteArray),(⟨#[]⟩ : ByteArray),(⟨#[]⟩ : ByteArray),0⟩ : api_Instr)).toArray) (enc_api_Instr (⟨0,(⟨#[]⟩ : ByteArray),(⟨#[]⟩ : ByteArray),(⟨#[]⟩ : ByteArray),0⟩ : api_Instr)) hS402 ?_
    intro b406 w407 hS408
    refine rSA 23 (.tmp 3) (.tmp 20) (enc_api_Instr (⟨7,(⟨#[]⟩ : ByteArray),(⟨#[]⟩ : ByteArray),t374,0⟩ : api_Instr)) hS408 (one_api_Instr _) ?_
    intro w410 hS411
    refine sR 4 (.inRegion (opsOf (cd9 [1,0,0,1,1,1,1,1,0,1,0])) [1]::.code (cd9 [1,0,0,1,1,1,1,1,0,1,1])::td159) ?_
    obtain ⟨q422,hr420,hp421⟩:=bind_some' hp384
    have hS427:=hS411.pick1
    have hS428:=hS427.pick3
    have hS429:=hS428.pick3
    refine rCB (litmus_reader__must.ok y7 t376 t377 t378 t379 t375 y2 y3 y4 y12 y13 y14 (⟨#[44]⟩ : ByteArray) ba0 y15 Q382 Q380 Q381 y19 y20 y21 y22 y23 y24 y25 y26 y27 y28 y29 y30 y31 y32 y33 y34 y35 y36 hS429 hs405 (y38.up (Zm.Le.trans hz36 (Zm.Le.trans hz69 (Zm.Le.trans hz102 hz404)))) (SlZ.mono (mono_repL (mono_flat _)) y39 (Zm.Le.trans hz36 (Zm.Le.trans hz69 (Zm.Le.trans hz102 hz404)))) (y40.up (Zm.Le.trans hz36 (Zm.Le.trans hz69 (Zm.Le.trans hz102 hz404)))) (y41.up (Zm.Le.trans hz36 (Zm.Le.trans hz69 (Zm.Le.trans hz102 hz404)))) (y42.up (Zm.Le.trans hz36 (Zm.Le.trans hz69 (Zm.Le.trans hz102 hz404)))) (y43.up (Zm.Le.trans hz36 (Zm.Le.trans hz69 (Zm.Le.trans hz102 hz404)))) (SlZ.mono (mono_repL (mono_flat _)) y44 (Zm.Le.trans hz36 (Zm.Le.trans hz69 (Zm.Le.trans hz102 hz404)))) (y45.up (Zm.Le.trans hz36 (Zm.Le.trans hz69 (Zm.Le.trans hz102 hz404)))) (y46.up (Zm.Le.trans hz36 (Zm.Le.trans hz69 (Zm.Le.trans hz102 hz404)))) hr420) ?_
    intro e426 w425 hQ424
    rcases q422 with pe423 | ⟨t412,t413,t414,t415,t416⟩
    all_goals try dsimp only at hp421
    ·obtain ⟨v430,Z431,hz432,rfl,hS433,he434⟩:=hQ424
     refine .inr ⟨_,rfl,?_⟩
     have hS436:=hS433.drop
     have hS437:=hS436.drop
     refine raised_fx Tryz.func9 ?_
     cases Option.some.inj hp421
     exact hR _ _ (panq_l ⟨v430,Z431,(Zm.Le.trans hz36 (Zm.Le.trans hz69 (Zm.Le.trans hz102 (Zm.Le.trans hz404 hz432)))),rfl,hS437,he434⟩)
    obtain ⟨Q417,Q418,Q419,Z442,hz443,rfl,hS441,hs444⟩:=hQ424
    try dsimp only at hS441 hs444
    refine .inl ⟨_,rfl,?_⟩
    refine sR 4 (.inRegion (opsOf p9_31) [1,2,3]::.code p9_32::td159) ?_
    obtain ⟨q456,hr454,hp455⟩:=bind_some' hp421
    have hS461:=hS441.pick2
    have hS462:=hS461.pick2
    refine rCB (litmus_reader__name.ok y7 t413 t414 t415 t416 t412 y2 y3 y4 y12 y13 y14 ba0 y15 Q419 Q417 Q418 y19 y20 y21 y22 y23 y24 y25 y26 y27 y28 y29 y30 y31 y32 y33 y34 y35 y36 hS462 hs444 (y38.up (Zm.Le.trans hz36 (Zm.Le.trans hz69 (Zm.Le.trans hz102 (Zm.Le.trans hz404 hz443))))) (SlZ.mono (mono_repL (mono_flat _)) y39 (Zm.Le.trans hz36 (Zm.Le.trans hz69 (Zm.Le.trans hz102 (Zm.Le.trans hz404 hz443))))) (y40.up (Zm.Le.trans hz36 (Zm.Le.trans hz69 (Zm.Le.trans hz102 (Zm.Le.trans hz404 hz443))))) (y41.up (Zm.Le.trans hz36 (Zm.Le.trans hz69 (Zm.Le.trans hz102 (Zm.Le.trans hz404 hz443))))) (y42.up (Zm.Le.trans hz36 (Zm.Le.trans hz69 (Zm.Le.trans hz102 (Zm.Le.trans hz404 hz443))))) (y43.up (Zm.Le.trans hz36 (Zm.Le.trans hz69 (Zm.Le.trans hz102 (Zm.Le.trans hz404 hz443))))) (SlZ.mono (mono_repL (mono_flat _)) y44 (Zm.Le.trans hz36 (Zm.Le.trans hz69 (Zm.Le.trans hz102 (Zm.Le.trans hz404 hz443))))) (y45.up (Zm.Le.trans hz36 (Zm.Le.trans hz69 (Zm.Le.trans hz102 (Zm.Le.trans hz404 hz443))))) (y46.up (Zm.Le.trans hz36 (Zm.Le.trans hz69 (Zm.Le.trans hz102 (Zm.Le.trans hz404 hz443))))) hr454) ?_
    intro e460 w459 hQ458
    rcases q456 with pe457 | ⟨t445,t446,t447,t448,t449,t450⟩
    all_goals try dsimp only at hp455
    ·obtain ⟨v463,Z464,hz465,rfl,hS466,he467⟩:=hQ458
     refine .inr ⟨_,rfl,?_⟩
     have hS469:=hS466.drop
     have hS470:=hS469.drop
     refine raised_fx Tryz.func9 ?_
     cases Option.some.inj hp455
     exact hR _ _ (panq_l ⟨v463,Z464,(Zm.Le.trans hz36 (Zm.Le.trans hz69 (Zm.Le.trans hz102 (Zm.Le.trans hz404 (Zm.Le.trans hz443 hz465))))),rfl,hS470,he467⟩)
    obtain ⟨Q451,Q452,Q453,Z475,hz476,rfl,hS474,hs477⟩:=hQ458
    try dsimp only at hS474 hs477
    refine .inl ⟨_,rfl,?_⟩
    refine sR 1 (.inRegion (opsOf p9_31) [3]::.code p9_32::td159) ?_
    have hS478:=hS474.pick3
    refine rS 9 (.tmp 25) (.tmp 24) 1 (.string t445) [.string t445] (enc_api_Instr (⟨7,t445,(⟨#[]⟩ : ByteArray),t374,0⟩ : api_Instr)) hS478 ?_
    intro w479 hS480
    refine sR 3 (.inRegion (opsOf (cd9 [1,0,0,1,1,1,1,1,0,1,1,1,0])) [0,1]::.code p9_34::td159) ?_
    refine rLa 23 (.tmp 3) (hS480.blk 0 rfl) ?_
    have hS481:=hS480.pick4
    refine rSA 23 (.tmp 2) (.tmp 26) (enc_api_Instr (⟨7,t445,(⟨#[]⟩ : ByteArray),t374,0⟩ : api_Instr)) hS481 (one_api_Instr _) ?_
    intro w482 hS483
    refine sR 1 (.code p9_34::td159) ?_
    refine r_isret (c:=p9_34) (by kernel_rfl) ?_
    have hS484:=hS483.drop
    have hS485:=hS484.drop
    refine rRc (.agg (enc_api_Instr (⟨7,t445,(⟨#[]⟩ : ByteArray),t374,0⟩ : api_Instr)).toArray) (.ca 2 23 (hS483.blk 0 rfl) .nil) Tryz.func9 ?_
    cases Option.some.inj hp455
    exact hR _ _ (panq_r ⟨Q451,Q452,Q453,Z475,(Zm.Le.trans hz36 (Zm.Le.trans hz69 (Zm.Le.trans hz102 (Zm.Le.trans hz404 (Zm.Le.trans hz443 hz476))))),rfl,hS485,hs477⟩)
   have hp487:=ite_t hp49 rfl
   refine sR 4 (.inRegion (opsOf (cd9 [1,0,0,1,1,1,0,0])) [1]::.code p9_36::td159) ?_
   have hS488:=hS67.pick3
   refine rSA 23 (.tmp 2) (.tmp 14) (enc_api_Instr (⟨6,(⟨#[]⟩ : ByteArray),(⟨#[]⟩ : ByteArray),(⟨#[]⟩ : ByteArray),0⟩ : api_Instr)) hS488 (one_api_Instr _) ?_
   intro w489 hS490
   refine sR 1 (.code p9_36::td159) ?_
   have hS491:=hS490.drop
   refine rRc (.agg (enc_api_Instr (⟨6,(⟨#[]⟩ : ByteArray),(⟨#[]⟩ : ByteArray),(⟨#[]⟩ : ByteArray),0⟩ : api_Instr)).toArray) (.ca 2 23 (hS490.blk 0 rfl) .nil) Tryz.func9 ?_
   cases Option.some.inj hp487
   exact hR _ _ (panq_r ⟨Q45,Q46,Q47,Z68,(Zm.Le.trans hz36 hz69),rfl,hS491,hs70⟩)
  have hp493:=ite_t hp15 rfl
  refine sR 4 (.inRegion (opsOf (cd9 [1,0,0,1,0,0])) [1,2]::.code (cd9 [1,0,0,1,0,1])::td159) ?_
  obtain ⟨q505,hr503,hp504⟩:=bind_some' hp493
  have hS510:=hS34.pick2
  have hS511:=hS510.pick2
  refine rCB (litmus_reader__mov.ok y7 t7 t8 t9 t10 t6 y2 y3 y4 y12 y13 y14 ba0 y15 Q13 Q11 Q12 y19 y20 y21 y22 y23 y24 y25 y26 y27 y28 y29 y30 y31 y32 y33 y34 y35 y36 hS511 hs37 (y38.up hz36) (SlZ.mono (mono_repL (mono_flat _)) y39 hz36) (y40.up hz36) (y41.up hz36) (y42.up hz36) (y43.up hz36) (SlZ.mono (mono_repL (mono_flat _)) y44 hz36) (y45.up hz36) (y46.up hz36) hr503) ?_
  intro e509 w508 hQ507
  rcases q505 with pe506 | ⟨t494,t495,t496,t497,t498,t499⟩
  all_goals try dsimp only at hp504
  ·obtain ⟨v512,Z513,hz514,rfl,hS515,he516⟩:=hQ507
   refine .inr ⟨_,rfl,?_⟩
   have hS518:=hS515.drop
   refine raised_fx Tryz.func9 ?_
   cases Option.some.inj hp504
   exact hR _ _ (panq_l ⟨v512,Z513,(Zm.Le.trans hz36 hz514),rfl,hS518,he516⟩)
  obtain ⟨Q500,Q501,Q502,Z523,hz524,rfl,hS522,hs525⟩:=hQ507
  try dsimp only at hS522 hs525
  refine .inl ⟨_,rfl,?_⟩
  have hS526:=hS522.pick3
  refine rSA 23 (.tmp 2) (.tmp 10) (enc_api_Instr t494) hS526 (one_api_Instr _) ?_
  intro w527 hS528
  refine sR 1 (.code (cd9 [1,0,0,1,0,1])::td159) ?_
  have hS529:=hS528.drop
  refine rRc (.agg (enc_api_Instr t494).toArray) (.ca 2 23 (hS528.blk 0 rfl) .nil) Tryz.func9 ?_
  cases Option.some.inj hp504
  exact hR _ _ (panq_r ⟨Q500,Q501,Q502,Z523,(Zm.Le.trans hz36 hz524),rfl,hS529,hs525⟩)

noncomputable def cd8 (p : List Nat) : Code := sub (bodyOf Tryz.f8) p
def litmus_Instruction_1.f (y7 : ByteArray) (y8 : Int) (y9 : Int) (y10 : Int) (y11 : PErr) (y1 : List api_Token) (y2 : api_Test) (y3 : List litmus_place) (y4 : List litmus_place) (y12 : List (List litmus_place)) (y13 : List litmus_place) (y14 : List litmus_place) (a1v : api_Instr) : Option (Sum (PErr × api_Instr) ((List api_Token) × Int × Int × Int × PErr × api_Instr)) :=
  (litmus_reader__instr.f y7 y8 y9 y10 y11 y1 y2 y3 y4 y12 y13 y14 >>= (fun | .inl pe13 => some (.inl (pe13,a1v)) | .inr (t1,t2,t3,t4,t5,t6) => (litmus_reader__look.f y7 t3 t4 t5 t6 t2 y2 y3 y4 y12 y13 y14 0 >>= (fun | .inl pe48 => some (.inl (pe48,t1)) | .inr (t36,t37,t38,t39,t40,t41) => (if (t36.Kind != 0) = true then (litmus_reader__syntax.f y7 t38 t39 t40 t41 t37 y2 y3 y4 y12 y13 y14 >>= (fun | .inl pe74 => some (.inl (pe74,t1)) | .inr _ => none)) else some (.inr (t37,t38,t39,t40,t41,t1)))))))
set_option maxHeartbeats 16000000 in
theorem litmus_Instruction_1.ok (y7 : ByteArray) (y8 : Int) (y9 : Int) (y10 : Int) (y11 : PErr) (y1 : List api_Token) (y2 : api_Test) (y3 : List litmus_place) (y4 : List litmus_place) (y12 : List (List litmus_place)) (y13 : List litmus_place) (y14 : List litmus_place) (a1v : api_Instr) (ba0 : Nat) (y15 : Nat) (y16 : Value) (y17 : Option Addr) (y18 : Nat) (y19 : Option Addr) (y20 : Nat) (y21 : Option Addr) (y22 : Nat) (y23 : Option Addr) (y24 : Nat) (y25 : Option Addr) (y26 : Nat) (y27 : Option Addr) (y28 : Nat) (y29 : Option Addr) (y30 : Nat) (y31 : Option Addr) (y32 : Nat) (y33 : Option Addr) (y34 : Nat) (y35 : Option Addr) (y36 : Nat) (ba1 : Nat) {w0 : World} {Z : Zm} {fs : List XObj} {w : World} (hS0 : St w0 Z (xblk ba0 70 ([.pointer (some ⟨y15,0,none⟩),.slice y17 y1.length y18,.string y2.Name,.string y2.Doc,.slice y19 y2.Inits.length y20,.slice y21 y2.Threads.length y22,.slice y23 y2.Watch.length y24,.int .i64 y2.Quant,.slice y25 y2.Cond.length y26,.slice y27 y3.length y28,.slice y29 y4.length y30,.slice y31 y12.length y32,.slice y33 y13.length y34,.slice y35 y14.length y36,.nilIface])::xblk y15 93 ([.string y7,.int .i64 y8,.int .i64 y9,.int .i64 y10,y16])::xrow y17 y18 39 7 (y1.flatMap enc_api_Token)::xblk ba1 23 (enc_api_Instr a1v)::fs) w) (y37 : RepE 57 58 Z y16 y11) (y38 : SlZ (flat enc_api_Init) 3 Z y19 y20 y2.Inits) (y39 : SlZ (repL (flat enc_api_Instr) 5) 1 Z y21 y22 y2.Threads) (y40 : SlZ (flat enc_api_Ref) 2 Z y23 y24 y2.Watch) (y41 : SlZ (flat enc_api_Node) 6 Z y25 y26 y2.Cond) (y42 : SlZ (flat enc_litmus_place) 2 Z y27 y28 y3) (y43 : SlZ (flat enc_litmus_place) 2 Z y29 y30 y4) (y44 : SlZ (repL (flat enc_litmus_place) 2) 1 Z y31 y32 y12) (y45 : SlZ (flat enc_litmus_place) 2 Z y33 y34 y13) (y46 : SlZ (flat enc_litmus_place) 2 Z y35 y36 y14) {qr : Sum (PErr × api_Instr) ((List api_Token) × Int × Int × Int × PErr × api_Instr)} (hp0 : litmus_Instruction_1.f y7 y8 y9 y10 y11 y1 y2 y3 y4 y12 y13 y14 a1v = some qr) :
    Calls Tryz.prog 8 #[.pointer (some ⟨ba0,0,none⟩),.pointer (some ⟨ba1,0,none⟩)] w (fun e w' => PanQ (fun p => ∃ (v : Value) (Z' : Zm),Zm.Le Z Z' ∧ e = .panicked [{ v:=v,recovered:=false }] ∧ St w0 Z' (xblk ba1 23 (enc_api_Instr p.2)::fs) w' ∧ RepE 57 58 Z' v p.1) (fun q => ∃ (QA0 : Option Addr) (Qc0 : Nat) (Qv2 : Value) (Z' : Zm),Zm.Le Z Z' ∧ e = .returned (.tuple #[]) ∧ St w0 Z' (xrow QA0 Qc0 39 7 (q.1.flatMap enc_api_Token)::xblk ba0 70 ([.pointer (some ⟨y15,0,none⟩),.slice QA0 q.1.length Qc0,.string y2.Name,.string y2.Doc,.slice y19 y2.Inits.length y20,.slice y21 y2.Threads.length y22,.slice y23 y2.Watch.length y24,.int .i64 y2.Quant,.slice y25 y2.Cond.length y26,.slice y27 y3.length y28,.slice y29 y4.length y30,.slice y31 y12.length y32,.slice y33 y13.length y34,.slice y35 y14.length y36,.nilIface])::xblk y15 93 ([.string y7,.int .i64 q.2.1,.int .i64 q.2.2.1,.int .i64 q.2.2.2.1,Qv2])::xblk ba1 23 (enc_api_Instr q.2.2.2.2.2)::fs) w' ∧ RepE 57 58 Z' Qv2 q.2.2.2.2.1) qr):=by
  refine calls_abs ?_; intro R hR
  unfold litmus_Instruction_1.f at hp0
  refine calls_of_runs (fn:=Tryz.f8) (c:=cd8 []) Tryz.func8 (by kernel_rfl) (al:=[.pointer (some ⟨ba0,0,none⟩),.pointer (some ⟨ba1,0,none⟩)]) rfl (n:=9) rfl ?_
  refine sR 3 [.inRegion (opsOf (cd8 [0])) [1,2],.code (cd8 [1])] ?_
  obtain ⟨q12,hr10,hp11⟩:=bind_some' hp0
  have hS17:=hS0.pick2
  have hS18:=hS17.pick2
  have hS19:=hS18.pick2
  refine rCB (litmus_reader__instr.ok y7 y8 y9 y10 y11 y1 y2 y3 y4 y12 y13 y14 ba0 y15 y16 y17 y18 y19 y20 y21 y22 y23 y24 y25 y26 y27 y28 y29 y30 y31 y32 y33 y34 y35 y36 hS19 y37 y38 y39 y40 y41 y42 y43 y44 y45 y46 hr10) ?_
  intro e16 w15 hQ14
  rcases q12 with pe13 | ⟨t1,t2,t3,t4,t5,t6⟩
  all_goals try dsimp only at hp11
  ·obtain ⟨v20,Z21,hz22,rfl,hS23,he24⟩:=hQ14
   refine .inr ⟨_,rfl,?_⟩
   refine raised_fx Tryz.func8 ?_
   cases Option.some.inj hp11
   exact hR _ _ (panq_l ⟨v20,Z21,hz22,rfl,hS23,he24⟩)
  obtain ⟨Q7,Q8,Q9,Z30,hz31,rfl,hS29,hs32⟩:=hQ14
  try dsimp only at hS29 hs32
  refine .inl ⟨_,rfl,?_⟩
  have hS33:=hS29.pick3
  refine rSA 23 (.tmp 1) (.tmp 4) (enc_api_Instr t1) hS33 (one_api_Instr _) ?_
  intro w34 hS35
  refine sR 4 [.inRegion (opsOf (cd8 [1,0])) [1,2,3],.code (cd8 [1,1])] ?_
  obtain ⟨q47,hr45,hp46⟩:=bind_some' hp11
  have hS52:=hS35.pick1
  have hS53:=hS52.pick3
  have hS54:=hS53.pick3
  refine rCB (litmus_reader__look.ok y7 t3 t4 t5 t6 t2 y2 y3 y4 y12 y13 y14 0 ba0 y15 Q9 Q7 Q8 y19 y20 y21 y22 y23 y24 y25 y26 y27 y28 y29 y30 y31 y32 y33 y34 y35 y36 hS54 hs32 (y38.up hz31) (SlZ.mono (mono_repL (mono_flat _)) y39 hz31) (y40.up hz31) (y41.up hz31) (y42.up hz31) (y43.up hz31) (SlZ.mono (mono_repL (mono_flat _)) y44 hz31) (y45.up hz31) (y46.up hz31) hr45) ?_
  intro e51 w50 hQ49
  rcases q47 with pe48 | ⟨t36,t37,t38,t39,t40,t41⟩
  all_goals try dsimp only at hp46
  ·obtain ⟨v55,Z56,hz57,rfl,hS58,he59⟩:=hQ49
   refine .inr ⟨_,rfl,?_⟩
   refine raised_fx Tryz.func8 ?_
   cases Option.some.inj hp46
   exact hR _ _ (panq_l ⟨v55,Z56,(Zm.Le.trans hz31 hz57),rfl,hS58,he59⟩)
  obtain ⟨Q42,Q43,Q44,Z65,hz66,rfl,hS64,hs67⟩:=hQ49
  try dsimp only at hS64 hs67
  refine .inl ⟨_,rfl,?_⟩
  refine sS 2 [.inRegion (opsOf (cd8 [1,0])) [],.code (cd8 [1,1])] 8 (t36.Kind != 0) (fun h68 => ?_) fun h69 => ?_
  ·have hp70:=ite_t hp46 h68
   refine sR 4 [.inRegion (opsOf (cd8 [1,1,0])) [1]] ?_
   obtain ⟨q73,hr71,hp72⟩:=bind_some' hp70
   have hS78:=hS64.pick2
   have hS79:=hS78.pick2
   refine rCB (litmus_reader__syntax.ok y7 t38 t39 t40 t41 t37 y2 y3 y4 y12 y13 y14 ba0 y15 Q44 Q42 Q43 y19 y20 y21 y22 y23 y24 y25 y26 y27 y28 y29 y30 y31 y32 y33 y34 y35 y36 hS79 hs67 (y38.up (Zm.Le.trans hz31 hz66)) (SlZ.mono (mono_repL (mono_flat _)) y39 (Zm.Le.trans hz31 hz66)) (y40.up (Zm.Le.trans hz31 hz66)) (y41.up (Zm.Le.trans hz31 hz66)) (y42.up (Zm.Le.trans hz31 hz66)) (y43.up (Zm.Le.trans hz31 hz66)) (SlZ.mono (mono_repL (mono_flat _)) y44 (Zm.Le.trans hz31 hz66)) (y45.up (Zm.Le.trans hz31 hz66)) (y46.up (Zm.Le.trans hz31 hz66)) hr71) ?_
   intro e77 w76 hQ75
   rcases q73 with pe74 | _
   all_goals try dsimp only at hp72
   ·obtain ⟨v80,Z81,hz82,rfl,hS83,he84⟩:=hQ75
    refine .inr ⟨_,rfl,?_⟩
    refine raised_fx Tryz.func8 ?_
    cases Option.some.inj hp72
    exact hR _ _ (panq_l ⟨v80,Z81,(Zm.Le.trans hz31 (Zm.Le.trans hz66 hz82)),rfl,hS83,he84⟩)
   cases hp72
  have hp87:=ite_f hp46 h69
  refine sR 3 [] ?_
  refine runs_end (fn:=Tryz.f8) (v:=.tuple #[]) Tryz.func8 (by kernel_rfl) ?_
  cases Option.some.inj hp87
  exact hR _ _ (panq_r ⟨Q42,Q43,Q44,Z65,(Zm.Le.trans hz31 hz66),rfl,hS64,hs67⟩)

noncomputable def cd17 (p : List Nat) : Code := sub (bodyOf Tryz.f17) p
abbrev p17_4:=cd17 [1,1,0,1,0,1,0,0]
abbrev p17_5:=cd17 [1,1,0,1,0,1,0,1]
abbrev p17_7:=cd17 [1,1,0,1,0,1,0,1,0]
abbrev p17_8:=cd17 [1,1,0,1,0,1,0,1,1]
abbrev p17_9:=cd17 [1,1,0,1,0,1,0,1,1,0,0]
abbrev td161:List Item:=[.code (cd17 [1,1,0,1,1])]
abbrev td162:List Item:=.code (cd17 [1,1,0,1,0,1,0,1,1,0,1])::td161
def litmus_read_1.f (pe : PErr) : Option PErr :=
  (PErr.cas pe (none) (fun n1 => none) (fun n2 n3 n4 => some ((.pos n2 n3 n4))))
set_option maxHeartbeats 16000000 in
theorem litmus_read_1.ok (pe : PErr) (ba0 : Nat) (wa0v : Value) (ba1 : Nat) (pv : Value) {w0 : World} {Z : Zm} {fs : List XObj} {w : World} (hS0 : St w0 Z (xblk ba0 34 ([wa0v])::xblk ba1 25 ([.nilIface])::fs) w) (hpe : RepE 57 58 Z pv pe) (hE : Env Z) {q0 : PErr} (hp0 : litmus_read_1.f pe = some q0) :
    CallsD Tryz.prog 17 #[.pointer (some ⟨ba0,0,none⟩),.pointer (some ⟨ba1,0,none⟩)] (.panicking [{ v:=pv,recovered:=false }]) w (fun e v w' => v = .panicking [{ v:=pv,recovered:=true }] ∧ ∃ (Qv0 : Value),e = .returned (.tuple #[]) ∧ St w0 Z (xblk ba0 34 ([.pointer none])::xblk ba1 25 ([Qv0])::fs) w' ∧ RepE 57 58 Z Qv0 q0):=by
  refine callsD_abs ?_; intro R hR
  unfold litmus_read_1.f at hp0
  refine callsD_of_runs (fn:=Tryz.f17) (c:=cd17 []) Tryz.func17 (by kernel_rfl) (al:=[.pointer (some ⟨ba0,0,none⟩),.pointer (some ⟨ba1,0,none⟩)]) rfl (n:=19) rfl ?_
  refine sR 2 [.inRegion (opsOf (cd17 [0])) [0,1],.code (cd17 [1])] ?_
  refine r_recover (c:=(cd17 [0])) (i:=0) (d:=(some 6)) (by kernel_rfl) (by kernel_rfl) (by kernel_rfl) (by kernel_rfl) ?_
  refine sR 5 [.inRegion (opsOf (cd17 [1,0])) [1],.code (cd17 [1,1])] ?_
  rcases pe with _ | n1 | ⟨n2,n3,n4⟩
  ·have hp5:=cas_nil hp0
   have hpe : pv = .nilIface:=hpe
   subst hpe
   cases hp5
  ·have hp6:=cas_num hp0
   have hpe : pv = .iface 57 (.int .i64 n1):=hpe
   subst hpe
   refine sR 21 (.inRegion (opsOf p17_4) [0]::.code p17_5::td161) ?_
   refine rA 58 (.pointer none) [.pointer none] hS0 ?_
   intro b7 w8 hS9
   refine sR 5 (.inRegion (opsOf p17_7) [2]::.code p17_8::td161) ?_
   refine rC (as_noneB58 n1 hS9 hE) ?_
   rintro _ w11 ⟨rfl,hS12⟩
   refine ⟨_,rfl,?_⟩
   refine sR 5 [.inRegion (opsOf (cd17 [1,1,0,1,1])) [1]] ?_
   cases hp6
  have hp13:=cas_pos hp0
  obtain ⟨b14,hpe,hs15⟩:=hpe
  subst hpe
  refine sR 21 (.inRegion (opsOf p17_4) [0]::.code p17_5::td161) ?_
  refine rA 58 (.pointer none) [.pointer none] hS0 ?_
  intro b17 w18 hS19
  refine sR 5 (.inRegion (opsOf p17_7) [2]::.code p17_8::td161) ?_
  refine rC (as_hitB58 ⟨b14,0,none⟩ hS19 hE) ?_
  rintro _ w21 ⟨rfl,hS22⟩
  refine ⟨_,rfl,?_⟩
  refine sR 4 (iR p17_9 0 4::td162) ?_
  refine rL1 58 (.tmp 5) 0 (hS22.blk 0 rfl) ?_
  refine sR 1 (.inRegion (opsOf p17_9) [2,3]::td162) ?_
  have hS23:=hS22.pick1
  refine rS 34 (.tmp 0) (.const (.pointer none)) 0 (.pointer none) [.pointer none] [.pointer none] hS23 ?_
  intro w24 hS25
  have hS26:=hS25.pick2
  refine rS 25 (.tmp 1) (.tmp 19) 0 (.iface 58 (.pointer (some ⟨b14,0,none⟩))) [.iface 58 (.pointer (some ⟨b14,0,none⟩))] [.iface 58 (.pointer (some ⟨b14,0,none⟩))] hS26 ?_
  intro w27 hS28
  refine sR 1 td162 ?_
  have hS30:=hS28.pick2
  have hS31:=hS30.drop
  have hS32:=hS31.pick1
  refine runsD_ret (fn:=Tryz.f17) (v:=.tuple #[]) Tryz.func17 (by kernel_rfl) ?_
  cases Option.some.inj hp13
  exact hR _ _ ⟨(.iface 58 (.pointer (some ⟨b14,0,none⟩))),rfl,hS32,(RepE.of_pos hs15)⟩

def litmus_read_1_1.f (a0vv_0v_0 : ByteArray) (a0vv_0v_1 : Int) (a0vv_0v_2 : Int) (a0vv_0v_3 : Int) (a0vv_0v_4 : PErr) (a0vv_1 : List api_Token) (a0vv_2 : api_Test) (a0vv_3 : List litmus_place) (a0vv_4 : List litmus_place) (a0vv_5 : List (List litmus_place)) (a0vv_6 : List litmus_place) (a0vv_7 : List litmus_place) : Option Unit :=
  some (())
set_option maxHeartbeats 16000000 in
theorem litmus_read_1_1.ok (a0vv_0v_0 : ByteArray) (a0vv_0v_1 : Int) (a0vv_0v_2 : Int) (a0vv_0v_3 : Int) (a0vv_0v_4 : PErr) (a0vv_1 : List api_Token) (a0vv_2 : api_Test) (a0vv_3 : List litmus_place) (a0vv_4 : List litmus_place) (a0vv_5 : List (List litmus_place)) (a0vv_6 : List litmus_place) (a0vv_7 : List litmus_place) (ba0 : Nat) (ba0v : Nat) (ba0vv_0 : Nat) (va0vv_0v_4 : Value) (Aa0vv_1 : Option Addr) (ca0vv_1 : Nat) (Aa0vv_2_2 : Option Addr) (ca0vv_2_2 : Nat) (Aa0vv_2_3 : Option Addr) (ca0vv_2_3 : Nat) (Aa0vv_2_4 : Option Addr) (ca0vv_2_4 : Nat) (Aa0vv_2_6 : Option Addr) (ca0vv_2_6 : Nat) (Aa0vv_3 : Option Addr) (ca0vv_3 : Nat) (Aa0vv_4 : Option Addr) (ca0vv_4 : Nat) (Aa0vv_5 : Option Addr) (ca0vv_5 : Nat) (Aa0vv_6 : Option Addr) (ca0vv_6 : Nat) (Aa0vv_7 : Option Addr) (ca0vv_7 : Nat) (ba1 : Nat) {w0 : World} {Z : Zm} {fs : List XObj} {w : World} (hS0 : St w0 Z (xblk ba0 34 ([.pointer (some ⟨ba0v,0,none⟩)])::xblk ba0v 70 ([.pointer (some ⟨ba0vv_0,0,none⟩),.slice Aa0vv_1 a0vv_1.length ca0vv_1,.string a0vv_2.Name,.string a0vv_2.Doc,.slice Aa0vv_2_2 a0vv_2.Inits.length ca0vv_2_2,.slice Aa0vv_2_3 a0vv_2.Threads.length ca0vv_2_3,.slice Aa0vv_2_4 a0vv_2.Watch.length ca0vv_2_4,.int .i64 a0vv_2.Quant,.slice Aa0vv_2_6 a0vv_2.Cond.length ca0vv_2_6,.slice Aa0vv_3 a0vv_3.length ca0vv_3,.slice Aa0vv_4 a0vv_4.length ca0vv_4,.slice Aa0vv_5 a0vv_5.length ca0vv_5,.slice Aa0vv_6 a0vv_6.length ca0vv_6,.slice Aa0vv_7 a0vv_7.length ca0vv_7,.nilIface])::xblk ba0vv_0 93 ([.string a0vv_0v_0,.int .i64 a0vv_0v_1,.int .i64 a0vv_0v_2,.int .i64 a0vv_0v_3,va0vv_0v_4])::xblk ba1 25 ([.nilIface])::fs) w) (hea0vv_0v_4 : RepE 57 58 Z va0vv_0v_4 a0vv_0v_4) (ha0vv_1 : SlZ (flat enc_api_Token) 7 Z Aa0vv_1 ca0vv_1 a0vv_1) (ha0vv_2_2 : SlZ (flat enc_api_Init) 3 Z Aa0vv_2_2 ca0vv_2_2 a0vv_2.Inits) (ha0vv_2_3 : SlZ (repL (flat enc_api_Instr) 5) 1 Z Aa0vv_2_3 ca0vv_2_3 a0vv_2.Threads) (ha0vv_2_4 : SlZ (flat enc_api_Ref) 2 Z Aa0vv_2_4 ca0vv_2_4 a0vv_2.Watch) (ha0vv_2_6 : SlZ (flat enc_api_Node) 6 Z Aa0vv_2_6 ca0vv_2_6 a0vv_2.Cond) (ha0vv_3 : SlZ (flat enc_litmus_place) 2 Z Aa0vv_3 ca0vv_3 a0vv_3) (ha0vv_4 : SlZ (flat enc_litmus_place) 2 Z Aa0vv_4 ca0vv_4 a0vv_4) (ha0vv_5 : SlZ (repL (flat enc_litmus_place) 2) 1 Z Aa0vv_5 ca0vv_5 a0vv_5) (ha0vv_6 : SlZ (flat enc_litmus_place) 2 Z Aa0vv_6 ca0vv_6 a0vv_6) (ha0vv_7 : SlZ (flat enc_litmus_place) 2 Z Aa0vv_7 ca0vv_7 a0vv_7) (hp0 : litmus_read_1_1.f a0vv_0v_0 a0vv_0v_1 a0vv_0v_2 a0vv_0v_3 a0vv_0v_4 a0vv_1 a0vv_2 a0vv_3 a0vv_4 a0vv_5 a0vv_6 a0vv_7 = some ()) :
    CallsD Tryz.prog 17 #[.pointer (some ⟨ba0,0,none⟩),.pointer (some ⟨ba1,0,none⟩)] (.returning) w (fun e v w' => v = .returning ∧ e = .returned (.tuple #[]) ∧ St w0 Z (xblk ba0 34 ([.pointer (some ⟨ba0v,0,none⟩)])::xblk ba0v 70 ([.pointer (some ⟨ba0vv_0,0,none⟩),.slice Aa0vv_1 a0vv_1.length ca0vv_1,.string a0vv_2.Name,.string a0vv_2.Doc,.slice Aa0vv_2_2 a0vv_2.Inits.length ca0vv_2_2,.slice Aa0vv_2_3 a0vv_2.Threads.length ca0vv_2_3,.slice Aa0vv_2_4 a0vv_2.Watch.length ca0vv_2_4,.int .i64 a0vv_2.Quant,.slice Aa0vv_2_6 a0vv_2.Cond.length ca0vv_2_6,.slice Aa0vv_3 a0vv_3.length ca0vv_3,.slice Aa0vv_4 a0vv_4.length ca0vv_4,.slice Aa0vv_5 a0vv_5.length ca0vv_5,.slice Aa0vv_6 a0vv_6.length ca0vv_6,.slice Aa0vv_7 a0vv_7.length ca0vv_7,.nilIface])::xblk ba0vv_0 93 ([.string a0vv_0v_0,.int .i64 a0vv_0v_1,.int .i64 a0vv_0v_2,.int .i64 a0vv_0v_3,va0vv_0v_4])::xblk ba1 25 ([.nilIface])::fs) w'):=by
  refine callsD_abs ?_; intro R hR
  unfold litmus_read_1_1.f at hp0
  refine callsD_of_runs (fn:=Tryz.f17) (c:=cd17 []) Tryz.func17 (by kernel_rfl) (al:=[.pointer (some ⟨ba0,0,none⟩),.pointer (some ⟨ba1,0,none⟩)]) rfl (n:=19) rfl ?_
  refine sR 2 [.inRegion (opsOf (cd17 [0])) [0,1],.code (cd17 [1])] ?_
  refine r_recover0 (c:=(cd17 [0])) (i:=0) (d:=(some 6)) (by kernel_rfl) (by kernel_rfl) (by kernel_rfl) (by kernel_rfl) ?_
  refine sR 9 [] ?_
  refine runsD_end (fn:=Tryz.f17) (v:=.tuple #[]) Tryz.func17 (by kernel_rfl) ?_
  cases Option.some.inj hp0
  exact hR _ _ ⟨rfl,hS0⟩

noncomputable def cd7 (p : List Nat) : Code := sub (bodyOf Tryz.f7) p
def litmus_read.f (a0 : ByteArray) (a1c0v : api_Instr) : Option (PErr × api_Instr) :=
  (if (decide ((a0.size : Int) > 1048576)) = true then some (((.num 1),a1c0v)) else (lexis_New.f a0 >>= (fun (t23,t24,t25,t26,t27) => (litmus_Instruction_1.f t23 t24 t25 t26 t27 ([] : List api_Token) (⟨(⟨#[]⟩ : ByteArray),(⟨#[]⟩ : ByteArray),([] : List api_Init),([] : List (List api_Instr)),([] : List api_Ref),0,([] : List api_Node)⟩ : api_Test) ([] : List litmus_place) ([] : List litmus_place) ([] : List (List litmus_place)) ([] : List litmus_place) ([] : List litmus_place) a1c0v >>= (fun | .inl (pe58,k62) => (litmus_read_1.f pe58 >>= (fun t73 => some ((t73,k62)))) | .inr (t46,t47,t48,t49,t50,t51) => (litmus_read_1_1.f t23 t47 t48 t49 t50 t46 (⟨(⟨#[]⟩ : ByteArray),(⟨#[]⟩ : ByteArray),([] : List api_Init),([] : List (List api_Instr)),([] : List api_Ref),0,([] : List api_Node)⟩ : api_Test) ([] : List litmus_place) ([] : List litmus_place) ([] : List (List litmus_place)) ([] : List litmus_place) ([] : List litmus_place) >>= (fun _ => some ((.nil,t51)))))))))
set_option maxHeartbeats 16000000 in
theorem litmus_read.ok (a0 : ByteArray) (a1c0v : api_Instr) (ba1c0 : Nat) {w0 : World} {Z : Zm} {fs : List XObj} {w : World} (hS0 : St w0 Z (xblk ba1c0 23 (enc_api_Instr a1c0v)::fs) w) (hE : Env Z) {q0 : PErr} {q1 : api_Instr} (hp0 : litmus_read.f a0 a1c0v = some (q0,q1)) :
    Calls Tryz.prog 7 #[.string a0,.func (.func 8) #[] #[.pointer (some ⟨ba1c0,0,none⟩)]] w (fun e w' => ∃ (Qv0 : Value) (Qv1 : Value) (Z' : Zm),Zm.Le Z Z' ∧ e = .returned (.tuple #[Qv0,Qv1]) ∧ St w0 Z' (xblk ba1c0 23 (enc_api_Instr q1)::fs) w' ∧ RepE 57 58 Z' Qv1 q0):=by
  refine calls_abs ?_; intro R hR
  unfold litmus_read.f at hp0
  refine calls_of_runs (fn:=Tryz.f7) (c:=cd7 []) Tryz.func7 (by kernel_rfl) (al:=[.string a0,.func (.func 8) #[] #[.pointer (some ⟨ba1c0,0,none⟩)]]) rfl (n:=17) rfl ?_
  refine sR 2 [.inRegion (opsOf (cd7 [0])) [0,1],.code (cd7 [1])] ?_
  refine rA 34 (.pointer none) [.pointer none] hS0 ?_
  intro b1 w2 hS3
  refine rA 25 .nilIface [.nilIface] hS3 ?_
  intro b5 w6 hS7
  refine sS 7 [.inRegion (opsOf (cd7 [1,0,0])) [],.code (cd7 [1,0,1]),.code (cd7 [1,1])] 8 (decide ((a0.size : Int) > 1048576)) (fun h9 => ?_) fun h10 => ?_
  ·have hp11:=ite_t hp0 h9
   refine sR 5 [.inRegion (opsOf (cd7 [1,0,1,0,0])) [1,2],.code (cd7 [1,0,1,0,1]),.code (cd7 [1,1])] ?_
   have hS12:=hS7.pick1
   refine rS 34 (.tmp 4) (.const (.pointer none)) 0 (.pointer none) [.pointer none] [.pointer none] hS12 ?_
   intro w13 hS14
   have hS15:=hS14.pick1
   refine rS 25 (.tmp 5) (.tmp 9) 0 (.iface 57 (.int .i64 1)) [.iface 57 (.int .i64 1)] [.iface 57 (.int .i64 1)] hS15 ?_
   intro w16 hS17
   refine sR 1 [.code (cd7 [1,0,1,0,1]),.code (cd7 [1,1])] ?_
   have hS19:=hS17.drop
   have hS20:=hS19.drop
   refine runs_ret (fn:=Tryz.f7) (v:=.tuple #[.pointer none,.iface 57 (.int .i64 1)]) Tryz.func7 (resl_run (fn:=Tryz.f7) (by kernel_rfl) (.cell (t:=4) (ty:=34) (by kernel_rfl) (loads_at 0 (hS17.blk 1 rfl) (by kernel_rfl) (by kernel_rfl)) (.cell (t:=5) (ty:=25) (by kernel_rfl) (loads_at 0 (hS17.blk 0 rfl) (by kernel_rfl) (by kernel_rfl)) .nil))) ?_
   cases Option.some.inj hp11
   exact hR _ _ ⟨(.pointer none),(.iface 57 (.int .i64 1)),Z,(Zm.Le.refl _),rfl,hS20,(RepE.of_num)⟩
  have hp22:=ite_f hp0 h10
  refine sR 6 [.inRegion (opsOf (cd7 [1,1,0])) [1],.code (cd7 [1,1,1])] ?_
  refine r_defer (c:=(cd7 [1,1,0])) (i:=1) (d:=none) (dd:={ target:=.fn (.func 17) #[.pointer (some ⟨b1,0,none⟩),.pointer (some ⟨b5,0,none⟩)],args:=#[] }) (by kernel_rfl) (by kernel_rfl) (by kernel_rfl) (by kernel_rfl) ?_
  refine sR 4 [iR (cd7 [1,1,1,0]) 1 4,.code (cd7 [1,1,1,1])] ?_
  obtain ⟨⟨t23,t24,t25,t26,t27⟩,hr30,hp31⟩:=bind_some' hp22
  try dsimp only at hp31
  refine rC (lexis_New.ok a0 hS7 hr30) ?_
  rintro _ w34 ⟨Q28,Q29,rfl,hS35,hs36⟩
  refine ⟨_,rfl,?_⟩
  refine rV (.build 70 #[(0,(.tmp 12))]) (.agg #[.pointer (some ⟨Q28,0,none⟩),.slice none 0 0,.string (⟨#[]⟩ : ByteArray),.string (⟨#[]⟩ : ByteArray),.slice none 0 0,.slice none 0 0,.slice none 0 0,.int .i64 0,.slice none 0 0,.slice none 0 0,.slice none 0 0,.slice none 0 0,.slice none 0 0,.slice none 0 0,.nilIface]) (fun o ho _ => x_build (t:=70) (c:=([.pointer (some ⟨Q28,0,none⟩),.slice none 0 0,.string (⟨#[]⟩ : ByteArray),.string (⟨#[]⟩ : ByteArray),.slice none 0 0,.slice none 0 0,.slice none 0 0,.int .i64 0,.slice none 0 0,.slice none 0 0,.slice none 0 0,.slice none 0 0,.slice none 0 0,.slice none 0 0,.nilIface] : List Value).toArray) (ps:=#[(0,(.tmp 12))]) Tryz.underlying70 hz_70 hp_70 (by kernel_rfl) ho) ?_
  refine r_box (c:=(cd7 [1,1,1,0])) (i:=3) (d:=(some 14)) (ty:=34) (x:=(.tmp 13)) (v:=.agg #[.pointer (some ⟨Q28,0,none⟩),.slice none 0 0,.string (⟨#[]⟩ : ByteArray),.string (⟨#[]⟩ : ByteArray),.slice none 0 0,.slice none 0 0,.slice none 0 0,.int .i64 0,.slice none 0 0,.slice none 0 0,.slice none 0 0,.slice none 0 0,.slice none 0 0,.slice none 0 0,.nilIface]) (t:=70) (cs:=[.pointer (some ⟨Q28,0,none⟩),.slice none 0 0,.string (⟨#[]⟩ : ByteArray),.string (⟨#[]⟩ : ByteArray),.slice none 0 0,.slice none 0 0,.slice none 0 0,.int .i64 0,.slice none 0 0,.slice none 0 0,.slice none 0 0,.slice none 0 0,.slice none 0 0,.slice none 0 0,.nilIface]) hS35 (by kernel_rfl) (by kernel_rfl) (by kernel_rfl) (by kernel_rfl) ?_
  intro b37 w38 hS39
  have hS41:=hS39.pick3
  refine rS 34 (.tmp 4) (.tmp 14) 0 (.pointer (some ⟨b37,0,none⟩)) [.pointer (some ⟨b37,0,none⟩)] [.pointer (some ⟨b37,0,none⟩)] hS41 ?_
  intro w42 hS43
  refine sR 4 [.inRegion (opsOf (cd7 [1,1,1,1,0])) [1,2],.code (cd7 [1,1,1,1,1])] ?_
  refine rL1 34 (.tmp 4) 0 (hS43.blk 0 rfl) ?_
  have hS45:=hS43.nilrow none 39 7
  obtain ⟨q57,hr55,hp56⟩:=bind_some' hp31
  have hS63:=hS45.pick5
  have hS64:=hS63.pick1
  have hS65:=hS64.pick4
  have hS66:=hS65.pick4
  refine rCB (litmus_Instruction_1.ok t23 t24 t25 t26 t27 ([] : List api_Token) (⟨(⟨#[]⟩ : ByteArray),(⟨#[]⟩ : ByteArray),([] : List api_Init),([] : List (List api_Instr)),([] : List api_Ref),0,([] : List api_Node)⟩ : api_Test) ([] : List litmus_place) ([] : List litmus_place) ([] : List (List litmus_place)) ([] : List litmus_place) ([] : List litmus_place) a1c0v b37 Q28 Q29 none 0 none 0 none 0 none 0 none 0 none 0 none 0 none 0 none 0 none 0 ba1c0 hS66 hs36 (SlZ.nil _ _ _ _ _) (SlZ.nil _ _ _ _ _) (SlZ.nil _ _ _ _ _) (SlZ.nil _ _ _ _ _) (SlZ.nil _ _ _ _ _) (SlZ.nil _ _ _ _ _) (SlZ.nil _ _ _ _ _) (SlZ.nil _ _ _ _ _) (SlZ.nil _ _ _ _ _) hr55) ?_
  intro e61 w60 hQ59
  rcases q57 with ⟨pe58,k62⟩ | ⟨t46,t47,t48,t49,t50,t51⟩
  all_goals try dsimp only at hp56
  ·obtain ⟨v67,Z68,hz69,rfl,hS70,he71⟩:=hQ59
   refine .inr ⟨_,rfl,?_⟩
   dsimp only at hS70 he71
   refine raised_ds Tryz.func7 ?_
   obtain ⟨t73,hr75,hp76⟩:=bind_some' hp56
   have hS78:=hS70.pick2
   have hS79:=hS78.pick2
   refine leaves_one (fun h => nomatch h) (by kernel_rfl) rfl (litmus_read_1.ok pe58 b1 (.pointer (some ⟨b37,0,none⟩)) b5 v67 hS79 he71 (hE.up hz69) hr75) ?_
   rintro _ w80 ⟨Q74,rfl,hS81,hs82⟩
   refine ⟨⟨_,rfl⟩,?_⟩
   have hS83:=hS81.drop
   have hS84:=hS83.drop
   refine leaves_nil (v:=.tuple #[.pointer none,Q74]) (resl_run (fn:=Tryz.f7) (by kernel_rfl) (.cell (t:=4) (ty:=34) (by kernel_rfl) (loads_at 0 (hS81.blk 0 rfl) (by kernel_rfl) (by kernel_rfl)) (.cell (t:=5) (ty:=25) (by kernel_rfl) (loads_at 0 (hS81.blk 1 rfl) (by kernel_rfl) (by kernel_rfl)) .nil))) ?_
   cases Option.some.inj hp76
   exact hR _ _ ⟨(.pointer none),Q74,Z68,hz69,rfl,hS84,hs82⟩
  obtain ⟨Q52,Q53,Q54,Z89,hz90,rfl,hS88,hs91⟩:=hQ59
  try dsimp only at hS88 hs91
  refine .inl ⟨_,rfl,?_⟩
  refine sR 3 [.inRegion (opsOf (cd7 [1,1,1,1,1,0])) [0,1,2],.code (cd7 [1,1,1,1,1,1])] ?_
  refine rL1 34 (.tmp 4) 0 (hS88.blk 4 rfl) ?_
  have hS92:=hS88.pick4
  refine rS 34 (.tmp 4) (.tmp 18) 0 (.pointer (some ⟨b37,0,none⟩)) [.pointer (some ⟨b37,0,none⟩)] [.pointer (some ⟨b37,0,none⟩)] hS92 ?_
  intro w93 hS94
  have hS95:=hS94.pick5
  refine rS 25 (.tmp 5) (.const (.nilIface)) 0 .nilIface [.nilIface] [.nilIface] hS95 ?_
  intro w96 hS97
  refine sR 1 [.code (cd7 [1,1,1,1,1,1])] ?_
  refine runsL_ret (fn:=Tryz.f7) Tryz.func7 ?_
  obtain ⟨_,hr98,hp99⟩:=bind_some' hp56
  have hS111:=hS97.pick2
  obtain ⟨Z112,hz113,hS114,hs115,hb116⟩:=hS111.lendrow len_api_Token (by omega)
  have hS117:=hS114.pick3
  have hS118:=hS117.pick3
  have hS119:=hS118.pick3
  refine leaves_one (fun h => nomatch h) (by kernel_rfl) rfl (litmus_read_1_1.ok t23 t47 t48 t49 t50 t46 (⟨(⟨#[]⟩ : ByteArray),(⟨#[]⟩ : ByteArray),([] : List api_Init),([] : List (List api_Instr)),([] : List api_Ref),0,([] : List api_Node)⟩ : api_Test) ([] : List litmus_place) ([] : List litmus_place) ([] : List (List litmus_place)) ([] : List litmus_place) ([] : List litmus_place) b1 b37 Q28 Q54 Q52 Q53 none 0 none 0 none 0 none 0 none 0 none 0 none 0 none 0 none 0 b5 hS119 (hs91.mono hz113) hs115 (SlZ.nil _ _ _ _ _) (SlZ.nil _ _ _ _ _) (SlZ.nil _ _ _ _ _) (SlZ.nil _ _ _ _ _) (SlZ.nil _ _ _ _ _) (SlZ.nil _ _ _ _ _) (SlZ.nil _ _ _ _ _) (SlZ.nil _ _ _ _ _) (SlZ.nil _ _ _ _ _) hr98) ?_
  rintro _ w120 ⟨rfl,hS121⟩
  refine ⟨⟨_,rfl⟩,?_⟩
  have hS122:=hb116 _ _ hS121
  have hS124:=hS122.drop
  have hS125:=hS124.drop
  have hS126:=hS125.drop
  have hS127:=hS126.drop
  have hS128:=hS127.drop
  refine leaves_nil (v:=.tuple #[.pointer (some ⟨b37,0,none⟩),.nilIface]) (resl_run (fn:=Tryz.f7) (by kernel_rfl) (.cell (t:=4) (ty:=34) (by kernel_rfl) (loads_at 0 (hS122.blk 1 rfl) (by kernel_rfl) (by kernel_rfl)) (.cell (t:=5) (ty:=25) (by kernel_rfl) (loads_at 0 (hS122.blk 4 rfl) (by kernel_rfl) (by kernel_rfl)) .nil))) ?_
  cases Option.some.inj hp99
  exact hR _ _ ⟨(.pointer (some ⟨b37,0,none⟩)),.nilIface,Z89,hz90,rfl,hS128,(RepE.of_nil)⟩

noncomputable def cd4 (p : List Nat) : Code := sub (bodyOf Tryz.f4) p
abbrev p4_6:=cd4 [1,1,1]
def litmus_Instruction.f (a0 : ByteArray) : Option (api_Instr × PErr) :=
  (litmus_read.f a0 (⟨0,(⟨#[]⟩ : ByteArray),(⟨#[]⟩ : ByteArray),(⟨#[]⟩ : ByteArray),0⟩ : api_Instr) >>= (fun (t5,t6) => (if (!(PErr.isNil t5)) = true then some (((⟨0,(⟨#[]⟩ : ByteArray),(⟨#[]⟩ : ByteArray),(⟨#[]⟩ : ByteArray),0⟩ : api_Instr),t5)) else some ((t6,.nil)))))
set_option maxHeartbeats 16000000 in
theorem litmus_Instruction.ok (a0 : ByteArray) {w0 : World} {Z : Zm} {fs : List XObj} {w : World} (hS0 : St w0 Z (fs) w) (hE : Env Z) {q0 : api_Instr} {q1 : PErr} (hp0 : litmus_Instruction.f a0 = some (q0,q1)) :
    Calls Tryz.prog 4 #[.string a0] w (fun e w' => ∃ (Qv0 : Value) (Z' : Zm),Zm.Le Z Z' ∧ e = .returned (.tuple #[.agg (enc_api_Instr q0).toArray,Qv0]) ∧ St w0 Z' (fs) w' ∧ RepE 57 58 Z' Qv0 q1):=by
  refine calls_abs ?_; intro R hR
  unfold litmus_Instruction.f at hp0
  refine calls_of_runs (fn:=Tryz.f4) (c:=cd4 []) Tryz.func4 (by kernel_rfl) (al:=[.string a0]) rfl (n:=14) rfl ?_
  refine sR 2 [.inRegion (opsOf (cd4 [0])) [0,1],.code (cd4 [1])] ?_
  refine rA 23 (.agg (enc_api_Instr (⟨0,(⟨#[]⟩ : ByteArray),(⟨#[]⟩ : ByteArray),(⟨#[]⟩ : ByteArray),0⟩ : api_Instr)).toArray) (enc_api_Instr (⟨0,(⟨#[]⟩ : ByteArray),(⟨#[]⟩ : ByteArray),(⟨#[]⟩ : ByteArray),0⟩ : api_Instr)) hS0 ?_
  intro b1 w2 hS3
  refine sR 6 [iR (cd4 [1,0]) 2 5,.code (cd4 [1,1])] ?_
  obtain ⟨⟨t5,t6⟩,hr9,hp10⟩:=bind_some' hp0
  try dsimp only at hp10
  refine rC (litmus_read.ok a0 (⟨0,(⟨#[]⟩ : ByteArray),(⟨#[]⟩ : ByteArray),(⟨#[]⟩ : ByteArray),0⟩ : api_Instr) b1 hS3 hE hr9) ?_
  rintro _ w12 ⟨Q7,Q8,Z14,hz15,rfl,hS13,hs16⟩
  refine ⟨_,rfl,?_⟩
  refine sR 9 [.inRegion (opsOf (cd4 [1,1,0,0])) [1],.code (cd4 [1,1,0,1]),.code p4_6] ?_
  refine rV (.binOp .neq 25 (.tmp 10) (.const (.nilIface)) 25) (.bool (!(PErr.isNil t5))) (fun o ho _ => x_errNil (neg:=true) hs16 (by kernel_rfl) (by kernel_rfl) (fun _ _ => (by kernel_rfl)) ho) ?_
  refine r_split (!(PErr.isNil t5)) (fun h17 => ?_) (fun h18 => ?_)
  ·have hp19:=ite_t hp10 h17
   refine sR 6 [.inRegion (opsOf (cd4 [1,1,0,1,0,0])) [2,3],.code (cd4 [1,1,0,1,0,1]),.code p4_6] ?_
   refine rSA 23 (.tmp 2) (.tmp 12) (enc_api_Instr (⟨0,(⟨#[]⟩ : ByteArray),(⟨#[]⟩ : ByteArray),(⟨#[]⟩ : ByteArray),0⟩ : api_Instr)) hS13 (one_api_Instr _) ?_
   intro w20 hS21
   refine sR 2 [.code (cd4 [1,1,0,1,0,1]),.code p4_6] ?_
   have hS22:=hS21.drop
   refine rRc (.tuple #[.agg (enc_api_Instr (⟨0,(⟨#[]⟩ : ByteArray),(⟨#[]⟩ : ByteArray),(⟨#[]⟩ : ByteArray),0⟩ : api_Instr)).toArray,Q8]) (.ca 2 23 (hS21.blk 0 rfl) (.tm 3 .nil)) Tryz.func4 ?_
   cases Option.some.inj hp19
   exact hR _ _ ⟨Q8,Z14,hz15,rfl,hS22,hs16⟩
  have hp24:=ite_f hp10 h18
  refine sR 5 [.inRegion (opsOf (cd4 [1,1,1,0])) [0,1,2],.code (cd4 [1,1,1,1])] ?_
  refine rLa 23 (.tmp 2) (hS13.blk 0 rfl) ?_
  refine rSA 23 (.tmp 2) (.tmp 14) (enc_api_Instr t6) hS13 (one_api_Instr _) ?_
  intro w25 hS26
  refine sR 2 [.code (cd4 [1,1,1,1])] ?_
  have hS28:=hS26.drop
  refine rRc (.tuple #[.agg (enc_api_Instr t6).toArray,.nilIface]) (.ca 2 23 (hS26.blk 0 rfl) (.tm 3 .nil)) Tryz.func4 ?_
  cases Option.some.inj hp24
  exact hR _ _ ⟨.nilIface,Z14,hz15,rfl,hS28,(RepE.of_nil)⟩

noncomputable def cd50 (p : List Nat) : Code := sub (bodyOf Tryz.f50) p
def weirref05_New.f (a0 : ByteArray) : Option weirref05_Lexer :=
  (if (decide ((a0.size : Int) > 1048576)) = true then some ((⟨a0,0,(⟨(-1),0,1⟩ : weirref05_Fault),0,1,1⟩ : weirref05_Lexer)) else some ((⟨a0,0,(⟨0,0,0⟩ : weirref05_Fault),0,1,1⟩ : weirref05_Lexer)))
set_option maxHeartbeats 16000000 in
theorem weirref05_New.ok (a0 : ByteArray) {w0 : World} {Z : Zm} {fs : List XObj} {w : World} (hS0 : St w0 Z (fs) w) {q0 : weirref05_Lexer} (hp0 : weirref05_New.f a0 = some q0) :
    Calls Tryz.prog 50 #[.string a0] w (fun e w' => ∃ (Qb0 : Nat),e = .returned (.pointer (some ⟨Qb0,0,none⟩)) ∧ St w0 Z (xblk Qb0 135 (enc_weirref05_Lexer q0)::fs) w'):=by
  refine calls_abs ?_; intro R hR
  unfold weirref05_New.f at hp0
  refine calls_of_runs (fn:=Tryz.f50) (c:=cd50 []) Tryz.func50 (by kernel_rfl) (al:=[.string a0]) rfl (n:=14) rfl ?_
  refine sR 8 [.inRegion (opsOf (cd50 [1,0])) [2,3],.code (cd50 [1,1])] ?_
  refine r_box (c:=(cd50 [1,0])) (i:=2) (d:=(some 6)) (ty:=103) (x:=(.tmp 5)) (v:=.agg (enc_weirref05_Lexer (⟨a0,0,(⟨0,0,0⟩ : weirref05_Fault),0,1,1⟩ : weirref05_Lexer)).toArray) (t:=135) (cs:=enc_weirref05_Lexer (⟨a0,0,(⟨0,0,0⟩ : weirref05_Fault),0,1,1⟩ : weirref05_Lexer)) hS0 (by kernel_rfl) (by kernel_rfl) (by kernel_rfl) (by kernel_rfl) ?_
  intro b1 w2 hS3
  refine sS 8 [.inRegion (opsOf (cd50 [1,1,0,0])) [],.code (cd50 [1,1,0,1]),.code (cd50 [1,1,1])] 9 (decide ((a0.size : Int) > 1048576)) (fun h5 => ?_) fun h6 => ?_
  ·have hp7:=ite_t hp0 h5
   refine sR 7 [.inRegion (opsOf (cd50 [1,1,0,1,0])) [4],.code (cd50 [1,1,1])] ?_
   refine rSG 29 (.tmp 13) (.tmp 11) 2 (.agg (enc_weirref05_Fault (⟨(-1),0,1⟩ : weirref05_Fault)).toArray) (enc_weirref05_Fault (⟨(-1),0,1⟩ : weirref05_Fault)) (enc_weirref05_Lexer (⟨a0,0,(⟨(-1),0,1⟩ : weirref05_Fault),0,1,1⟩ : weirref05_Lexer)) hS3 (one_weirref05_Fault _) ?_
   intro w8 hS9
   refine sR 6 [.code (cd50 [1,1,1,1])] ?_
   refine rR (.pointer (some ⟨b1,0,none⟩)) Tryz.func50 ?_
   cases Option.some.inj hp7
   exact hR _ _ ⟨b1,rfl,hS9⟩
  have hp11:=ite_f hp0 h6
  refine sR 8 [.code (cd50 [1,1,1,1])] ?_
  refine rR (.pointer (some ⟨b1,0,none⟩)) Tryz.func50 ?_
  cases Option.some.inj hp11
  exact hR _ _ ⟨b1,rfl,hS3⟩

noncomputable def cd68 (p : List Nat) : Code := sub (bodyOf Tryz.f68) p
abbrev p68_6:=cd68 [1,0,0,0,1,0,0,0]
abbrev p68_8:=cd68 [1,0,0,0,1,0,0,1,1,0]
abbrev p68_10:=cd68 [1,0,0,0,1,0,0,1,1,1,0,1,1,1,0,0]
abbrev p68_16:=cd68 [1,0,0,0,1,0,0,1,1,1,0,1,1,1,0,0,1,0,0,1,0,1]
abbrev p68_17:=cd68 [1,0,0,0,1,0,0,1,1,1,0,1,1,1,0,0,1,0,0,1,1,0]
abbrev p68_19:=cd68 [1,0,0,0,1,0,0,1,1,1,0,1,1,1,0,0,1,0,0,1,1,1,1,0]
abbrev td163:List Item:=[.code (cd68 [1,1])]
abbrev td164:List Item:=.inBlock 0::td163
abbrev td165:List Item:=.inLoop (cd68 [1,0,0,0])::td164
abbrev td166:List Item:=.code (cd68 [1,0,0,0])::td165
abbrev td167:List Item:=.inBlock 1::td165
abbrev td168:List Item:=.inBlock 2::td167
abbrev td169:List Item:=.code (cd68 [1,0,0,0,1,0,0,1])::td168
abbrev td170:List Item:=.code (cd68 [1,0,0,0,1,0,0,1,1,1])::td168
abbrev td171:List Item:=.inBlock 3::td168
abbrev td172:List Item:=.inLoop p68_10::td171
abbrev td173:List Item:=.code p68_10::td172
abbrev td174:List Item:=.inBlock 4::td172
abbrev td175:List Item:=.inBlock 5::td174
abbrev td176:List Item:=.code (cd68 [1,0,0,0,1,0,0,1,1,1,0,1,1,1,0,0,1,0,0,1,1,1])::td175
abbrev td177:List Item:=.code (cd68 [1,0,0,0,1,0,0,1,1,1,0,1,1,1,0,0,1,0,0,1,1,1,1,1])::td175
abbrev td178:List Item:=.code (cd68 [1,0,0,0,1,0,0,1,1,1,1,1])::td168
def weirref05_blanks.l1 (a0 : ByteArray) (t12 : Int) (t73 : Int) (t74 : Int) : Option (Sum Int (Sum Int (Int × Int))) :=
  (if (decide (t74 > 0)) = true then (if (decide ((IntKind.i64.wrap (t73 + 1)) ≥ (a0.size : Int))) = true then some (.inr (.inr ((t73,t12)))) else (if 0 ≤ t73 ∧ t73 < (a0.size : Int) then (if ((byt a0 t73) == 40) = true then (if 0 ≤ (IntKind.i64.wrap (t73 + 1)) ∧ (IntKind.i64.wrap (t73 + 1)) < (a0.size : Int) then (if ((byt a0 (IntKind.i64.wrap (t73 + 1))) == 42) = true then (weirref05_blanks.l1 a0 t12 (IntKind.i64.wrap (t73 + 2)) (IntKind.i64.wrap (t74 + 1))) else (if 0 ≤ t73 ∧ t73 < (a0.size : Int) then (if ((byt a0 t73) == 42) = true then (if 0 ≤ (IntKind.i64.wrap (t73 + 1)) ∧ (IntKind.i64.wrap (t73 + 1)) < (a0.size : Int) then (if ((byt a0 (IntKind.i64.wrap (t73 + 1))) == 41) = true then (weirref05_blanks.l1 a0 t12 (IntKind.i64.wrap (t73 + 2)) (IntKind.i64.wrap (t74 - 1))) else (weirref05_blanks.l1 a0 t12 (IntKind.i64.wrap (t73 + 1)) (id t74))) else none) else (weirref05_blanks.l1 a0 t12 (IntKind.i64.wrap (t73 + 1)) (id t74))) else none)) else none) else (if 0 ≤ t73 ∧ t73 < (a0.size : Int) then (if ((byt a0 t73) == 42) = true then (if 0 ≤ (IntKind.i64.wrap (t73 + 1)) ∧ (IntKind.i64.wrap (t73 + 1)) < (a0.size : Int) then (if ((byt a0 (IntKind.i64.wrap (t73 + 1))) == 41) = true then (weirref05_blanks.l1 a0 t12 (IntKind.i64.wrap (t73 + 2)) (IntKind.i64.wrap (t74 - 1))) else (weirref05_blanks.l1 a0 t12 (IntKind.i64.wrap (t73 + 1)) (id t74))) else none) else (weirref05_blanks.l1 a0 t12 (IntKind.i64.wrap (t73 + 1)) (id t74))) else none)) else none)) else some (.inl t73))
 partial_fixpoint
def weirref05_blanks.l0 (a0 : ByteArray) (t12 : Int) : Option (Sum Int (Int × Int)) :=
  (if (decide (t12 < (a0.size : Int))) = true then (if 0 ≤ t12 ∧ t12 < (a0.size : Int) then (if ((byt a0 t12) == 32) = true then (weirref05_blanks.l0 a0 (IntKind.i64.wrap (t12 + 1))) else (if 0 ≤ t12 ∧ t12 < (a0.size : Int) then (if ((byt a0 t12) == 9) = true then (weirref05_blanks.l0 a0 (IntKind.i64.wrap (t12 + 1))) else (if 0 ≤ t12 ∧ t12 < (a0.size : Int) then (if ((byt a0 t12) == 10) = true then (weirref05_blanks.l0 a0 (IntKind.i64.wrap (t12 + 1))) else (if 0 ≤ t12 ∧ t12 < (a0.size : Int) then (if ((byt a0 t12) == 13) = true then (weirref05_blanks.l0 a0 (IntKind.i64.wrap (t12 + 1))) else (if 0 ≤ t12 ∧ t12 < (a0.size : Int) then (if ((byt a0 t12) == 40) = true then (if (decide ((IntKind.i64.wrap (t12 + 1)) < (a0.size : Int))) = true then (if 0 ≤ (IntKind.i64.wrap (t12 + 1)) ∧ (IntKind.i64.wrap (t12 + 1)) < (a0.size : Int) then (if ((byt a0 (IntKind.i64.wrap (t12 + 1))) == 42) = true then (weirref05_blanks.l1 a0 t12 (IntKind.i64.wrap (t12 + 2)) 1 >>= (fun | .inl t66 => (weirref05_blanks.l0 a0 t66) | .inr e => some e)) else some (.inr ((t12,(-1))))) else none) else some (.inr ((t12,(-1))))) else some (.inr ((t12,(-1))))) else none)) else none)) else none)) else none)) else none) else some (.inl t12))
 partial_fixpoint
def weirref05_blanks.f (a0 : ByteArray) (a1 : Int) : Option (Int × Int) :=
  (weirref05_blanks.l0 a0 a1 >>= (fun | .inl t4 => some ((t4,(-1))) | .inr e => some e))
set_option maxHeartbeats 16000000 in
theorem weirref05_blanks.ok (a0 : ByteArray) (a1 : Int) {w0 : World} {Z : Zm} {fs : List XObj} {w : World} (hS0 : St w0 Z (fs) w) {q0 : Int} {q1 : Int} (hp0 : weirref05_blanks.f a0 a1 = some (q0,q1)) :
    Calls Tryz.prog 68 #[.string a0,.int .i64 a1] w (fun e w' => e = .returned (.tuple #[.int .i64 q0,.int .i64 q1]) ∧ St w0 Z (fs) w'):=by
  refine calls_abs ?_; intro R hR
  unfold weirref05_blanks.f at hp0
  refine calls_of_runs (fn:=Tryz.f68) (c:=cd68 []) Tryz.func68 (by kernel_rfl) (al:=[.string a0,.int .i64 a1]) rfl (n:=103) rfl ?_
  refine sR 8 td166 ?_
  obtain ⟨v1,hv2,hp3⟩:=bind_some' hp0
  have hq7 : ∀ x,Sum.inr x = v1 → x = (q0,q1):=by intro x hx; subst hx; simpa using hp3
  have J8 : ∀ (t4 : Int) (he10 : Sum.inl t4 = v1) (l9 : List Value) (w5 : World) (hS6 : St w0 Z (fs) w5),Runs Tryz.prog (fx 68) td163 (fill (mk 105 [(1,.int .i64 t4)]) l9) w5 R:=by
   intro t4 he10 l9 w5 hS6
   subst he10
   try dsimp only at hp3
   refine sR 6 [.code (cd68 [1,1,1])] ?_
   refine rR (.tuple #[.int .i64 t4,.int .i64 (-1)]) Tryz.func68 ?_
   cases Option.some.inj hp3
   exact hR _ _ ⟨rfl,hS6⟩
  have L21 : ∀ (t12 : Int) (e16 : Sum Int (Int × Int)),weirref05_blanks.l0 a0 t12 = some e16 → e16 = v1 → ∀ (l15 : List Value) (w13 : World) (hS14 : St w0 Z (fs) w13),Runs Tryz.prog (fx 68) td166 (fill (mk 105 [(0,.string a0),(1,.int .i64 t12)]) l15) w13 R:=by
   refine weirref05_blanks.l0.partial_correctness a0 (fun t12 e16 => e16 = v1 → ∀ (l15 : List Value) (w13 : World) (hS14 : St w0 Z (fs) w13),Runs Tryz.prog (fx 68) td166 (fill (mk 105 [(0,.string a0),(1,.int .i64 t12)]) l15) w13 R) ?_
   intro rec20 ih19 t12 e16 hb18 he17 l15 w13 hS14
   have hq22 : ∀ x,Sum.inr x = e16 → x = (q0,q1):=fun x hx => hq7 x (hx.trans he17)
   refine sS 7 (.inRegion (opsOf (cd68 [1,0,0,0,0,0])) []::.code (cd68 [1,0,0,0,0,1])::.code (cd68 [1,0,0,0,1])::td165) 11 (decide (t12 < (a0.size : Int))) (fun h23 => ?_) fun h24 => ?_
   ·have hp25:=ite_t hb18 h23
    refine sR 9 (iR p68_6 2 21::td169) ?_
    obtain ⟨g26,hp27⟩:=ite_some hp25
    refine rV (.index 9 (.tmp 14) (.tmp 15)) (.int .u8 (byt a0 t12)) (fun o ho _ => x_indexStr (kk:=.i64) (by kernel_rfl) (by kernel_rfl) (by kernel_rfl) g26.1 g26.2 ho) ?_
    refine sS 1 (iR p68_6 4 19::td169) 17 ((byt a0 t12) == 32) (fun h28 => ?_) fun h29 => ?_
    ·have hp30:=ite_t hp27 h28
     refine sR 28 td165 ?_
     refine sR 1 td166 ?_
     refine rF (mk 105 [(0,.string a0),(1,.int .i64 (IntKind.i64.wrap (t12 + 1)))]) ?_
     exact ih19 (IntKind.i64.wrap (t12 + 1)) _ hp30 he17 _ _ hS14
    have hp31:=ite_f hp27 h29
    refine sR 3 (iR p68_6 7 16::td169) ?_
    obtain ⟨g32,hp33⟩:=ite_some hp31
    refine rV (.index 9 (.tmp 19) (.tmp 20)) (.int .u8 (byt a0 t12)) (fun o ho _ => x_indexStr (kk:=.i64) (by kernel_rfl) (by kernel_rfl) (by kernel_rfl) g32.1 g32.2 ho) ?_
    refine sS 1 (iR p68_6 9 14::td169) 22 ((byt a0 t12) == 9) (fun h34 => ?_) fun h35 => ?_
    ·have hp36:=ite_t hp33 h34
     refine sR 23 td165 ?_
     refine sR 1 td166 ?_
     refine rF (mk 105 [(0,.string a0),(1,.int .i64 (IntKind.i64.wrap (t12 + 1)))]) ?_
     exact ih19 (IntKind.i64.wrap (t12 + 1)) _ hp36 he17 _ _ hS14
    have hp37:=ite_f hp33 h35
    refine sR 4 (iR p68_6 13 10::td169) ?_
    obtain ⟨g38,hp39⟩:=ite_some hp37
    refine rV (.index 9 (.tmp 25) (.tmp 26)) (.int .u8 (byt a0 t12)) (fun o ho _ => x_indexStr (kk:=.i64) (by kernel_rfl) (by kernel_rfl) (by kernel_rfl) g38.1 g38.2 ho) ?_
    refine sS 1 (iR p68_6 15 8::td169) 28 ((byt a0 t12) == 10) (fun h40 => ?_) fun h41 => ?_
    ·have hp42:=ite_t hp39 h40
     refine sR 17 td165 ?_
     refine sR 1 td166 ?_
     refine rF (mk 105 [(0,.string a0),(1,.int .i64 (IntKind.i64.wrap (t12 + 1)))]) ?_
     exact ih19 (IntKind.i64.wrap (t12 + 1)) _ hp42 he17 _ _ hS14
    have hp43:=ite_f hp39 h41
    refine sR 4 (iR p68_6 19 4::td169) ?_
    obtain ⟨g44,hp45⟩:=ite_some hp43
    refine rV (.index 9 (.tmp 31) (.tmp 32)) (.int .u8 (byt a0 t12)) (fun o ho _ => x_indexStr (kk:=.i64) (by kernel_rfl) (by kernel_rfl) (by kernel_rfl) g44.1 g44.2 ho) ?_
    refine sS 1 (.inRegion (opsOf p68_6) [21,22]::td169) 34 ((byt a0 t12) == 13) (fun h46 => ?_) fun h47 => ?_
    ·have hp48:=ite_t hp45 h46
     refine sR 11 td165 ?_
     refine sR 1 td166 ?_
     refine rF (mk 105 [(0,.string a0),(1,.int .i64 (IntKind.i64.wrap (t12 + 1)))]) ?_
     exact ih19 (IntKind.i64.wrap (t12 + 1)) _ hp48 he17 _ _ hS14
    have hp49:=ite_f hp45 h47
    refine sR 8 (iR p68_8 2 17::td170) ?_
    obtain ⟨g50,hp51⟩:=ite_some hp49
    refine rV (.index 9 (.tmp 39) (.tmp 40)) (.int .u8 (byt a0 t12)) (fun o ho _ => x_indexStr (kk:=.i64) (by kernel_rfl) (by kernel_rfl) (by kernel_rfl) g50.1 g50.2 ho) ?_
    refine sS 1 (iR p68_8 4 15::td170) 42 ((byt a0 t12) == 40) (fun h52 => ?_) fun h53 => ?_
    ·have hp54:=ite_t hp51 h52
     refine sS 6 (iR p68_8 10 9::td170) 48 (decide ((IntKind.i64.wrap (t12 + 1)) < (a0.size : Int))) (fun h55 => ?_) fun h56 => ?_
     ·have hp57:=ite_t hp54 h55
      refine sR 5 (iR p68_8 15 4::td170) ?_
      obtain ⟨g58,hp59⟩:=ite_some hp57
      refine rV (.index 9 (.tmp 51) (.tmp 53)) (.int .u8 (byt a0 (IntKind.i64.wrap (t12 + 1)))) (fun o ho _ => x_indexStr (kk:=.i64) (by kernel_rfl) (by kernel_rfl) (by kernel_rfl) g58.1 g58.2 ho) ?_
      refine sS 1 (.inRegion (opsOf p68_8) [17,18]::td170) 55 ((byt a0 (IntKind.i64.wrap (t12 + 1))) == 42) (fun h60 => ?_) fun h61 => ?_
      ·have hp62:=ite_t hp59 h60
       refine sR 21 td173 ?_
       obtain ⟨v63,hv64,hp65⟩:=bind_some' hp62
       have hq69 : ∀ x,Sum.inr x = v63 → x = e16:=by intro x hx; subst hx; simpa using hp65
       have J70 : ∀ (t66 : Int) (he72 : Sum.inl t66 = v63) (l71 : List Value) (w67 : World) (hS68 : St w0 Z (fs) w67),Runs Tryz.prog (fx 68) td168 (fill (mk 105 [(0,.string a0),(1,.int .i64 t66)]) l71) w67 R:=by
        intro t66 he72 l71 w67 hS68
        subst he72
        try dsimp only at hp65
        refine sR 2 td165 ?_
        refine sR 1 td166 ?_
        refine rF (mk 105 [(0,.string a0),(1,.int .i64 t66)]) ?_
        exact ih19 t66 _ hp65 he17 _ _ hS68
       have L83 : ∀ (t73 : Int) (t74 : Int) (e78 : Sum Int (Sum Int (Int × Int))),weirref05_blanks.l1 a0 t12 t73 t74 = some e78 → e78 = v63 → ∀ (l77 : List Value) (w75 : World) (hS76 : St w0 Z (fs) w75),Runs Tryz.prog (fx 68) td173 (fill (mk 105 [(0,.string a0),(1,.int .i64 t73),(6,.int .i64 t12),(7,.int .i64 t74)]) l77) w75 R:=by
        refine weirref05_blanks.l1.partial_correctness a0 t12 (fun t73 t74 e78 => e78 = v63 → ∀ (l77 : List Value) (w75 : World) (hS76 : St w0 Z (fs) w75),Runs Tryz.prog (fx 68) td173 (fill (mk 105 [(0,.string a0),(1,.int .i64 t73),(6,.int .i64 t12),(7,.int .i64 t74)]) l77) w75 R) ?_
        intro rec82 ih81 t73 t74 e78 hb80 he79 l77 w75 hS76
        have hq84 : ∀ x,Sum.inr x = e78 → x = e16:=fun x hx => hq69 x (hx.trans he79)
        refine sS 5 (.inRegion (opsOf (cd68 [1,0,0,0,1,0,0,1,1,1,0,1,1,1,0,0,0,0])) []::.code (cd68 [1,0,0,0,1,0,0,1,1,1,0,1,1,1,0,0,0,1])::.code (cd68 [1,0,0,0,1,0,0,1,1,1,0,1,1,1,0,0,1])::td172) 61 (decide (t74 > 0)) (fun h85 => ?_) fun h86 => ?_
        ·have hp87:=ite_t hb80 h85
         refine sS 12 (.inRegion (opsOf (cd68 [1,0,0,0,1,0,0,1,1,1,0,1,1,1,0,0,1,0,0,0])) [5]::.code (cd68 [1,0,0,0,1,0,0,1,1,1,0,1,1,1,0,0,1,0,0,1])::td175) 69 (decide ((IntKind.i64.wrap (t73 + 1)) ≥ (a0.size : Int))) (fun h88 => ?_) fun h89 => ?_
         ·have hp90:=ite_t hp87 h88
          refine sR 10 (.code p68_16::td175) ?_
          refine r_isret (c:=p68_16) (by kernel_rfl) ?_
          refine rR (.tuple #[.int .i64 t73,.int .i64 t12]) Tryz.func68 ?_
          cases hq22 _ (hq84 _ (Option.some.inj hp90))
          exact hR _ _ ⟨rfl,hS76⟩
         have hp92:=ite_f hp87 h89
         refine sR 7 (iR p68_17 2 10::td176) ?_
         obtain ⟨g93,hp94⟩:=ite_some hp92
         refine rV (.index 9 (.tmp 73) (.tmp 74)) (.int .u8 (byt a0 t73)) (fun o ho _ => x_indexStr (kk:=.i64) (by kernel_rfl) (by kernel_rfl) (by kernel_rfl) g93.1 g93.2 ho) ?_
         refine sS 1 (iR p68_17 4 8::td176) 76 ((byt a0 t73) == 40) (fun h95 => ?_) fun h96 => ?_
         ·have hp97:=ite_t hp94 h95
          refine sR 4 (iR p68_17 8 4::td176) ?_
          obtain ⟨g98,hp99⟩:=ite_some hp97
          refine rV (.index 9 (.tmp 78) (.tmp 80)) (.int .u8 (byt a0 (IntKind.i64.wrap (t73 + 1)))) (fun o ho _ => x_indexStr (kk:=.i64) (by kernel_rfl) (by kernel_rfl) (by kernel_rfl) g98.1 g98.2 ho) ?_
          refine sS 1 (.inRegion (opsOf p68_17) [10,11]::td176) 82 ((byt a0 (IntKind.i64.wrap (t73 + 1))) == 42) (fun h100 => ?_) fun h101 => ?_
          ·have hp102:=ite_t hp99 h100
           refine sR 17 td172 ?_
           refine sR 1 td173 ?_
           refine rF (mk 105 [(0,.string a0),(1,.int .i64 (IntKind.i64.wrap (t73 + 2))),(6,.int .i64 t12),(7,.int .i64 (IntKind.i64.wrap (t74 + 1)))]) ?_
           exact ih81 (IntKind.i64.wrap (t73 + 2)) (IntKind.i64.wrap (t74 + 1)) _ hp102 he79 _ _ hS76
          have hp103:=ite_f hp99 h101
          refine sR 8 (iR p68_19 2 10::td177) ?_
          obtain ⟨g104,hp105⟩:=ite_some hp103
          refine rV (.index 9 (.tmp 89) (.tmp 90)) (.int .u8 (byt a0 t73)) (fun o ho _ => x_indexStr (kk:=.i64) (by kernel_rfl) (by kernel_rfl) (by kernel_rfl) g104.1 g104.2 ho) ?_
          refine sS 1 (iR p68_19 4 8::td177) 92 ((byt a0 t73) == 42) (fun h106 => ?_) fun h107 => ?_
          ·have hp108:=ite_t hp105 h106
           refine sR 4 (iR p68_19 8 4::td177) ?_
           obtain ⟨g109,hp110⟩:=ite_some hp108
           refine rV (.index 9 (.tmp 94) (.tmp 96)) (.int .u8 (byt a0 (IntKind.i64.wrap (t73 + 1)))) (fun o ho _ => x_indexStr (kk:=.i64) (by kernel_rfl) (by kernel_rfl) (by kernel_rfl) g109.1 g109.2 ho) ?_
           refine sS 1 (.inRegion (opsOf p68_19) [10,11]::td177) 98 ((byt a0 (IntKind.i64.wrap (t73 + 1))) == 41) (fun h111 => ?_) fun h112 => ?_
           ·have hp113:=ite_t hp110 h111
            refine sR 17 td172 ?_
            refine sR 1 td173 ?_
            refine rF (mk 105 [(0,.string a0),(1,.int .i64 (IntKind.i64.wrap (t73 + 2))),(6,.int .i64 t12),(7,.int .i64 (IntKind.i64.wrap (t74 - 1)))]) ?_
            exact ih81 (IntKind.i64.wrap (t73 + 2)) (IntKind.i64.wrap (t74 - 1)) _ hp113 he79 _ _ hS76
           have hp114:=ite_f hp110 h112
           refine sR 11 td172 ?_
           refine sR 1 td173 ?_
           refine rF (mk 105 [(0,.string a0),(1,.int .i64 (IntKind.i64.wrap (t73 + 1))),(6,.int .i64 t12),(7,.int .i64 t74)]) ?_
           exact ih81 (IntKind.i64.wrap (t73 + 1)) (id t74) _ hp114 he79 _ _ hS76
          have hp115:=ite_f hp105 h107
          refine sR 17 td172 ?_
          refine sR 1 td173 ?_
          refine rF (mk 105 [(0,.string a0),(1,.int .i64 (IntKind.i64.wrap (t73 + 1))),(6,.int .i64 t12),(7,.int .i64 t74)]) ?_
          exact ih81 (IntKind.i64.wrap (t73 + 1)) (id t74) _ hp115 he79 _ _ hS76
         have hp116:=ite_f hp94 h96
         refine sR 14 (iR p68_19 2 10::td177) ?_
         obtain ⟨g117,hp118⟩:=ite_some hp116
         refine rV (.index 9 (.tmp 89) (.tmp 90)) (.int .u8 (byt a0 t73)) (fun o ho _ => x_indexStr (kk:=.i64) (by kernel_rfl) (by kernel_rfl) (by kernel_rfl) g117.1 g117.2 ho) ?_
         refine sS 1 (iR p68_19 4 8::td177) 92 ((byt a0 t73) == 42) (fun h119 => ?_) fun h120 => ?_
         ·have hp121:=ite_t hp118 h119
          refine sR 4 (iR p68_19 8 4::td177) ?_
          obtain ⟨g122,hp123⟩:=ite_some hp121
          refine rV (.index 9 (.tmp 94) (.tmp 96)) (.int .u8 (byt a0 (IntKind.i64.wrap (t73 + 1)))) (fun o ho _ => x_indexStr (kk:=.i64) (by kernel_rfl) (by kernel_rfl) (by kernel_rfl) g122.1 g122.2 ho) ?_
          refine sS 1 (.inRegion (opsOf p68_19) [10,11]::td177) 98 ((byt a0 (IntKind.i64.wrap (t73 + 1))) == 41) (fun h124 => ?_) fun h125 => ?_
          ·have hp126:=ite_t hp123 h124
           refine sR 17 td172 ?_
           refine sR 1 td173 ?_
           refine rF (mk 105 [(0,.string a0),(1,.int .i64 (IntKind.i64.wrap (t73 + 2))),(6,.int .i64 t12),(7,.int .i64 (IntKind.i64.wrap (t74 - 1)))]) ?_
           exact ih81 (IntKind.i64.wrap (t73 + 2)) (IntKind.i64.wrap (t74 - 1)) _ hp126 he79 _ _ hS76
          have hp127:=ite_f hp123 h125
          refine sR 11 td172 ?_
          refine sR 1 td173 ?_
          refine rF (mk 105 [(0,.string a0),(1,.int .i64 (IntKind.i64.wrap (t73 + 1))),(6,.int .i64 t12),(7,.int .i64 t74)]) ?_
          exact ih81 (IntKind.i64.wrap (t73 + 1)) (id t74) _ hp127 he79 _ _ hS76
         have hp128:=ite_f hp118 h120
         refine sR 17 td172 ?_
         refine sR 1 td173 ?_
         refine rF (mk 105 [(0,.string a0),(1,.int .i64 (IntKind.i64.wrap (t73 + 1))),(6,.int .i64 t12),(7,.int .i64 t74)]) ?_
         exact ih81 (IntKind.i64.wrap (t73 + 1)) (id t74) _ hp128 he79 _ _ hS76
        have hp129:=ite_f hb80 h86
        refine sR 3 td168 ?_
        refine rF (mk 105 [(0,.string a0),(1,.int .i64 t73)]) ?_
        exact J70 t73 ((Option.some.inj hp129).trans he79) _ _ hS76
       refine rF (mk 105 [(0,.string a0),(1,.int .i64 (IntKind.i64.wrap (t12 + 2))),(6,.int .i64 t12),(7,.int .i64 1)]) ?_
       exact L83 (IntKind.i64.wrap (t12 + 2)) 1 _ hv64 rfl _ _ hS14
      have hp130:=ite_f hp59 h61
      refine sR 10 td178 ?_
      refine rR (.tuple #[.int .i64 t12,.int .i64 (-1)]) Tryz.func68 ?_
      cases hq22 _ (Option.some.inj hp130)
      exact hR _ _ ⟨rfl,hS14⟩
     have hp132:=ite_f hp54 h56
     refine sR 17 td178 ?_
     refine rR (.tuple #[.int .i64 t12,.int .i64 (-1)]) Tryz.func68 ?_
     cases hq22 _ (Option.some.inj hp132)
     exact hR _ _ ⟨rfl,hS14⟩
    have hp134:=ite_f hp51 h53
    refine sR 23 td178 ?_
    refine rR (.tuple #[.int .i64 t12,.int .i64 (-1)]) Tryz.func68 ?_
    cases hq22 _ (Option.some.inj hp134)
    exact hR _ _ ⟨rfl,hS14⟩
   have hp136:=ite_f hb18 h24
   refine sR 3 td163 ?_
   refine rF (mk 105 [(1,.int .i64 t12)]) ?_
   exact J8 t12 ((Option.some.inj hp136).trans he17) _ _ hS14
  refine rF (mk 105 [(0,.string a0),(1,.int .i64 a1)]) ?_
  exact L21 a1 _ hv2 rfl _ _ hS0

noncomputable def cd82 (p : List Nat) : Code := sub (bodyOf Tryz.f82) p
abbrev p82_0:=cd82 [1,0]
abbrev td179:List Item:=[.code (cd82 [1,1])]
abbrev td180:List Item:=.inRegion (opsOf p82_0) [17,18]::td179
def weirref05_letter.f (a0 : Int) : Option Bool :=
  (if (decide (a0 ≥ 97)) = true then (if (decide (a0 ≤ 122)) = true then some (true) else (if (decide (a0 ≥ 65)) = true then (if (decide (a0 ≤ 90)) = true then some (true) else (if (a0 == 95) = true then some (true) else some (false))) else (if (a0 == 95) = true then some (true) else some (false)))) else (if (decide (a0 ≥ 65)) = true then (if (decide (a0 ≤ 90)) = true then some (true) else (if (a0 == 95) = true then some (true) else some (false))) else (if (a0 == 95) = true then some (true) else some (false))))
set_option maxHeartbeats 16000000 in
theorem weirref05_letter.ok (a0 : Int) {w0 : World} {Z : Zm} {fs : List XObj} {w : World} (hS0 : St w0 Z (fs) w) {q0 : Bool} (hp0 : weirref05_letter.f a0 = some q0) :
    Calls Tryz.prog 82 #[.int .u8 a0] w (fun e w' => e = .returned (.bool q0) ∧ St w0 Z (fs) w'):=by
  refine calls_abs ?_; intro R hR
  unfold weirref05_letter.f at hp0
  refine calls_of_runs (fn:=Tryz.f82) (c:=cd82 []) Tryz.func82 (by kernel_rfl) (al:=[.int .u8 a0]) rfl (n:=20) rfl ?_
  refine sS 8 (iR p82_0 2 17::td179) 4 (decide (a0 ≥ 97)) (fun h1 => ?_) fun h2 => ?_
  ·have hp3:=ite_t hp0 h1
   refine sS 3 (iR p82_0 5 14::td179) 7 (decide (a0 ≤ 122)) (fun h4 => ?_) fun h5 => ?_
   ·have hp6:=ite_t hp3 h4
    refine sR 15 td179 ?_
    refine rR (.bool true) Tryz.func82 ?_
    cases Option.some.inj hp6
    exact hR _ _ ⟨rfl,hS0⟩
   have hp8:=ite_f hp3 h5
   refine sS 4 (iR p82_0 9 10::td179) 11 (decide (a0 ≥ 65)) (fun h9 => ?_) fun h10 => ?_
   ·have hp11:=ite_t hp8 h9
    refine sS 3 (iR p82_0 12 7::td179) 14 (decide (a0 ≤ 90)) (fun h12 => ?_) fun h13 => ?_
    ·have hp14:=ite_t hp11 h12
     refine sR 8 td179 ?_
     refine rR (.bool true) Tryz.func82 ?_
     cases Option.some.inj hp14
     exact hR _ _ ⟨rfl,hS0⟩
    have hp16:=ite_f hp11 h13
    refine sS 5 td180 19 (a0 == 95) (fun h17 => ?_) fun h18 => ?_
    ·have hp19:=ite_t hp16 h17
     refine sR 3 td179 ?_
     refine rR (.bool true) Tryz.func82 ?_
     cases Option.some.inj hp19
     exact hR _ _ ⟨rfl,hS0⟩
    have hp21:=ite_f hp16 h18
    refine sR 3 td179 ?_
    refine rR (.bool false) Tryz.func82 ?_
    cases Option.some.inj hp21
    exact hR _ _ ⟨rfl,hS0⟩
   have hp23:=ite_f hp8 h10
   refine sS 8 td180 19 (a0 == 95) (fun h24 => ?_) fun h25 => ?_
   ·have hp26:=ite_t hp23 h24
    refine sR 3 td179 ?_
    refine rR (.bool true) Tryz.func82 ?_
    cases Option.some.inj hp26
    exact hR _ _ ⟨rfl,hS0⟩
   have hp28:=ite_f hp23 h25
   refine sR 3 td179 ?_
   refine rR (.bool false) Tryz.func82 ?_
   cases Option.some.inj hp28
   exact hR _ _ ⟨rfl,hS0⟩
  have hp30:=ite_f hp0 h2
  refine sS 7 (iR p82_0 9 10::td179) 11 (decide (a0 ≥ 65)) (fun h31 => ?_) fun h32 => ?_
  ·have hp33:=ite_t hp30 h31
   refine sS 3 (iR p82_0 12 7::td179) 14 (decide (a0 ≤ 90)) (fun h34 => ?_) fun h35 => ?_
   ·have hp36:=ite_t hp33 h34
    refine sR 8 td179 ?_
    refine rR (.bool true) Tryz.func82 ?_
    cases Option.some.inj hp36
    exact hR _ _ ⟨rfl,hS0⟩
   have hp38:=ite_f hp33 h35
   refine sS 5 td180 19 (a0 == 95) (fun h39 => ?_) fun h40 => ?_
   ·have hp41:=ite_t hp38 h39
    refine sR 3 td179 ?_
    refine rR (.bool true) Tryz.func82 ?_
    cases Option.some.inj hp41
    exact hR _ _ ⟨rfl,hS0⟩
   have hp43:=ite_f hp38 h40
   refine sR 3 td179 ?_
   refine rR (.bool false) Tryz.func82 ?_
   cases Option.some.inj hp43
   exact hR _ _ ⟨rfl,hS0⟩
  have hp45:=ite_f hp30 h32
  refine sS 8 td180 19 (a0 == 95) (fun h46 => ?_) fun h47 => ?_
  ·have hp48:=ite_t hp45 h46
   refine sR 3 td179 ?_
   refine rR (.bool true) Tryz.func82 ?_
   cases Option.some.inj hp48
   exact hR _ _ ⟨rfl,hS0⟩
  have hp50:=ite_f hp45 h47
  refine sR 3 td179 ?_
  refine rR (.bool false) Tryz.func82 ?_
  cases Option.some.inj hp50
  exact hR _ _ ⟨rfl,hS0⟩

noncomputable def cd84 (p : List Nat) : Code := sub (bodyOf Tryz.f84) p
abbrev p84_1:=cd84 [1,1]
def weirref05_digit.f (a0 : Int) : Option Bool :=
  (if (decide (a0 ≥ 48)) = true then (if (decide (a0 ≤ 57)) = true then some (true) else some (false)) else some (false))
set_option maxHeartbeats 16000000 in
theorem weirref05_digit.ok (a0 : Int) {w0 : World} {Z : Zm} {fs : List XObj} {w : World} (hS0 : St w0 Z (fs) w) {q0 : Bool} (hp0 : weirref05_digit.f a0 = some q0) :
    Calls Tryz.prog 84 #[.int .u8 a0] w (fun e w' => e = .returned (.bool q0) ∧ St w0 Z (fs) w'):=by
  refine calls_abs ?_; intro R hR
  unfold weirref05_digit.f at hp0
  refine calls_of_runs (fn:=Tryz.f84) (c:=cd84 []) Tryz.func84 (by kernel_rfl) (al:=[.int .u8 a0]) rfl (n:=8) rfl ?_
  refine sS 8 [iR (cd84 [1,0]) 2 5,.code p84_1] 4 (decide (a0 ≥ 48)) (fun h1 => ?_) fun h2 => ?_
  ·have hp3:=ite_t hp0 h1
   refine sS 3 [.inRegion (opsOf (cd84 [1,0])) [5,6],.code p84_1] 7 (decide (a0 ≤ 57)) (fun h4 => ?_) fun h5 => ?_
   ·have hp6:=ite_t hp3 h4
    refine sR 3 [.code p84_1] ?_
    refine rR (.bool true) Tryz.func84 ?_
    cases Option.some.inj hp6
    exact hR _ _ ⟨rfl,hS0⟩
   have hp8:=ite_f hp3 h5
   refine sR 3 [.code p84_1] ?_
   refine rR (.bool false) Tryz.func84 ?_
   cases Option.some.inj hp8
   exact hR _ _ ⟨rfl,hS0⟩
  have hp10:=ite_f hp0 h2
  refine sR 6 [.code p84_1] ?_
  refine rR (.bool false) Tryz.func84 ?_
  cases Option.some.inj hp10
  exact hR _ _ ⟨rfl,hS0⟩

noncomputable def cd95 (p : List Nat) : Code := sub (bodyOf Tryz.f95) p
abbrev td181:List Item:=[.code (cd95 [1,1])]
def weirref05_has.f (a0 : ByteArray) (a1 : Int) (a2 : ByteArray) : Option Bool :=
  (if (decide ((IntKind.i64.wrap ((a0.size : Int) - a1)) ≥ (a2.size : Int))) = true then (if 0 ≤ a1 ∧ a1 ≤ (IntKind.i64.wrap (a1 + (a2.size : Int))) ∧ (IntKind.i64.wrap (a1 + (a2.size : Int))) ≤ (a0.size : Int) then (if (seq (a0.extract a1.toNat (IntKind.i64.wrap (a1 + (a2.size : Int))).toNat) a2) = true then some (true) else some (false)) else none) else some (false))
set_option maxHeartbeats 16000000 in
theorem weirref05_has.ok (a0 : ByteArray) (a1 : Int) (a2 : ByteArray) {w0 : World} {Z : Zm} {fs : List XObj} {w : World} (hS0 : St w0 Z (fs) w) {q0 : Bool} (hp0 : weirref05_has.f a0 a1 a2 = some q0) :
    Calls Tryz.prog 95 #[.string a0,.int .i64 a1,.string a2] w (fun e w' => e = .returned (.bool q0) ∧ St w0 Z (fs) w'):=by
  refine calls_abs ?_; intro R hR
  unfold weirref05_has.f at hp0
  refine calls_of_runs (fn:=Tryz.f95) (c:=cd95 []) Tryz.func95 (by kernel_rfl) (al:=[.string a0,.int .i64 a1,.string a2]) rfl (n:=22) rfl ?_
  refine sS 13 (iR (cd95 [1,0]) 7 12::td181) 13 (decide ((IntKind.i64.wrap ((a0.size : Int) - a1)) ≥ (a2.size : Int))) (fun h1 => ?_) fun h2 => ?_
  ·have hp3:=ite_t hp0 h1
   refine sR 7 (iR (cd95 [1,0]) 14 5::td181) ?_
   obtain ⟨g4,hp5⟩:=ite_some hp3
   refine rV (.slice 9 (.tmp 15) (some (.tmp 16)) (some (.tmp 20)) none) (.string (a0.extract a1.toNat (IntKind.i64.wrap (a1 + (a2.size : Int))).toNat)) (fun o ho _ => x_cutStr_ss (k:=.i64) (k':=.i64) (by kernel_rfl) (by kernel_rfl) (by kernel_rfl) (by kernel_rfl) g4 ho) ?_
   refine sS 2 (.inRegion (opsOf (cd95 [1,0])) [17,18]::td181) 23 (seq (a0.extract a1.toNat (IntKind.i64.wrap (a1 + (a2.size : Int))).toNat) a2) (fun h6 => ?_) fun h7 => ?_
   ·have hp8:=ite_t hp5 h6
    refine sR 3 td181 ?_
    refine rR (.bool true) Tryz.func95 ?_
    cases Option.some.inj hp8
    exact hR _ _ ⟨rfl,hS0⟩
   have hp10:=ite_f hp5 h7
   refine sR 3 td181 ?_
   refine rR (.bool false) Tryz.func95 ?_
   cases Option.some.inj hp10
   exact hR _ _ ⟨rfl,hS0⟩
  have hp12:=ite_f hp0 h2
  refine sR 13 td181 ?_
  refine rR (.bool false) Tryz.func95 ?_
  cases Option.some.inj hp12
  exact hR _ _ ⟨rfl,hS0⟩

noncomputable def cd86 (p : List Nat) : Code := sub (bodyOf Tryz.f86) p
abbrev p86_4:=cd86 [1,1,1,1,0,1,0,0]
abbrev p86_10:=cd86 [1,1,1,1,0,1,0,0,1,0,0,0]
abbrev p86_14:=cd86 [1,1,1,1,0,1,0,0,1,0,0,1,0,1]
abbrev p86_18:=cd86 [1,1,0,1,0,0,1,0,0,0]
abbrev p86_19:=cd86 [1,1,0,1,0,0,1,0,0,1]
abbrev p86_21:=cd86 [1,1,0,1,0,0,1,0,0,1,0,0]
abbrev p86_22:=cd86 [1,1,0,1,0,0,1,0,0,1,0,1]
abbrev td182:List Item:=[.code (cd86 [1,1,1])]
abbrev td183:List Item:=.inBlock 0::td182
abbrev td184:List Item:=.inLoop (cd86 [1,1,0,1,0,0])::td183
abbrev td185:List Item:=.code (cd86 [1,1,0,1,0,0])::td184
abbrev td186:List Item:=[.code (cd86 [1,1,1,1,1])]
abbrev td187:List Item:=.inBlock 2::td186
abbrev td188:List Item:=.inLoop p86_4::td187
abbrev td189:List Item:=.code p86_4::td188
abbrev td190:List Item:=.code (cd86 [1,1,1,1,0,1,0,0,1,1])::td188
abbrev td191:List Item:=.inBlock 3::td190
abbrev td192:List Item:=.code (cd86 [1,1,0,1,0,0,1,1])::td184
abbrev td193:List Item:=.inBlock 1::td192
def weirref05_sign.l1 (a0 : ByteArray) (a1 : Int) (t26 : Int) : Option (Sum Unit ByteArray) :=
  (if (decide (t26 < 18)) = true then (if 0 ≤ a1 ∧ a1 < (a0.size : Int) then (if 0 ≤ t26 ∧ t26 < ((⟨#[123,125,40,41,91,93,59,44,58,124,61,36,126,38,43,42,63,92]⟩ : ByteArray).size : Int) then (if ((byt a0 a1) == (byt (⟨#[123,125,40,41,91,93,59,44,58,124,61,36,126,38,43,42,63,92]⟩ : ByteArray) t26)) = true then (if 0 ≤ t26 ∧ t26 ≤ (IntKind.i64.wrap (t26 + 1)) ∧ (IntKind.i64.wrap (t26 + 1)) ≤ ((⟨#[123,125,40,41,91,93,59,44,58,124,61,36,126,38,43,42,63,92]⟩ : ByteArray).size : Int) then some (.inr (((⟨#[123,125,40,41,91,93,59,44,58,124,61,36,126,38,43,42,63,92]⟩ : ByteArray).extract t26.toNat (IntKind.i64.wrap (t26 + 1)).toNat))) else none) else (weirref05_sign.l1 a0 a1 (IntKind.i64.wrap (t26 + 1)))) else none) else none) else some (.inl ()))
 partial_fixpoint
def weirref05_sign.l0 (a0 : ByteArray) (a1 : Int) (t56 : Int) : Option (Sum Unit ByteArray) :=
  (if (decide (t56 < 3)) = true then (if 0 ≤ t56 ∧ t56 < 3 then (weirref05_has.f a0 a1 (vget (vset (vset (vset (Vector.replicate 3 (⟨#[]⟩ : ByteArray)) 0 (⟨#[47,92]⟩ : ByteArray)) 1 (⟨#[92,47]⟩ : ByteArray)) 2 (⟨#[94,45,49]⟩ : ByteArray)) t56) >>= (fun t72 => (if t72 = true then (if 0 ≤ t56 ∧ t56 < 3 then some (.inr ((vget (vset (vset (vset (Vector.replicate 3 (⟨#[]⟩ : ByteArray)) 0 (⟨#[47,92]⟩ : ByteArray)) 1 (⟨#[92,47]⟩ : ByteArray)) 2 (⟨#[94,45,49]⟩ : ByteArray)) t56))) else none) else (weirref05_sign.l0 a0 a1 (IntKind.i64.wrap (t56 + 1)))))) else none) else some (.inl ()))
 partial_fixpoint
def weirref05_sign.f (a0 : ByteArray) (a1 : Int) : Option ByteArray :=
  (weirref05_sign.l0 a0 a1 0 >>= (fun | .inl () => (weirref05_sign.l1 a0 a1 0 >>= (fun | .inl () => some ((⟨#[]⟩ : ByteArray)) | .inr e => some e)) | .inr e => some e))
set_option maxHeartbeats 16000000 in
theorem weirref05_sign.ok (a0 : ByteArray) (a1 : Int) {w0 : World} {Z : Zm} {fs : List XObj} {w : World} (hS0 : St w0 Z (fs) w) {q0 : ByteArray} (hp0 : weirref05_sign.f a0 a1 = some q0) :
    Calls Tryz.prog 86 #[.string a0,.int .i64 a1] w (fun e w' => e = .returned (.string q0) ∧ St w0 Z (fs) w'):=by
  refine calls_abs ?_; intro R hR
  unfold weirref05_sign.f at hp0
  refine calls_of_runs (fn:=Tryz.f86) (c:=cd86 []) Tryz.func86 (by kernel_rfl) (al:=[.string a0,.int .i64 a1]) rfl (n:=39) rfl ?_
  refine sR 7 [.inRegion (opsOf (cd86 [1,0])) [1,2],.code (cd86 [1,1])] ?_
  refine rA 132 (.agg ((encV encS) (Vector.replicate 3 (⟨#[]⟩ : ByteArray))).toArray) ((encV encS) (Vector.replicate 3 (⟨#[]⟩ : ByteArray))) hS0 ?_
  intro b1 w2 hS3
  refine r_store (c:=(cd86 [1,0])) (i:=2) (d:=none) (ty:=0) (t:=132) (x:=(.tmp 5)) (y:=(.tmp 9)) (b:=b1) (o:=0) (e:=132) (cs:=(encV encS) (Vector.replicate 3 (⟨#[]⟩ : ByteArray))) (v:=.agg ((encV encS) (vset (vset (vset (Vector.replicate 3 (⟨#[]⟩ : ByteArray)) 0 (⟨#[47,92]⟩ : ByteArray)) 1 (⟨#[92,47]⟩ : ByteArray)) 2 (⟨#[94,45,49]⟩ : ByteArray))).toArray) (vs:=(encV encS) (vset (vset (vset (Vector.replicate 3 (⟨#[]⟩ : ByteArray)) 0 (⟨#[47,92]⟩ : ByteArray)) 1 (⟨#[92,47]⟩ : ByteArray)) 2 (⟨#[94,45,49]⟩ : ByteArray))) (cs':=(encV encS) (vset (vset (vset (Vector.replicate 3 (⟨#[]⟩ : ByteArray)) 0 (⟨#[47,92]⟩ : ByteArray)) 1 (⟨#[92,47]⟩ : ByteArray)) 2 (⟨#[94,45,49]⟩ : ByteArray))) hS3 (by kernel_rfl) (by kernel_rfl) (by kernel_rfl) (by kernel_rfl) (by kernel_rfl) (lenK ((len_encV len_encS) _) (by kernel_rfl)) ((one_encV one_encS) _) (by simp only [len_encV len_encS,List.length_cons,List.length_nil,List.length_append]; omega) (over_all (((len_encV len_encS) _).trans ((len_encV len_encS) _).symm)) ?_
  intro w5 hS6
  refine sR 8 td185 ?_
  obtain ⟨v7,hv8,hp9⟩:=bind_some' hp0
  have hq12 : ∀ x,Sum.inr x = v7 → x = q0:=by intro x hx; subst hx; simpa using hp9
  have J13 : ∀ (he15 : Sum.inl () = v7) (l14 : List Value) (w10 : World) (hS11 : St w0 Z (fs) w10),Runs Tryz.prog (fx 86) td182 (fill (mk 41 [(0,.string a0),(1,.int .i64 a1)]) l14) w10 R:=by
   intro he15 l14 w10 hS11
   subst he15
   try dsimp only at hp9
   refine sR 11 td189 ?_
   obtain ⟨v16,hv17,hp18⟩:=bind_some' hp9
   have hq21 : ∀ x,Sum.inr x = v16 → x = q0:=by intro x hx; subst hx; simpa using hp18
   have J22 : ∀ (he24 : Sum.inl () = v16) (l23 : List Value) (w19 : World) (hS20 : St w0 Z (fs) w19),Runs Tryz.prog (fx 86) td186 (fill (mk 41 []) l23) w19 R:=by
    intro he24 l23 w19 hS20
    subst he24
    try dsimp only at hp18
    refine sR 4 [.code (cd86 [1,1,1,1,1,1])] ?_
    refine rR (.string (⟨#[]⟩ : ByteArray)) Tryz.func86 ?_
    cases Option.some.inj hp18
    exact hR _ _ ⟨rfl,hS20⟩
   have L35 : ∀ (t26 : Int) (e30 : Sum Unit ByteArray),weirref05_sign.l1 a0 a1 t26 = some e30 → e30 = v16 → ∀ (l29 : List Value) (w27 : World) (hS28 : St w0 Z (fs) w27),Runs Tryz.prog (fx 86) td189 (fill (mk 41 [(0,.string a0),(1,.int .i64 a1),(7,.string (⟨#[123,125,40,41,91,93,59,44,58,124,61,36,126,38,43,42,63,92]⟩ : ByteArray)),(8,.int .i64 t26)]) l29) w27 R:=by
    refine weirref05_sign.l1.partial_correctness a0 a1 (fun t26 e30 => e30 = v16 → ∀ (l29 : List Value) (w27 : World) (hS28 : St w0 Z (fs) w27),Runs Tryz.prog (fx 86) td189 (fill (mk 41 [(0,.string a0),(1,.int .i64 a1),(7,.string (⟨#[123,125,40,41,91,93,59,44,58,124,61,36,126,38,43,42,63,92]⟩ : ByteArray)),(8,.int .i64 t26)]) l29) w27 R) ?_
    intro rec34 ih33 t26 e30 hb32 he31 l29 w27 hS28
    have hq36 : ∀ x,Sum.inr x = e30 → x = q0:=fun x hx => hq21 x (hx.trans he31)
    refine sS 7 (.inRegion (opsOf (cd86 [1,1,1,1,0,1,0,0,0,0])) []::.code (cd86 [1,1,1,1,0,1,0,0,0,1])::.code (cd86 [1,1,1,1,0,1,0,0,1])::td188) 26 (decide (t26 < 18)) (fun h37 => ?_) fun h38 => ?_
    ·have hp39:=ite_t hb32 h37
     refine sR 6 (.code p86_10::.code (cd86 [1,1,1,1,0,1,0,0,1,0,0,1])::td191) ?_
     refine r_quiet hS28 (c:=p86_10) (id:=11) (by kernel_rfl) (by kernel_rfl) (by kernel_rfl) (is:=[0,1,2,3,4,5,6]) (by kernel_rfl) ?_
     refine qR 2 (rg 2 5) ?_
     obtain ⟨g40,hp41⟩:=ite_some hp39
     refine qV (.index 9 (.tmp 29) (.tmp 30)) (.int .u8 (byt a0 a1)) (fun w hC o ho _ => x_indexStr (kk:=.i64) (by kernel_rfl) (by kernel_rfl) (by kernel_rfl) g40.1 g40.2 ho) ?_
     refine qR 2 [5,6] ?_
     obtain ⟨g42,hp43⟩:=ite_some hp41
     refine qV (.index 9 (.tmp 32) (.tmp 33)) (.int .u8 (byt (⟨#[123,125,40,41,91,93,59,44,58,124,61,36,126,38,43,42,63,92]⟩ : ByteArray) t26)) (fun w hC o ho _ => x_indexStr (kk:=.i64) (by kernel_rfl) (by kernel_rfl) (by kernel_rfl) g42.1 g42.2 ho) ?_
     refine qS 1 [] 35 ((byt a0 a1) == (byt (⟨#[123,125,40,41,91,93,59,44,58,124,61,36,126,38,43,42,63,92]⟩ : ByteArray) t26)) (fun h44 => ?_) fun h45 => ?_
     ·have hp46:=ite_t hp43 h44
      refine Qs.nil ?_
      intro w47 hS48
      refine sR 7 (.inRegion (opsOf (cd86 [1,1,1,1,0,1,0,0,1,0,0,1,0,0])) [4,5]::.code p86_14::td191) ?_
      obtain ⟨g49,hp50⟩:=ite_some hp46
      refine rV (.slice 9 (.tmp 36) (some (.tmp 37)) (some (.tmp 39)) none) (.string ((⟨#[123,125,40,41,91,93,59,44,58,124,61,36,126,38,43,42,63,92]⟩ : ByteArray).extract t26.toNat (IntKind.i64.wrap (t26 + 1)).toNat)) (fun o ho _ => x_cutStr_ss (k:=.i64) (k':=.i64) (by kernel_rfl) (by kernel_rfl) (by kernel_rfl) (by kernel_rfl) g49 ho) ?_
      refine sR 2 (.code p86_14::td191) ?_
      refine r_isret (c:=p86_14) (by kernel_rfl) ?_
      refine rR (.string ((⟨#[123,125,40,41,91,93,59,44,58,124,61,36,126,38,43,42,63,92]⟩ : ByteArray).extract t26.toNat (IntKind.i64.wrap (t26 + 1)).toNat)) Tryz.func86 ?_
      cases hq36 _ (Option.some.inj hp50)
      exact hR _ _ ⟨rfl,hS48⟩
     have hp52:=ite_f hp43 h45
     refine Qs.nil ?_
     intro w53 hS54
     refine sR 8 td188 ?_
     refine sR 1 td189 ?_
     refine rF (mk 41 [(0,.string a0),(1,.int .i64 a1),(7,.string (⟨#[123,125,40,41,91,93,59,44,58,124,61,36,126,38,43,42,63,92]⟩ : ByteArray)),(8,.int .i64 (IntKind.i64.wrap (t26 + 1)))]) ?_
     exact ih33 (IntKind.i64.wrap (t26 + 1)) _ hp52 he31 _ _ hS54
    have hp55:=ite_f hb32 h38
    refine sR 3 td186 ?_
    refine rF (mk 41 []) ?_
    exact J22 ((Option.some.inj hp55).trans he31) _ _ hS28
   refine rF (mk 41 [(0,.string a0),(1,.int .i64 a1),(7,.string (⟨#[123,125,40,41,91,93,59,44,58,124,61,36,126,38,43,42,63,92]⟩ : ByteArray)),(8,.int .i64 0)]) ?_
   exact L35 0 _ hv17 rfl _ _ hS11
  have L65 : ∀ (t56 : Int) (e60 : Sum Unit ByteArray),weirref05_sign.l0 a0 a1 t56 = some e60 → e60 = v7 → ∀ (l59 : List Value) (w57 : World) (hS58 : St w0 Z (xblk b1 132 ((encV encS) (vset (vset (vset (Vector.replicate 3 (⟨#[]⟩ : ByteArray)) 0 (⟨#[47,92]⟩ : ByteArray)) 1 (⟨#[92,47]⟩ : ByteArray)) 2 (⟨#[94,45,49]⟩ : ByteArray)))::fs) w57),Runs Tryz.prog (fx 86) td185 (fill (mk 41 [(0,.string a0),(1,.int .i64 a1),(5,.pointer (some ⟨b1,0,none⟩)),(6,.int .i64 t56)]) l59) w57 R:=by
   refine weirref05_sign.l0.partial_correctness a0 a1 (fun t56 e60 => e60 = v7 → ∀ (l59 : List Value) (w57 : World) (hS58 : St w0 Z (xblk b1 132 ((encV encS) (vset (vset (vset (Vector.replicate 3 (⟨#[]⟩ : ByteArray)) 0 (⟨#[47,92]⟩ : ByteArray)) 1 (⟨#[92,47]⟩ : ByteArray)) 2 (⟨#[94,45,49]⟩ : ByteArray)))::fs) w57),Runs Tryz.prog (fx 86) td185 (fill (mk 41 [(0,.string a0),(1,.int .i64 a1),(5,.pointer (some ⟨b1,0,none⟩)),(6,.int .i64 t56)]) l59) w57 R) ?_
   intro rec64 ih63 t56 e60 hb62 he61 l59 w57 hS58
   have hq66 : ∀ x,Sum.inr x = e60 → x = q0:=fun x hx => hq12 x (hx.trans he61)
   refine sS 5 (.inRegion (opsOf (cd86 [1,1,0,1,0,0,0,0])) []::.code (cd86 [1,1,0,1,0,0,0,1])::.code (cd86 [1,1,0,1,0,0,1])::td184) 11 (decide (t56 < 3)) (fun h67 => ?_) fun h68 => ?_
   ·have hp69:=ite_t hb62 h67
    refine sR 10 (.inRegion (opsOf p86_18) [3,4,5]::.code p86_19::td193) ?_
    obtain ⟨g70,hp71⟩:=ite_some hp69
    refine r_indexArr (c:=p86_18) (i:=3) (d:=(some 17)) (ty:=0) (t:=132) (e:=9) (sz:=1) (kk:=.i64) (x:=(.tmp 5)) (y:=(.tmp 16)) (b:=b1) (o':=0) (n:=3) (j:=t56) (by kernel_rfl) (by kernel_rfl) (by kernel_rfl) (by kernel_rfl) (by kernel_rfl) (by kernel_rfl) g70.1 g70.2 ?_
    refine rL1 9 (.tmp 17) 0 (cells_vget (hS58.blk 0 rfl) len_encS g70.1 g70.2) ?_
    obtain ⟨t72,hr73,hp74⟩:=bind_some' hp71
    refine rC (weirref05_has.ok a0 a1 (vget (vset (vset (vset (Vector.replicate 3 (⟨#[]⟩ : ByteArray)) 0 (⟨#[47,92]⟩ : ByteArray)) 1 (⟨#[92,47]⟩ : ByteArray)) 2 (⟨#[94,45,49]⟩ : ByteArray)) t56) hS58 hr73) ?_
    rintro _ w75 ⟨rfl,hS76⟩
    refine ⟨_,rfl,?_⟩
    refine sR 1 (.code p86_19::td193) ?_
    cases t72
    ·have hp77:=ite_f hp74 rfl
     refine sR 8 td184 ?_
     refine sR 1 td185 ?_
     refine rF (mk 41 [(0,.string a0),(1,.int .i64 a1),(5,.pointer (some ⟨b1,0,none⟩)),(6,.int .i64 (IntKind.i64.wrap (t56 + 1)))]) ?_
     exact ih63 (IntKind.i64.wrap (t56 + 1)) _ hp77 he61 _ _ hS76
    have hp78:=ite_t hp74 rfl
    refine sR 4 (.inRegion (opsOf p86_21) [1,2,3]::.code p86_22::td193) ?_
    obtain ⟨g79,hp80⟩:=ite_some hp78
    refine r_indexArr (c:=p86_21) (i:=1) (d:=(some 21)) (ty:=0) (t:=132) (e:=9) (sz:=1) (kk:=.i64) (x:=(.tmp 5)) (y:=(.tmp 20)) (b:=b1) (o':=0) (n:=3) (j:=t56) (by kernel_rfl) (by kernel_rfl) (by kernel_rfl) (by kernel_rfl) (by kernel_rfl) (by kernel_rfl) g79.1 g79.2 ?_
    refine rL1 9 (.tmp 21) 0 (cells_vget (hS76.blk 0 rfl) len_encS g79.1 g79.2) ?_
    refine sR 2 (.code p86_22::td193) ?_
    have hS81:=hS76.drop
    refine rR (.string (vget (vset (vset (vset (Vector.replicate 3 (⟨#[]⟩ : ByteArray)) 0 (⟨#[47,92]⟩ : ByteArray)) 1 (⟨#[92,47]⟩ : ByteArray)) 2 (⟨#[94,45,49]⟩ : ByteArray)) t56)) Tryz.func86 ?_
    cases hq66 _ (Option.some.inj hp80)
    exact hR _ _ ⟨rfl,hS81⟩
   have hp83:=ite_f hb62 h68
   refine sR 3 td182 ?_
   have hS84:=hS58.drop
   refine rF (mk 41 [(0,.string a0),(1,.int .i64 a1)]) ?_
   exact J13 ((Option.some.inj hp83).trans he61) _ _ hS84
  refine rF (mk 41 [(0,.string a0),(1,.int .i64 a1),(5,.pointer (some ⟨b1,0,none⟩)),(6,.int .i64 0)]) ?_
  exact L65 0 _ hv8 rfl _ _ hS6

noncomputable def cd99 (p : List Nat) : Code := sub (bodyOf Tryz.f99) p
abbrev p99_8:=cd99 [1,1,0,0,1,1,0]
abbrev p99_10:=cd99 [1,1,0,0,1,1,1,1,0]
abbrev td194:List Item:=[.code (cd99 [1,1,1])]
abbrev td195:List Item:=.inBlock 0::td194
abbrev td196:List Item:=.code (cd99 [1,1,0,0,1,1,1])::td195
abbrev td197:List Item:=.code (cd99 [1,1,0,0,1,1,1,1,1])::td195
abbrev td198:List Item:=iR p99_10 2 5::td197
abbrev td199:List Item:=.inRegion (opsOf p99_10) [5,6]::td197
def weirref04_digit.f (a0 : Int) (a1 : Int) : Option Int :=
  (((if (decide (a0 ≥ 48)) = true then (if (decide (a0 ≤ 57)) = true then some ((IntKind.i64.wrap (IntKind.u8.wrap (a0 - 48)))) else (if (decide (a0 ≥ 97)) = true then (if (decide (a0 ≤ 102)) = true then some ((IntKind.i64.wrap ((IntKind.i64.wrap (IntKind.u8.wrap (a0 - 97))) + 10))) else (if (decide (a0 ≥ 65)) = true then (if (decide (a0 ≤ 70)) = true then some ((IntKind.i64.wrap ((IntKind.i64.wrap (IntKind.u8.wrap (a0 - 65))) + 10))) else some ((-1))) else some ((-1)))) else (if (decide (a0 ≥ 65)) = true then (if (decide (a0 ≤ 70)) = true then some ((IntKind.i64.wrap ((IntKind.i64.wrap (IntKind.u8.wrap (a0 - 65))) + 10))) else some ((-1))) else some ((-1))))) else (if (decide (a0 ≥ 97)) = true then (if (decide (a0 ≤ 102)) = true then some ((IntKind.i64.wrap ((IntKind.i64.wrap (IntKind.u8.wrap (a0 - 97))) + 10))) else (if (decide (a0 ≥ 65)) = true then (if (decide (a0 ≤ 70)) = true then some ((IntKind.i64.wrap ((IntKind.i64.wrap (IntKind.u8.wrap (a0 - 65))) + 10))) else some ((-1))) else some ((-1)))) else (if (decide (a0 ≥ 65)) = true then (if (decide (a0 ≤ 70)) = true then some ((IntKind.i64.wrap ((IntKind.i64.wrap (IntKind.u8.wrap (a0 - 65))) + 10))) else some ((-1))) else some ((-1))))) : Option Int) >>= (fun t4 => (if (decide (t4 ≥ a1)) = true then some ((-1)) else some (t4))))
set_option maxHeartbeats 16000000 in
theorem weirref04_digit.ok (a0 : Int) (a1 : Int) {w0 : World} {Z : Zm} {fs : List XObj} {w : World} (hS0 : St w0 Z (fs) w) {q0 : Int} (hp0 : weirref04_digit.f a0 a1 = some q0) :
    Calls Tryz.prog 99 #[.int .u8 a0,.int .i64 a1] w (fun e w' => e = .returned (.int .i64 q0) ∧ St w0 Z (fs) w'):=by
  refine calls_abs ?_; intro R hR
  unfold weirref04_digit.f at hp0
  refine calls_of_runs (fn:=Tryz.f99) (c:=cd99 []) Tryz.func99 (by kernel_rfl) (al:=[.int .u8 a0,.int .i64 a1]) rfl (n:=40) rfl ?_
  obtain ⟨v1,hv2,hp3⟩:=bind_some' hp0
  have J7 : ∀ (t4 : Int) (he9 : t4 = v1) (l8 : List Value) (w5 : World) (hS6 : St w0 Z (fs) w5),Runs Tryz.prog (fx 99) td194 (fill (mk 42 [(1,.int .i64 a1),(5,.int .i64 t4)]) l8) w5 R:=by
   intro t4 he9 l8 w5 hS6
   subst he9
   try dsimp only at hp3
   refine sS 6 [.inRegion (opsOf (cd99 [1,1,1,0,0])) [],.code (cd99 [1,1,1,0,1]),.code (cd99 [1,1,1,1])] 40 (decide (t4 ≥ a1)) (fun h10 => ?_) fun h11 => ?_
   ·have hp12:=ite_t hp3 h10
    refine sR 6 [.code (cd99 [1,1,1,0,1,0,1]),.code (cd99 [1,1,1,1])] ?_
    refine rR (.int .i64 (-1)) Tryz.func99 ?_
    cases Option.some.inj hp12
    exact hR _ _ ⟨rfl,hS6⟩
   have hp14:=ite_f hp3 h11
   refine sR 8 [.code (cd99 [1,1,1,1,1])] ?_
   refine rR (.int .i64 t4) Tryz.func99 ?_
   cases Option.some.inj hp14
   exact hR _ _ ⟨rfl,hS6⟩
  refine sS 14 (iR (cd99 [1,1,0,0,0]) 2 5::.code (cd99 [1,1,0,0,1])::td195) 8 (decide (a0 ≥ 48)) (fun h16 => ?_) fun h17 => ?_
  ·have hp18:=ite_t hv2 h16
   refine sS 3 (.inRegion (opsOf (cd99 [1,1,0,0,0])) [5,6]::.code (cd99 [1,1,0,0,1])::td195) 11 (decide (a0 ≤ 57)) (fun h19 => ?_) fun h20 => ?_
   ·have hp21:=ite_t hp18 h19
    refine sR 11 td194 ?_
    refine rF (mk 42 [(1,.int .i64 a1),(5,.int .i64 (IntKind.i64.wrap (IntKind.u8.wrap (a0 - 48))))]) ?_
    exact J7 (IntKind.i64.wrap (IntKind.u8.wrap (a0 - 48))) (Option.some.inj hp21) _ _ hS0
   have hp22:=ite_f hp18 h20
   refine sS 8 (iR p99_8 2 5::td196) 18 (decide (a0 ≥ 97)) (fun h23 => ?_) fun h24 => ?_
   ·have hp25:=ite_t hp22 h23
    refine sS 3 (.inRegion (opsOf p99_8) [5,6]::td196) 21 (decide (a0 ≤ 102)) (fun h26 => ?_) fun h27 => ?_
    ·have hp28:=ite_t hp25 h26
     refine sR 12 td194 ?_
     refine rF (mk 42 [(1,.int .i64 a1),(5,.int .i64 (IntKind.i64.wrap ((IntKind.i64.wrap (IntKind.u8.wrap (a0 - 97))) + 10)))]) ?_
     exact J7 (IntKind.i64.wrap ((IntKind.i64.wrap (IntKind.u8.wrap (a0 - 97))) + 10)) (Option.some.inj hp28) _ _ hS0
    have hp29:=ite_f hp25 h27
    refine sS 8 td198 29 (decide (a0 ≥ 65)) (fun h30 => ?_) fun h31 => ?_
    ·have hp32:=ite_t hp29 h30
     refine sS 3 td199 32 (decide (a0 ≤ 70)) (fun h33 => ?_) fun h34 => ?_
     ·have hp35:=ite_t hp32 h33
      refine sR 12 td194 ?_
      refine rF (mk 42 [(1,.int .i64 a1),(5,.int .i64 (IntKind.i64.wrap ((IntKind.i64.wrap (IntKind.u8.wrap (a0 - 65))) + 10)))]) ?_
      exact J7 (IntKind.i64.wrap ((IntKind.i64.wrap (IntKind.u8.wrap (a0 - 65))) + 10)) (Option.some.inj hp35) _ _ hS0
     have hp36:=ite_f hp32 h34
     refine sR 6 td194 ?_
     refine rF (mk 42 [(1,.int .i64 a1),(5,.int .i64 (-1))]) ?_
     exact J7 (-1) (Option.some.inj hp36) _ _ hS0
    have hp37:=ite_f hp29 h31
    refine sR 9 td194 ?_
    refine rF (mk 42 [(1,.int .i64 a1),(5,.int .i64 (-1))]) ?_
    exact J7 (-1) (Option.some.inj hp37) _ _ hS0
   have hp38:=ite_f hp22 h24
   refine sS 11 td198 29 (decide (a0 ≥ 65)) (fun h39 => ?_) fun h40 => ?_
   ·have hp41:=ite_t hp38 h39
    refine sS 3 td199 32 (decide (a0 ≤ 70)) (fun h42 => ?_) fun h43 => ?_
    ·have hp44:=ite_t hp41 h42
     refine sR 12 td194 ?_
     refine rF (mk 42 [(1,.int .i64 a1),(5,.int .i64 (IntKind.i64.wrap ((IntKind.i64.wrap (IntKind.u8.wrap (a0 - 65))) + 10)))]) ?_
     exact J7 (IntKind.i64.wrap ((IntKind.i64.wrap (IntKind.u8.wrap (a0 - 65))) + 10)) (Option.some.inj hp44) _ _ hS0
    have hp45:=ite_f hp41 h43
    refine sR 6 td194 ?_
    refine rF (mk 42 [(1,.int .i64 a1),(5,.int .i64 (-1))]) ?_
    exact J7 (-1) (Option.some.inj hp45) _ _ hS0
   have hp46:=ite_f hp38 h40
   refine sR 9 td194 ?_
   refine rF (mk 42 [(1,.int .i64 a1),(5,.int .i64 (-1))]) ?_
   exact J7 (-1) (Option.some.inj hp46) _ _ hS0
  have hp47:=ite_f hv2 h17
  refine sS 11 (iR p99_8 2 5::td196) 18 (decide (a0 ≥ 97)) (fun h48 => ?_) fun h49 => ?_
  ·have hp50:=ite_t hp47 h48
   refine sS 3 (.inRegion (opsOf p99_8) [5,6]::td196) 21 (decide (a0 ≤ 102)) (fun h51 => ?_) fun h52 => ?_
   ·have hp53:=ite_t hp50 h51
    refine sR 12 td194 ?_
    refine rF (mk 42 [(1,.int .i64 a1),(5,.int .i64 (IntKind.i64.wrap ((IntKind.i64.wrap (IntKind.u8.wrap (a0 - 97))) + 10)))]) ?_
    exact J7 (IntKind.i64.wrap ((IntKind.i64.wrap (IntKind.u8.wrap (a0 - 97))) + 10)) (Option.some.inj hp53) _ _ hS0
   have hp54:=ite_f hp50 h52
   refine sS 8 td198 29 (decide (a0 ≥ 65)) (fun h55 => ?_) fun h56 => ?_
   ·have hp57:=ite_t hp54 h55
    refine sS 3 td199 32 (decide (a0 ≤ 70)) (fun h58 => ?_) fun h59 => ?_
    ·have hp60:=ite_t hp57 h58
     refine sR 12 td194 ?_
     refine rF (mk 42 [(1,.int .i64 a1),(5,.int .i64 (IntKind.i64.wrap ((IntKind.i64.wrap (IntKind.u8.wrap (a0 - 65))) + 10)))]) ?_
     exact J7 (IntKind.i64.wrap ((IntKind.i64.wrap (IntKind.u8.wrap (a0 - 65))) + 10)) (Option.some.inj hp60) _ _ hS0
    have hp61:=ite_f hp57 h59
    refine sR 6 td194 ?_
    refine rF (mk 42 [(1,.int .i64 a1),(5,.int .i64 (-1))]) ?_
    exact J7 (-1) (Option.some.inj hp61) _ _ hS0
   have hp62:=ite_f hp54 h56
   refine sR 9 td194 ?_
   refine rF (mk 42 [(1,.int .i64 a1),(5,.int .i64 (-1))]) ?_
   exact J7 (-1) (Option.some.inj hp62) _ _ hS0
  have hp63:=ite_f hp47 h49
  refine sS 11 td198 29 (decide (a0 ≥ 65)) (fun h64 => ?_) fun h65 => ?_
  ·have hp66:=ite_t hp63 h64
   refine sS 3 td199 32 (decide (a0 ≤ 70)) (fun h67 => ?_) fun h68 => ?_
   ·have hp69:=ite_t hp66 h67
    refine sR 12 td194 ?_
    refine rF (mk 42 [(1,.int .i64 a1),(5,.int .i64 (IntKind.i64.wrap ((IntKind.i64.wrap (IntKind.u8.wrap (a0 - 65))) + 10)))]) ?_
    exact J7 (IntKind.i64.wrap ((IntKind.i64.wrap (IntKind.u8.wrap (a0 - 65))) + 10)) (Option.some.inj hp69) _ _ hS0
   have hp70:=ite_f hp66 h68
   refine sR 6 td194 ?_
   refine rF (mk 42 [(1,.int .i64 a1),(5,.int .i64 (-1))]) ?_
   exact J7 (-1) (Option.some.inj hp70) _ _ hS0
  have hp71:=ite_f hp63 h65
  refine sR 9 td194 ?_
  refine rF (mk 42 [(1,.int .i64 a1),(5,.int .i64 (-1))]) ?_
  exact J7 (-1) (Option.some.inj hp71) _ _ hS0

noncomputable def cd97 (p : List Nat) : Code := sub (bodyOf Tryz.f97) p
abbrev p97_3:=cd97 [1,1,1,1,0,0,0,0,0]
abbrev p97_6:=cd97 [1,1,1,1,0,0,0,1,0,0]
abbrev p97_7:=cd97 [1,1,1,1,0,0,0,1,0,1]
abbrev p97_8:=cd97 [1,1,1,1,0,0,0,1,0,1,0,0]
abbrev p97_9:=cd97 [1,1,1,1,0,0,0,1,0,1,0,1]
abbrev td200:List Item:=[.code (cd97 [1,1,1,1,1])]
abbrev td201:List Item:=.inBlock 0::td200
abbrev td202:List Item:=.inLoop (cd97 [1,1,1,1,0,0,0])::td201
abbrev td203:List Item:=.code (cd97 [1,1,1,1,0,0,0])::td202
abbrev td204:List Item:=.code (cd97 [1,1,1,1,0,0,0,1])::td202
abbrev td205:List Item:=.code (cd97 [1,1,1,1,0,0,0,0,1])::td204
abbrev td206:List Item:=.inBlock 1::td202
abbrev td207:List Item:=.code (cd97 [1,1,1,1,0,0,0,1,0,1,1])::td206
def weirref04_digits.l0 (a0 : ByteArray) (a1 : Int) (a2 : Int) (t13 : Int) (t14 : Bool) (t15 : Int) : Option (Int × Bool × Int) :=
  (if (decide ((IntKind.i64.wrap (a1 + t15)) < (a0.size : Int))) = true then (if 0 ≤ (IntKind.i64.wrap (a1 + t15)) ∧ (IntKind.i64.wrap (a1 + t15)) < (a0.size : Int) then (weirref04_digit.f (byt a0 (IntKind.i64.wrap (a1 + t15))) a2 >>= (fun t30 => (if (decide (t30 ≥ 0)) = true then (if 0 ≤ (IntKind.i64.wrap (a1 + t15)) ∧ (IntKind.i64.wrap (a1 + t15)) < (a0.size : Int) then (weirref04_digit.f (byt a0 (IntKind.i64.wrap (a1 + t15))) a2 >>= (fun t40 => (if (IntKind.u64.wrap a2) ≠ 0 then (((if (decide (t13 > (IntKind.u64.wrap ((IntKind.u64.wrap (18446744073709551615 - (IntKind.u64.wrap t40))).tdiv (IntKind.u64.wrap a2))))) = true then some (true) else some (t14)) : Option Bool) >>= (fun t50 => (weirref04_digits.l0 a0 a1 a2 (IntKind.u64.wrap ((IntKind.u64.wrap (t13 * (IntKind.u64.wrap a2))) + (IntKind.u64.wrap t40))) t50 (IntKind.i64.wrap (t15 + 1))))) else none))) else none) else some ((t13,t14,t15))))) else none) else some ((t13,t14,t15)))
 partial_fixpoint
def weirref04_digits.f (a0 : ByteArray) (a1 : Int) (a2 : Int) : Option (Int × Bool × Int) :=
  (weirref04_digits.l0 a0 a1 a2 0 false 0 >>= (fun (t4,t5,t6) => some ((t4,t5,t6))))
set_option maxHeartbeats 16000000 in
theorem weirref04_digits.ok (a0 : ByteArray) (a1 : Int) (a2 : Int) {w0 : World} {Z : Zm} {fs : List XObj} {w : World} (hS0 : St w0 Z (fs) w) {q0 : Int} {q1 : Bool} {q2 : Int} (hp0 : weirref04_digits.f a0 a1 a2 = some (q0,q1,q2)) :
    Calls Tryz.prog 97 #[.string a0,.int .i64 a1,.int .i64 a2] w (fun e w' => e = .returned (.tuple #[.int .u64 q0,.bool q1,.int .i64 q2]) ∧ St w0 Z (fs) w'):=by
  refine calls_abs ?_; intro R hR
  unfold weirref04_digits.f at hp0
  refine calls_of_runs (fn:=Tryz.f97) (c:=cd97 []) Tryz.func97 (by kernel_rfl) (al:=[.string a0,.int .i64 a1,.int .i64 a2]) rfl (n:=52) rfl ?_
  refine sR 21 td203 ?_
  obtain ⟨v1,hv2,hp3⟩:=bind_some' hp0
  have J9 : ∀ (t4 : Int) (t5 : Bool) (t6 : Int) (he11 : (t4,t5,t6) = v1) (l10 : List Value) (w7 : World) (hS8 : St w0 Z (fs) w7),Runs Tryz.prog (fx 97) td200 (fill (mk 55 [(9,.int .u64 t4),(10,.bool t5),(11,.int .i64 t6)]) l10) w7 R:=by
   intro t4 t5 t6 he11 l10 w7 hS8
   subst he11
   try dsimp only at hp3
   refine sR 9 [.code (cd97 [1,1,1,1,1,1])] ?_
   refine rR (.tuple #[.int .u64 t4,.bool t5,.int .i64 t6]) Tryz.func97 ?_
   cases Option.some.inj hp3
   exact hR _ _ ⟨rfl,hS8⟩
  have L24 : ∀ (t13 : Int) (t14 : Bool) (t15 : Int) (e19 : (Int × Bool × Int)),weirref04_digits.l0 a0 a1 a2 t13 t14 t15 = some e19 → e19 = v1 → ∀ (l18 : List Value) (w16 : World) (hS17 : St w0 Z (fs) w16),Runs Tryz.prog (fx 97) td203 (fill (mk 55 [(0,.string a0),(1,.int .i64 a1),(2,.int .i64 a2),(9,.int .u64 t13),(10,.bool t14),(11,.int .i64 t15)]) l18) w16 R:=by
   refine weirref04_digits.l0.partial_correctness a0 a1 a2 (fun t13 t14 t15 e19 => e19 = v1 → ∀ (l18 : List Value) (w16 : World) (hS17 : St w0 Z (fs) w16),Runs Tryz.prog (fx 97) td203 (fill (mk 55 [(0,.string a0),(1,.int .i64 a1),(2,.int .i64 a2),(9,.int .u64 t13),(10,.bool t14),(11,.int .i64 t15)]) l18) w16 R) ?_
   intro rec23 ih22 t13 t14 t15 e19 hb21 he20 l18 w16 hS17
   refine sS 9 (iR p97_3 6 10::td205) 18 (decide ((IntKind.i64.wrap (a1 + t15)) < (a0.size : Int))) (fun h25 => ?_) fun h26 => ?_
   ·have hp27:=ite_t hb21 h25
    refine sR 5 (iR p97_3 11 5::td205) ?_
    obtain ⟨g28,hp29⟩:=ite_some hp27
    refine rV (.index 9 (.tmp 20) (.tmp 23)) (.int .u8 (byt a0 (IntKind.i64.wrap (a1 + t15)))) (fun o ho _ => x_indexStr (kk:=.i64) (by kernel_rfl) (by kernel_rfl) (by kernel_rfl) g28.1 g28.2 ho) ?_
    refine sR 1 (.inRegion (opsOf p97_3) [13,14,15]::td205) ?_
    obtain ⟨t30,hr31,hp32⟩:=bind_some' hp29
    refine rC (weirref04_digit.ok (byt a0 (IntKind.i64.wrap (a1 + t15))) a2 hS17 hr31) ?_
    rintro _ w33 ⟨rfl,hS34⟩
    refine ⟨_,rfl,?_⟩
    refine sS 1 (.inRegion (opsOf p97_3) [15]::td205) 27 (decide (t30 ≥ 0)) (fun h35 => ?_) fun h36 => ?_
    ·have hp37:=ite_t hp32 h35
     refine sR 11 (iR p97_6 4 5::.code p97_7::td206) ?_
     obtain ⟨g38,hp39⟩:=ite_some hp37
     refine rV (.index 9 (.tmp 29) (.tmp 32)) (.int .u8 (byt a0 (IntKind.i64.wrap (a1 + t15)))) (fun o ho _ => x_indexStr (kk:=.i64) (by kernel_rfl) (by kernel_rfl) (by kernel_rfl) g38.1 g38.2 ho) ?_
     refine sR 1 (.inRegion (opsOf p97_6) [6,7,8]::.code p97_7::td206) ?_
     obtain ⟨t40,hr41,hp42⟩:=bind_some' hp39
     refine rC (weirref04_digit.ok (byt a0 (IntKind.i64.wrap (a1 + t15))) a2 hS34 hr41) ?_
     rintro _ w43 ⟨rfl,hS44⟩
     refine ⟨_,rfl,?_⟩
     refine sR 11 (.inRegion (opsOf p97_8) [5,6]::.code p97_9::td207) ?_
     obtain ⟨g45,hp46⟩:=ite_some hp42
     refine rV (.binOp .quo 143 (.tmp 39) (.tmp 41) 143) (.int .u64 (IntKind.u64.wrap ((IntKind.u64.wrap (18446744073709551615 - (IntKind.u64.wrap t40))).tdiv (IntKind.u64.wrap a2)))) (fun o ho _ => (x_div (by kernel_rfl) (by kernel_rfl) g45).1 ho) ?_
     obtain ⟨v47,hv48,hp49⟩:=bind_some' hp46
     have J53 : ∀ (t50 : Bool) (he55 : t50 = v47) (l54 : List Value) (w51 : World) (hS52 : St w0 Z (fs) w51),Runs Tryz.prog (fx 97) td207 (fill (mk 55 [(0,.string a0),(1,.int .i64 a1),(2,.int .i64 a2),(9,.int .u64 t13),(10,.bool t50),(11,.int .i64 t15),(12,.int .u64 (IntKind.u64.wrap t40))]) l54) w51 R:=by
      intro t50 he55 l54 w51 hS52
      subst he55
      try dsimp only at hp49
      refine sR 16 td202 ?_
      refine sR 1 td203 ?_
      refine rF (mk 55 [(0,.string a0),(1,.int .i64 a1),(2,.int .i64 a2),(9,.int .u64 (IntKind.u64.wrap ((IntKind.u64.wrap (t13 * (IntKind.u64.wrap a2))) + (IntKind.u64.wrap t40)))),(10,.bool t50),(11,.int .i64 (IntKind.i64.wrap (t15 + 1)))]) ?_
      exact ih22 (IntKind.u64.wrap ((IntKind.u64.wrap (t13 * (IntKind.u64.wrap a2))) + (IntKind.u64.wrap t40))) t50 (IntKind.i64.wrap (t15 + 1)) _ hp49 he20 _ _ hS52
     refine sS 1 (.inRegion (opsOf p97_8) []::.code p97_9::td207) 43 (decide (t13 > (IntKind.u64.wrap ((IntKind.u64.wrap (18446744073709551615 - (IntKind.u64.wrap t40))).tdiv (IntKind.u64.wrap a2))))) (fun h56 => ?_) fun h57 => ?_
     ·have hp58:=ite_t hv48 h56
      refine sR 5 td207 ?_
      refine rF (mk 55 [(0,.string a0),(1,.int .i64 a1),(2,.int .i64 a2),(9,.int .u64 t13),(10,.bool true),(11,.int .i64 t15),(12,.int .u64 (IntKind.u64.wrap t40))]) ?_
      exact J53 true (Option.some.inj hp58) _ _ hS44
     have hp59:=ite_f hv48 h57
     refine sR 3 td207 ?_
     refine rF (mk 55 [(0,.string a0),(1,.int .i64 a1),(2,.int .i64 a2),(9,.int .u64 t13),(10,.bool t14),(11,.int .i64 t15),(12,.int .u64 (IntKind.u64.wrap t40))]) ?_
     exact J53 t14 (Option.some.inj hp59) _ _ hS44
    have hp60:=ite_f hp32 h36
    refine sR 4 td200 ?_
    refine rF (mk 55 [(9,.int .u64 t13),(10,.bool t14),(11,.int .i64 t15)]) ?_
    exact J9 t13 t14 t15 ((Option.some.inj hp60).trans he20) _ _ hS34
   have hp61:=ite_f hb21 h26
   refine sR 13 td200 ?_
   refine rF (mk 55 [(9,.int .u64 t13),(10,.bool t14),(11,.int .i64 t15)]) ?_
   exact J9 t13 t14 t15 ((Option.some.inj hp61).trans he20) _ _ hS17
  refine rF (mk 55 [(0,.string a0),(1,.int .i64 a1),(2,.int .i64 a2),(9,.int .u64 0),(10,.bool false),(11,.int .i64 0)]) ?_
  exact L24 0 false 0 _ hv2 rfl _ _ hS0

noncomputable def cd93 (p : List Nat) : Code := sub (bodyOf Tryz.f93) p
abbrev p93_2:=cd93 [1,1]
abbrev p93_13:=cd93 [1,1,1,1,1,1,1,0,0]
abbrev p93_16:=cd93 [1,1,1,1,1,1,1,1,0,0]
abbrev p93_20:=cd93 [1,1,1,1,1,1,1,1,1,1]
abbrev p93_22:=cd93 [1,1,1,1,1,1,1,1,0,1,0,1]
abbrev p93_23:=cd93 [1,1,1,1,1,1,1,0,1,0,0]
abbrev p93_24:=cd93 [1,1,1,1,1,1,1,0,1,0,1]
abbrev p93_25:=cd93 [1,1,1,1,1,1,1,0,1,0,1,0]
abbrev p93_26:=cd93 [1,1,1,1,1,1,1,0,1,0,1,1]
abbrev p93_27:=cd93 [1,1,1,0]
abbrev p93_28:=cd93 [1,1,1,1]
abbrev td208:List Item:=[.code (cd93 [1,1,1,1,1])]
abbrev td209:List Item:=.code (cd93 [1,1,1,1,0,1])::td208
abbrev td210:List Item:=.code (cd93 [1,1,1,1,0,0])::td209
abbrev td211:List Item:=[.code (cd93 [1,1,1,1,1,1,1,1])]
abbrev td212:List Item:=.code (cd93 [1,1,1,1,1,1,1,0,1])::td211
abbrev td213:List Item:=[.code (cd93 [1,1,1,1,1,1,1,1,1])]
abbrev td214:List Item:=.code (cd93 [1,1,1,1,1,1,1,1,0,1])::td213
def weirref04_Next.f (a0 : ByteArray) (a1 : Int) : Option (Int × Int × Int) :=
  (if (decide (a1 < 0)) = true then some ((0,0,40)) else (if (decide (a1 > (a0.size : Int))) = true then some ((0,0,40)) else (((if (decide (a1 < (a0.size : Int))) = true then (if 0 ≤ a1 ∧ a1 < (a0.size : Int) then (if ((byt a0 a1) == 45) = true then some (true) else some (false)) else none) else some (false)) : Option Bool) >>= (fun t14 => (((if t14 = true then some (((IntKind.i64.wrap (a1 + 1)),true)) else some ((a1,false))) : Option (Int × Bool)) >>= (fun (t23,t24) => (weirref04_digits.f a0 t23 10 >>= (fun (t30,t31,t32) => (if (t32 == 0) = true then some ((0,0,40)) else (if 0 ≤ t23 ∧ t23 < (a0.size : Int) then (((if ((byt a0 t23) == 48) = true then (if (decide ((IntKind.i64.wrap (t23 + 1)) < (a0.size : Int))) = true then (if 0 ≤ (IntKind.i64.wrap (t23 + 1)) ∧ (IntKind.i64.wrap (t23 + 1)) < (a0.size : Int) then (if ((byt a0 (IntKind.i64.wrap (t23 + 1))) == 120) = true then (weirref04_digits.f a0 (IntKind.i64.wrap (t23 + 2)) 16 >>= (fun (t98,t99,t100) => (if (decide (t100 > 0)) = true then some ((t98,t99,(IntKind.i64.wrap (t100 + 2)))) else some ((t30,t31,t32))))) else (if 0 ≤ (IntKind.i64.wrap (t23 + 1)) ∧ (IntKind.i64.wrap (t23 + 1)) < (a0.size : Int) then (if ((byt a0 (IntKind.i64.wrap (t23 + 1))) == 88) = true then (weirref04_digits.f a0 (IntKind.i64.wrap (t23 + 2)) 16 >>= (fun (t115,t116,t117) => (if (decide (t117 > 0)) = true then some ((t115,t116,(IntKind.i64.wrap (t117 + 2)))) else some ((t30,t31,t32))))) else some ((t30,t31,t32))) else none)) else none) else some ((t30,t31,t32))) else some ((t30,t31,t32))) : Option (Int × Bool × Int)) >>= (fun (t47,t48,t49) => (((if t48 = true then some (.inr ((0,0,41))) else (if t24 = true then (if (decide (t47 > 9223372036854775808)) = true then some (.inr ((0,0,41))) else some (.inl true)) else some (.inl false))) : Option (Sum Bool (Int × Int × Int))) >>= (fun | .inl t58 => (((if t58 = true then some ((IntKind.u64.wrap (0 - t47))) else some (t47)) : Option Int) >>= (fun t68 => some (((IntKind.i64.wrap t68),(IntKind.i64.wrap ((IntKind.i64.wrap (t23 + t49)) - a1)),0)))) | .inr e => some e)))) else none))))))))))
set_option maxHeartbeats 16000000 in
theorem weirref04_Next.ok (a0 : ByteArray) (a1 : Int) {w0 : World} {Z : Zm} {fs : List XObj} {w : World} (hS0 : St w0 Z (fs) w) {q0 : Int} {q1 : Int} {q2 : Int} (hp0 : weirref04_Next.f a0 a1 = some (q0,q1,q2)) :
    Calls Tryz.prog 93 #[.string a0,.int .i64 a1] w (fun e w' => e = .returned (.tuple #[.int .i64 q0,.int .i64 q1,.int .i64 q2]) ∧ St w0 Z (fs) w'):=by
  refine calls_abs ?_; intro R hR
  unfold weirref04_Next.f at hp0
  refine calls_of_runs (fn:=Tryz.f93) (c:=cd93 []) Tryz.func93 (by kernel_rfl) (al:=[.string a0,.int .i64 a1]) rfl (n:=101) rfl ?_
  refine sS 11 [iR (cd93 [1,0,0]) 2 6,.code (cd93 [1,0,1]),.code p93_2] 16 (decide (a1 < 0)) (fun h1 => ?_) fun h2 => ?_
  ·have hp3:=ite_t hp0 h1
   refine sR 14 [.code (cd93 [1,0,1,0,1]),.code p93_2] ?_
   refine rR (.tuple #[.int .i64 0,.int .i64 0,.int .i64 40]) Tryz.func93 ?_
   cases Option.some.inj hp3
   exact hR _ _ ⟨rfl,hS0⟩
  have hp5:=ite_f hp0 h2
  refine sS 5 [.inRegion (opsOf (cd93 [1,0,0])) [7],.code (cd93 [1,0,1]),.code p93_2] 21 (decide (a1 > (a0.size : Int))) (fun h6 => ?_) fun h7 => ?_
  ·have hp8:=ite_t hp5 h6
   refine sR 9 [.code (cd93 [1,0,1,0,1]),.code p93_2] ?_
   refine rR (.tuple #[.int .i64 0,.int .i64 0,.int .i64 40]) Tryz.func93 ?_
   cases Option.some.inj hp8
   exact hR _ _ ⟨rfl,hS0⟩
  have hp10:=ite_f hp5 h7
  obtain ⟨v11,hv12,hp13⟩:=bind_some' hp10
  have J17 : ∀ (t14 : Bool) (he19 : t14 = v11) (l18 : List Value) (w15 : World) (hS16 : St w0 Z (fs) w15),Runs Tryz.prog (fx 93) td210 (fill (mk 103 [(0,.string a0),(1,.int .i64 a1),(7,.int .i64 a1),(8,.bool t14)]) l18) w15 R:=by
   intro t14 he19 l18 w15 hS16
   subst he19
   try dsimp only at hp13
   refine sR 3 td209 ?_
   obtain ⟨v20,hv21,hp22⟩:=bind_some' hp13
   have J27 : ∀ (t23 : Int) (t24 : Bool) (he29 : (t23,t24) = v20) (l28 : List Value) (w25 : World) (hS26 : St w0 Z (fs) w25),Runs Tryz.prog (fx 93) td208 (fill (mk 103 [(0,.string a0),(1,.int .i64 t23),(7,.int .i64 a1),(8,.bool t24)]) l28) w25 R:=by
    intro t23 t24 he29 l28 w25 hS26
    subst he29
    try dsimp only at hp22
    refine sR 4 [iR (cd93 [1,1,1,1,1,0]) 2 8,.code (cd93 [1,1,1,1,1,1])] ?_
    obtain ⟨⟨t30,t31,t32⟩,hr33,hp34⟩:=bind_some' hp22
    try dsimp only at hp34
    refine rC (weirref04_digits.ok a0 t23 10 hS26 hr33) ?_
    rintro _ w35 ⟨rfl,hS36⟩
    refine ⟨_,rfl,?_⟩
    refine sS 13 [.inRegion (opsOf (cd93 [1,1,1,1,1,1,0,0])) [],.code (cd93 [1,1,1,1,1,1,0,1]),.code (cd93 [1,1,1,1,1,1,1])] 45 (t32 == 0) (fun h37 => ?_) fun h38 => ?_
    ·have hp39:=ite_t hp34 h37
     refine sR 8 [.code (cd93 [1,1,1,1,1,1,0,1,0,1]),.code (cd93 [1,1,1,1,1,1,1])] ?_
     refine rR (.tuple #[.int .i64 0,.int .i64 0,.int .i64 40]) Tryz.func93 ?_
     cases Option.some.inj hp39
     exact hR _ _ ⟨rfl,hS36⟩
    have hp41:=ite_f hp34 h38
    refine sR 8 (iR p93_13 2 23::td212) ?_
    obtain ⟨g42,hp43⟩:=ite_some hp41
    refine rV (.index 9 (.tmp 46) (.tmp 47)) (.int .u8 (byt a0 t23)) (fun o ho _ => x_indexStr (kk:=.i64) (by kernel_rfl) (by kernel_rfl) (by kernel_rfl) g42.1 g42.2 ho) ?_
    obtain ⟨v44,hv45,hp46⟩:=bind_some' hp43
    have J52 : ∀ (t47 : Int) (t48 : Bool) (t49 : Int) (he54 : (t47,t48,t49) = v44) (l53 : List Value) (w50 : World) (hS51 : St w0 Z (fs) w50),Runs Tryz.prog (fx 93) td211 (fill (mk 103 [(1,.int .i64 t23),(7,.int .i64 a1),(8,.bool t24),(9,.int .u64 t47),(10,.bool t48),(11,.int .i64 t49)]) l53) w50 R:=by
     intro t47 t48 t49 he54 l53 w50 hS51
     subst he54
     try dsimp only at hp46
     refine sR 5 (iR p93_16 2 6::td214) ?_
     obtain ⟨v55,hv56,hp57⟩:=bind_some' hp46
     have hq61 : ∀ x,Sum.inr x = v55 → x = (q0,q1,q2):=by intro x hx; subst hx; simpa using hp57
     have J62 : ∀ (t58 : Bool) (he64 : Sum.inl t58 = v55) (l63 : List Value) (w59 : World) (hS60 : St w0 Z (fs) w59),Runs Tryz.prog (fx 93) td213 (fill (mk 103 [(1,.int .i64 t23),(7,.int .i64 a1),(8,.bool t58),(9,.int .u64 t47),(11,.int .i64 t49)]) l63) w59 R:=by
      intro t58 he64 l63 w59 hS60
      subst he64
      try dsimp only at hp57
      refine sR 5 [.code (cd93 [1,1,1,1,1,1,1,1,1,0,1]),.code p93_20] ?_
      obtain ⟨v65,hv66,hp67⟩:=bind_some' hp57
      have J71 : ∀ (t68 : Int) (he73 : t68 = v65) (l72 : List Value) (w69 : World) (hS70 : St w0 Z (fs) w69),Runs Tryz.prog (fx 93) [.code p93_20] (fill (mk 103 [(1,.int .i64 t23),(7,.int .i64 a1),(9,.int .u64 t68),(11,.int .i64 t49)]) l72) w69 R:=by
       intro t68 he73 l72 w69 hS70
       subst he73
       try dsimp only at hp67
       refine sR 13 [.code (cd93 [1,1,1,1,1,1,1,1,1,1,1])] ?_
       refine rR (.tuple #[.int .i64 (IntKind.i64.wrap t68),.int .i64 (IntKind.i64.wrap ((IntKind.i64.wrap (t23 + t49)) - a1)),.int .i64 0]) Tryz.func93 ?_
       cases Option.some.inj hp67
       exact hR _ _ ⟨rfl,hS70⟩
      cases t58
      ·have hp75:=ite_f hv66 rfl
       refine sR 2 [.code p93_20] ?_
       refine rF (mk 103 [(1,.int .i64 t23),(7,.int .i64 a1),(9,.int .u64 t47),(11,.int .i64 t49)]) ?_
       exact J71 t47 (Option.some.inj hp75) _ _ hS60
      have hp76:=ite_t hv66 rfl
      refine sR 6 [.code p93_20] ?_
      refine rF (mk 103 [(1,.int .i64 t23),(7,.int .i64 a1),(9,.int .u64 (IntKind.u64.wrap (0 - t47))),(11,.int .i64 t49)]) ?_
      exact J71 (IntKind.u64.wrap (0 - t47)) (Option.some.inj hp76) _ _ hS60
     cases t48
     ·have hp77:=ite_f hv56 rfl
      refine sR 2 (iR p93_16 4 4::td214) ?_
      cases t24
      ·have hp78:=ite_f hp77 rfl
       refine sR 7 td213 ?_
       refine rF (mk 103 [(1,.int .i64 t23),(7,.int .i64 a1),(8,.bool false),(9,.int .u64 t47),(11,.int .i64 t49)]) ?_
       exact J62 false (Option.some.inj hp78) _ _ hS51
      have hp79:=ite_t hp77 rfl
      refine sS 2 (.inRegion (opsOf p93_16) [6,7]::td214) 90 (decide (t47 > 9223372036854775808)) (fun h80 => ?_) fun h81 => ?_
      ·have hp82:=ite_t hp79 h80
       refine sR 10 (.code p93_22::td213) ?_
       refine rR (.tuple #[.int .i64 0,.int .i64 0,.int .i64 41]) Tryz.func93 ?_
       cases hq61 _ (Option.some.inj hp82)
       exact hR _ _ ⟨rfl,hS51⟩
      have hp84:=ite_f hp79 h81
      refine sR 5 td213 ?_
      refine rF (mk 103 [(1,.int .i64 t23),(7,.int .i64 a1),(8,.bool true),(9,.int .u64 t47),(11,.int .i64 t49)]) ?_
      exact J62 true (Option.some.inj hp84) _ _ hS51
     have hp85:=ite_t hv56 rfl
     refine sR 14 (.code p93_22::td213) ?_
     refine rR (.tuple #[.int .i64 0,.int .i64 0,.int .i64 41]) Tryz.func93 ?_
     cases hq61 _ (Option.some.inj hp85)
     exact hR _ _ ⟨rfl,hS51⟩
    refine sS 1 (iR p93_13 4 21::td212) 49 ((byt a0 t23) == 48) (fun h87 => ?_) fun h88 => ?_
    ·have hp89:=ite_t hv45 h87
     refine sS 6 (iR p93_13 10 15::td212) 55 (decide ((IntKind.i64.wrap (t23 + 1)) < (a0.size : Int))) (fun h90 => ?_) fun h91 => ?_
     ·have hp92:=ite_t hp89 h90
      refine sR 5 (iR p93_13 15 10::td212) ?_
      obtain ⟨g93,hp94⟩:=ite_some hp92
      refine rV (.index 9 (.tmp 58) (.tmp 60)) (.int .u8 (byt a0 (IntKind.i64.wrap (t23 + 1)))) (fun o ho _ => x_indexStr (kk:=.i64) (by kernel_rfl) (by kernel_rfl) (by kernel_rfl) g93.1 g93.2 ho) ?_
      refine sS 1 (iR p93_13 17 8::td212) 62 ((byt a0 (IntKind.i64.wrap (t23 + 1))) == 120) (fun h95 => ?_) fun h96 => ?_
      ·have hp97:=ite_t hp94 h95
       refine sR 15 (iR p93_23 3 8::.code p93_24::td211) ?_
       obtain ⟨⟨t98,t99,t100⟩,hr101,hp102⟩:=bind_some' hp97
       try dsimp only at hp102
       refine rC (weirref04_digits.ok a0 (IntKind.i64.wrap (t23 + 2)) 16 hS36 hr101) ?_
       rintro _ w103 ⟨rfl,hS104⟩
       refine ⟨_,rfl,?_⟩
       refine sS 12 (.inRegion (opsOf p93_25) []::.code p93_26::td211) 80 (decide (t100 > 0)) (fun h105 => ?_) fun h106 => ?_
       ·have hp107:=ite_t hp102 h105
        refine sR 17 td211 ?_
        refine rF (mk 103 [(1,.int .i64 t23),(7,.int .i64 a1),(8,.bool t24),(9,.int .u64 t98),(10,.bool t99),(11,.int .i64 (IntKind.i64.wrap (t100 + 2)))]) ?_
        exact J52 t98 t99 (IntKind.i64.wrap (t100 + 2)) (Option.some.inj hp107) _ _ hS104
       have hp108:=ite_f hp102 h106
       refine sR 3 td211 ?_
       refine rF (mk 103 [(1,.int .i64 t23),(7,.int .i64 a1),(8,.bool t24),(9,.int .u64 t30),(10,.bool t31),(11,.int .i64 t32)]) ?_
       exact J52 t30 t31 t32 (Option.some.inj hp108) _ _ hS104
      have hp109:=ite_f hp94 h96
      refine sR 4 (iR p93_13 21 4::td212) ?_
      obtain ⟨g110,hp111⟩:=ite_some hp109
      refine rV (.index 9 (.tmp 64) (.tmp 66)) (.int .u8 (byt a0 (IntKind.i64.wrap (t23 + 1)))) (fun o ho _ => x_indexStr (kk:=.i64) (by kernel_rfl) (by kernel_rfl) (by kernel_rfl) g110.1 g110.2 ho) ?_
      refine sS 1 (.inRegion (opsOf p93_13) [23,24]::td212) 68 ((byt a0 (IntKind.i64.wrap (t23 + 1))) == 88) (fun h112 => ?_) fun h113 => ?_
      ·have hp114:=ite_t hp111 h112
       refine sR 9 (iR p93_23 3 8::.code p93_24::td211) ?_
       obtain ⟨⟨t115,t116,t117⟩,hr118,hp119⟩:=bind_some' hp114
       try dsimp only at hp119
       refine rC (weirref04_digits.ok a0 (IntKind.i64.wrap (t23 + 2)) 16 hS36 hr118) ?_
       rintro _ w120 ⟨rfl,hS121⟩
       refine ⟨_,rfl,?_⟩
       refine sS 12 (.inRegion (opsOf p93_25) []::.code p93_26::td211) 80 (decide (t117 > 0)) (fun h122 => ?_) fun h123 => ?_
       ·have hp124:=ite_t hp119 h122
        refine sR 17 td211 ?_
        refine rF (mk 103 [(1,.int .i64 t23),(7,.int .i64 a1),(8,.bool t24),(9,.int .u64 t115),(10,.bool t116),(11,.int .i64 (IntKind.i64.wrap (t117 + 2)))]) ?_
        exact J52 t115 t116 (IntKind.i64.wrap (t117 + 2)) (Option.some.inj hp124) _ _ hS121
       have hp125:=ite_f hp119 h123
       refine sR 3 td211 ?_
       refine rF (mk 103 [(1,.int .i64 t23),(7,.int .i64 a1),(8,.bool t24),(9,.int .u64 t30),(10,.bool t31),(11,.int .i64 t32)]) ?_
       exact J52 t30 t31 t32 (Option.some.inj hp125) _ _ hS121
      have hp126:=ite_f hp111 h113
      refine sR 5 td211 ?_
      refine rF (mk 103 [(1,.int .i64 t23),(7,.int .i64 a1),(8,.bool t24),(9,.int .u64 t30),(10,.bool t31),(11,.int .i64 t32)]) ?_
      exact J52 t30 t31 t32 (Option.some.inj hp126) _ _ hS36
     have hp127:=ite_f hp89 h91
     refine sR 18 td211 ?_
     refine rF (mk 103 [(1,.int .i64 t23),(7,.int .i64 a1),(8,.bool t24),(9,.int .u64 t30),(10,.bool t31),(11,.int .i64 t32)]) ?_
     exact J52 t30 t31 t32 (Option.some.inj hp127) _ _ hS36
    have hp128:=ite_f hv45 h88
    refine sR 24 td211 ?_
    refine rF (mk 103 [(1,.int .i64 t23),(7,.int .i64 a1),(8,.bool t24),(9,.int .u64 t30),(10,.bool t31),(11,.int .i64 t32)]) ?_
    exact J52 t30 t31 t32 (Option.some.inj hp128) _ _ hS36
   cases t14
   ·have hp129:=ite_f hv21 rfl
    refine sR 2 td208 ?_
    refine rF (mk 103 [(0,.string a0),(1,.int .i64 a1),(7,.int .i64 a1),(8,.bool false)]) ?_
    exact J27 a1 false (Option.some.inj hp129) _ _ hS16
   have hp130:=ite_t hv21 rfl
   refine sR 6 td208 ?_
   refine rF (mk 103 [(0,.string a0),(1,.int .i64 (IntKind.i64.wrap (a1 + 1))),(7,.int .i64 a1),(8,.bool true)]) ?_
   exact J27 (IntKind.i64.wrap (a1 + 1)) true (Option.some.inj hp130) _ _ hS16
  refine sS 15 [iR p93_27 4 7,.code p93_28] 27 (decide (a1 < (a0.size : Int))) (fun h131 => ?_) fun h132 => ?_
  ·have hp133:=ite_t hv12 h131
   refine sR 3 [iR p93_27 7 4,.code p93_28] ?_
   obtain ⟨g134,hp135⟩:=ite_some hp133
   refine rV (.index 9 (.tmp 29) (.tmp 30)) (.int .u8 (byt a0 a1)) (fun o ho _ => x_indexStr (kk:=.i64) (by kernel_rfl) (by kernel_rfl) (by kernel_rfl) g134.1 g134.2 ho) ?_
   refine sS 1 [.inRegion (opsOf p93_27) [9,10],.code p93_28] 32 ((byt a0 a1) == 45) (fun h136 => ?_) fun h137 => ?_
   ·have hp138:=ite_t hp135 h136
    refine sR 5 td210 ?_
    refine rF (mk 103 [(0,.string a0),(1,.int .i64 a1),(7,.int .i64 a1),(8,.bool true)]) ?_
    exact J17 true (Option.some.inj hp138) _ _ hS0
   have hp139:=ite_f hp135 h137
   refine sR 5 td210 ?_
   refine rF (mk 103 [(0,.string a0),(1,.int .i64 a1),(7,.int .i64 a1),(8,.bool false)]) ?_
   exact J17 false (Option.some.inj hp139) _ _ hS0
  have hp140:=ite_f hv12 h132
  refine sR 10 td210 ?_
  refine rF (mk 103 [(0,.string a0),(1,.int .i64 a1),(7,.int .i64 a1),(8,.bool false)]) ?_
  exact J17 false (Option.some.inj hp140) _ _ hS0

noncomputable def cd94 (p : List Nat) : Code := sub (bodyOf Tryz.f94) p
abbrev p94_2:=cd94 [1,1,1]
abbrev p94_5:=cd94 [1,1,1,1,0,0]
abbrev p94_8:=cd94 [1,1,1,1,0,1,0,0]
abbrev p94_9:=cd94 [1,1,1,1,0,1,0,1]
abbrev p94_10:=cd94 [1,1,1,1,0,1,0,1,0]
abbrev p94_11:=cd94 [1,1,1,1,0,1,0,1,1]
abbrev td215:List Item:=[.code (cd94 [1,1,1,1,1])]
abbrev td216:List Item:=.code (cd94 [1,1,1,1,0,1])::td215
abbrev td217:List Item:=[.code (cd94 [1,1,1,1,1,1])]
def weirref04_whole.f (a0 : ByteArray) : Option Int :=
  (if 0 ≤ (0 : Int) ∧ (0 : Int) < (a0.size : Int) then (((if ((byt a0 (0 : Int)) == 45) = true then some (1) else some (0)) : Option Int) >>= (fun t6 => (weirref04_digits.f a0 t6 10 >>= (fun (t12,t13,t14) => (if 0 ≤ t6 ∧ t6 < (a0.size : Int) then (if ((byt a0 t6) == 48) = true then (if (decide ((IntKind.i64.wrap (t6 + 1)) < (a0.size : Int))) = true then (if 0 ≤ (IntKind.i64.wrap (t6 + 1)) ∧ (IntKind.i64.wrap (t6 + 1)) < (a0.size : Int) then (if ((byt a0 (IntKind.i64.wrap (t6 + 1))) == 120) = true then (weirref04_digits.f a0 (IntKind.i64.wrap (t6 + 2)) 16 >>= (fun (t32,t33,t34) => (if (decide (t34 > 0)) = true then some ((IntKind.i64.wrap (t6 + (IntKind.i64.wrap (t34 + 2))))) else some ((IntKind.i64.wrap (t6 + t14)))))) else (if 0 ≤ (IntKind.i64.wrap (t6 + 1)) ∧ (IntKind.i64.wrap (t6 + 1)) < (a0.size : Int) then (if ((byt a0 (IntKind.i64.wrap (t6 + 1))) == 88) = true then (weirref04_digits.f a0 (IntKind.i64.wrap (t6 + 2)) 16 >>= (fun (t51,t52,t53) => (if (decide (t53 > 0)) = true then some ((IntKind.i64.wrap (t6 + (IntKind.i64.wrap (t53 + 2))))) else some ((IntKind.i64.wrap (t6 + t14)))))) else some ((IntKind.i64.wrap (t6 + t14)))) else none)) else none) else some ((IntKind.i64.wrap (t6 + t14)))) else some ((IntKind.i64.wrap (t6 + t14)))) else none))))) else none)
set_option maxHeartbeats 16000000 in
theorem weirref04_whole.ok (a0 : ByteArray) {w0 : World} {Z : Zm} {fs : List XObj} {w : World} (hS0 : St w0 Z (fs) w) {q0 : Int} (hp0 : weirref04_whole.f a0 = some q0) :
    Calls Tryz.prog 94 #[.string a0] w (fun e w' => e = .returned (.int .i64 q0) ∧ St w0 Z (fs) w'):=by
  refine calls_abs ?_; intro R hR
  unfold weirref04_whole.f at hp0
  refine calls_of_runs (fn:=Tryz.f94) (c:=cd94 []) Tryz.func94 (by kernel_rfl) (al:=[.string a0]) rfl (n:=59) rfl ?_
  refine sR 12 [.inRegion (opsOf (cd94 [1,1,0,0])) [1,2],.code (cd94 [1,1,0,1]),.code p94_2] ?_
  obtain ⟨g1,hp2⟩:=ite_some hp0
  refine rV (.index 9 (.tmp 10) (.const (.int .i64 0))) (.int .u8 (byt a0 (0 : Int))) (fun o ho _ => x_indexStr (kk:=.i64) (by kernel_rfl) (by kernel_rfl) (by kernel_rfl) g1.1 g1.2 ho) ?_
  obtain ⟨v3,hv4,hp5⟩:=bind_some' hp2
  have J9 : ∀ (t6 : Int) (he11 : t6 = v3) (l10 : List Value) (w7 : World) (hS8 : St w0 Z (fs) w7),Runs Tryz.prog (fx 94) [.code p94_2] (fill (mk 60 [(0,.string a0),(3,.int .i64 t6)]) l10) w7 R:=by
   intro t6 he11 l10 w7 hS8
   subst he11
   try dsimp only at hp5
   refine sR 4 [iR (cd94 [1,1,1,0]) 2 8,.code (cd94 [1,1,1,1])] ?_
   obtain ⟨⟨t12,t13,t14⟩,hr15,hp16⟩:=bind_some' hp5
   try dsimp only at hp16
   refine rC (weirref04_digits.ok a0 t6 10 hS8 hr15) ?_
   rintro _ w17 ⟨rfl,hS18⟩
   refine ⟨_,rfl,?_⟩
   refine sR 13 (iR p94_5 2 23::td216) ?_
   obtain ⟨g19,hp20⟩:=ite_some hp16
   refine rV (.index 9 (.tmp 20) (.tmp 21)) (.int .u8 (byt a0 t6)) (fun o ho _ => x_indexStr (kk:=.i64) (by kernel_rfl) (by kernel_rfl) (by kernel_rfl) g19.1 g19.2 ho) ?_
   refine sS 1 (iR p94_5 4 21::td216) 23 ((byt a0 t6) == 48) (fun h21 => ?_) fun h22 => ?_
   ·have hp23:=ite_t hp20 h21
    refine sS 6 (iR p94_5 10 15::td216) 29 (decide ((IntKind.i64.wrap (t6 + 1)) < (a0.size : Int))) (fun h24 => ?_) fun h25 => ?_
    ·have hp26:=ite_t hp23 h24
     refine sR 5 (iR p94_5 15 10::td216) ?_
     obtain ⟨g27,hp28⟩:=ite_some hp26
     refine rV (.index 9 (.tmp 32) (.tmp 34)) (.int .u8 (byt a0 (IntKind.i64.wrap (t6 + 1)))) (fun o ho _ => x_indexStr (kk:=.i64) (by kernel_rfl) (by kernel_rfl) (by kernel_rfl) g27.1 g27.2 ho) ?_
     refine sS 1 (iR p94_5 17 8::td216) 36 ((byt a0 (IntKind.i64.wrap (t6 + 1))) == 120) (fun h29 => ?_) fun h30 => ?_
     ·have hp31:=ite_t hp28 h29
      refine sR 15 (iR p94_8 3 8::.code p94_9::td215) ?_
      obtain ⟨⟨t32,t33,t34⟩,hr35,hp36⟩:=bind_some' hp31
      try dsimp only at hp36
      refine rC (weirref04_digits.ok a0 (IntKind.i64.wrap (t6 + 2)) 16 hS18 hr35) ?_
      rintro _ w37 ⟨rfl,hS38⟩
      refine ⟨_,rfl,?_⟩
      refine sS 12 (.inRegion (opsOf p94_10) []::.code p94_11::td215) 54 (decide (t34 > 0)) (fun h39 => ?_) fun h40 => ?_
      ·have hp41:=ite_t hp36 h39
       refine sR 14 td217 ?_
       refine rR (.int .i64 (IntKind.i64.wrap (t6 + (IntKind.i64.wrap (t34 + 2))))) Tryz.func94 ?_
       cases Option.some.inj hp41
       exact hR _ _ ⟨rfl,hS38⟩
      have hp43:=ite_f hp36 h40
      refine sR 10 td217 ?_
      refine rR (.int .i64 (IntKind.i64.wrap (t6 + t14))) Tryz.func94 ?_
      cases Option.some.inj hp43
      exact hR _ _ ⟨rfl,hS38⟩
     have hp45:=ite_f hp28 h30
     refine sR 4 (iR p94_5 21 4::td216) ?_
     obtain ⟨g46,hp47⟩:=ite_some hp45
     refine rV (.index 9 (.tmp 38) (.tmp 40)) (.int .u8 (byt a0 (IntKind.i64.wrap (t6 + 1)))) (fun o ho _ => x_indexStr (kk:=.i64) (by kernel_rfl) (by kernel_rfl) (by kernel_rfl) g46.1 g46.2 ho) ?_
     refine sS 1 (.inRegion (opsOf p94_5) [23,24]::td216) 42 ((byt a0 (IntKind.i64.wrap (t6 + 1))) == 88) (fun h48 => ?_) fun h49 => ?_
     ·have hp50:=ite_t hp47 h48
      refine sR 9 (iR p94_8 3 8::.code p94_9::td215) ?_
      obtain ⟨⟨t51,t52,t53⟩,hr54,hp55⟩:=bind_some' hp50
      try dsimp only at hp55
      refine rC (weirref04_digits.ok a0 (IntKind.i64.wrap (t6 + 2)) 16 hS18 hr54) ?_
      rintro _ w56 ⟨rfl,hS57⟩
      refine ⟨_,rfl,?_⟩
      refine sS 12 (.inRegion (opsOf p94_10) []::.code p94_11::td215) 54 (decide (t53 > 0)) (fun h58 => ?_) fun h59 => ?_
      ·have hp60:=ite_t hp55 h58
       refine sR 14 td217 ?_
       refine rR (.int .i64 (IntKind.i64.wrap (t6 + (IntKind.i64.wrap (t53 + 2))))) Tryz.func94 ?_
       cases Option.some.inj hp60
       exact hR _ _ ⟨rfl,hS57⟩
      have hp62:=ite_f hp55 h59
      refine sR 10 td217 ?_
      refine rR (.int .i64 (IntKind.i64.wrap (t6 + t14))) Tryz.func94 ?_
      cases Option.some.inj hp62
      exact hR _ _ ⟨rfl,hS57⟩
     have hp64:=ite_f hp47 h49
     refine sR 12 td217 ?_
     refine rR (.int .i64 (IntKind.i64.wrap (t6 + t14))) Tryz.func94 ?_
     cases Option.some.inj hp64
     exact hR _ _ ⟨rfl,hS18⟩
    have hp66:=ite_f hp23 h25
    refine sR 25 td217 ?_
    refine rR (.int .i64 (IntKind.i64.wrap (t6 + t14))) Tryz.func94 ?_
    cases Option.some.inj hp66
    exact hR _ _ ⟨rfl,hS18⟩
   have hp68:=ite_f hp20 h22
   refine sR 31 td217 ?_
   refine rR (.int .i64 (IntKind.i64.wrap (t6 + t14))) Tryz.func94 ?_
   cases Option.some.inj hp68
   exact hR _ _ ⟨rfl,hS18⟩
  refine sS 1 [.inRegion (opsOf (cd94 [1,1,0,0])) [],.code (cd94 [1,1,0,1]),.code p94_2] 12 ((byt a0 (0 : Int)) == 45) (fun h70 => ?_) fun h71 => ?_
  ·have hp72:=ite_t hv4 h70
   refine sR 5 [.code p94_2] ?_
   refine rF (mk 60 [(0,.string a0),(3,.int .i64 1)]) ?_
   exact J9 1 (Option.some.inj hp72) _ _ hS0
  have hp73:=ite_f hv4 h71
  refine sR 3 [.code p94_2] ?_
  refine rF (mk 60 [(0,.string a0),(3,.int .i64 0)]) ?_
  exact J9 0 (Option.some.inj hp73) _ _ hS0

noncomputable def cd85 (p : List Nat) : Code := sub (bodyOf Tryz.f85) p
abbrev p85_2:=cd85 [1,1,1]
abbrev p85_5:=cd85 [1,1,1,1]
def weirref04_Parse.f (a0 : ByteArray) : Option (Int × Int) :=
  (weirref04_Next.f a0 0 >>= (fun (t1,t2,t3) => (((if (t3 == 41) = true then (weirref04_whole.f a0 >>= (fun t31 => some (t31))) else some (t2)) : Option Int) >>= (fun t11 => (if (t3 == 40) = true then some ((0,40)) else (if (t11 != (a0.size : Int)) = true then some ((0,40)) else some ((t1,t3))))))))
set_option maxHeartbeats 16000000 in
theorem weirref04_Parse.ok (a0 : ByteArray) {w0 : World} {Z : Zm} {fs : List XObj} {w : World} (hS0 : St w0 Z (fs) w) {q0 : Int} {q1 : Int} (hp0 : weirref04_Parse.f a0 = some (q0,q1)) :
    Calls Tryz.prog 85 #[.string a0] w (fun e w' => e = .returned (.tuple #[.int .i64 q0,.int .i64 q1]) ∧ St w0 Z (fs) w'):=by
  refine calls_abs ?_; intro R hR
  unfold weirref04_Parse.f at hp0
  refine calls_of_runs (fn:=Tryz.f85) (c:=cd85 []) Tryz.func85 (by kernel_rfl) (al:=[.string a0]) rfl (n:=26) rfl ?_
  refine sR 8 [iR (cd85 [1,0]) 1 8,.code (cd85 [1,1])] ?_
  obtain ⟨⟨t1,t2,t3⟩,hr4,hp5⟩:=bind_some' hp0
  try dsimp only at hp5
  refine rC (weirref04_Next.ok a0 0 hS0 hr4) ?_
  rintro _ w6 ⟨rfl,hS7⟩
  refine ⟨_,rfl,?_⟩
  obtain ⟨v8,hv9,hp10⟩:=bind_some' hp5
  have J14 : ∀ (t11 : Int) (he16 : t11 = v8) (l15 : List Value) (w12 : World) (hS13 : St w0 Z (fs) w12),Runs Tryz.prog (fx 85) [.code p85_2] (fill (mk 27 [(0,.string a0),(4,.int .i64 t1),(5,.int .i64 t11),(6,.int .i64 t3)]) l15) w12 R:=by
   intro t11 he16 l15 w12 hS13
   subst he16
   try dsimp only at hp10
   refine sS 5 [iR (cd85 [1,1,1,0,0]) 2 6,.code (cd85 [1,1,1,0,1]),.code p85_5] 18 (t3 == 40) (fun h17 => ?_) fun h18 => ?_
   ·have hp19:=ite_t hp10 h17
    refine sR 13 [.code (cd85 [1,1,1,0,1,0,1]),.code p85_5] ?_
    refine rR (.tuple #[.int .i64 0,.int .i64 40]) Tryz.func85 ?_
    cases Option.some.inj hp19
    exact hR _ _ ⟨rfl,hS13⟩
   have hp21:=ite_f hp10 h18
   refine sS 5 [.inRegion (opsOf (cd85 [1,1,1,0,0])) [7],.code (cd85 [1,1,1,0,1]),.code p85_5] 23 (t11 != (a0.size : Int)) (fun h22 => ?_) fun h23 => ?_
   ·have hp24:=ite_t hp21 h22
    refine sR 8 [.code (cd85 [1,1,1,0,1,0,1]),.code p85_5] ?_
    refine rR (.tuple #[.int .i64 0,.int .i64 40]) Tryz.func85 ?_
    cases Option.some.inj hp24
    exact hR _ _ ⟨rfl,hS13⟩
   have hp26:=ite_f hp21 h23
   refine sR 11 [.code (cd85 [1,1,1,1,1])] ?_
   refine rR (.tuple #[.int .i64 t1,.int .i64 t3]) Tryz.func85 ?_
   cases Option.some.inj hp26
   exact hR _ _ ⟨rfl,hS13⟩
  refine sS 13 [.inRegion (opsOf (cd85 [1,1,0,0])) [],.code (cd85 [1,1,0,1]),.code p85_2] 14 (t3 == 41) (fun h28 => ?_) fun h29 => ?_
  ·have hp30:=ite_t hv9 h28
   refine sR 4 [.inRegion (opsOf (cd85 [1,1,0,1,0])) [1,2],.code p85_2] ?_
   obtain ⟨t31,hr32,hp33⟩:=bind_some' hp30
   refine rC (weirref04_whole.ok a0 hS7 hr32) ?_
   rintro _ w34 ⟨rfl,hS35⟩
   refine ⟨_,rfl,?_⟩
   refine sR 2 [.code p85_2] ?_
   refine rF (mk 27 [(0,.string a0),(4,.int .i64 t1),(5,.int .i64 t31),(6,.int .i64 t3)]) ?_
   exact J14 t31 (Option.some.inj hp33) _ _ hS35
  have hp36:=ite_f hv9 h29
  refine sR 3 [.code p85_2] ?_
  refine rF (mk 27 [(0,.string a0),(4,.int .i64 t1),(5,.int .i64 t2),(6,.int .i64 t3)]) ?_
  exact J14 t2 (Option.some.inj hp36) _ _ hS7

noncomputable def cd83 (p : List Nat) : Code := sub (bodyOf Tryz.f83) p
abbrev p83_0:=cd83 [1,0,0]
abbrev p83_12:=cd83 [1,1,1,0,0,0,1,0,1,0]
abbrev p83_14:=cd83 [1,1,1,0,0,0,1,0,1,1,0,0]
abbrev p83_20:=cd83 [1,1,1,0,0,0,1,0,1,1,0,1,0]
abbrev td218:List Item:=[.code (cd83 [1,0,1]),.code (cd83 [1,1])]
abbrev td219:List Item:=[.code (cd83 [1,1,1,1])]
abbrev td220:List Item:=.inBlock 0::td219
abbrev td221:List Item:=.inLoop (cd83 [1,1,1,0,0,0])::td220
abbrev td222:List Item:=.code (cd83 [1,1,1,0,0,0])::td221
abbrev td223:List Item:=.inBlock 1::td221
abbrev td224:List Item:=.code (cd83 [1,1,1,0,0,0,1,0,1,1])::td223
abbrev td225:List Item:=.code (cd83 [1,1,1,0,0,0,1,0,1,1,1])::td223
abbrev td226:List Item:=.code (cd83 [1,1,1,0,0,0,1,0,1,1,0,1])::td225
abbrev td227:List Item:=.code p83_14::td226
def weirref05_name.l0 (a0 : ByteArray) (a1 : Int) (t28 : Int) : Option Int :=
  (if (decide ((IntKind.i64.wrap (a1 + t28)) < (a0.size : Int))) = true then (if 0 ≤ (IntKind.i64.wrap (a1 + t28)) ∧ (IntKind.i64.wrap (a1 + t28)) < (a0.size : Int) then (weirref05_letter.f (byt a0 (IntKind.i64.wrap (a1 + t28))) >>= (fun t43 => (((if t43 = true then some (true) else (weirref05_digit.f (byt a0 (IntKind.i64.wrap (a1 + t28))) >>= (fun t119 => (if t119 = true then some (true) else (if ((byt a0 (IntKind.i64.wrap (a1 + t28))) == 46) = true then some (true) else some (false)))))) : Option Bool) >>= (fun t51 => (((if ((byt a0 (IntKind.i64.wrap (a1 + t28))) == 43) = true then (if (decide ((IntKind.i64.wrap ((IntKind.i64.wrap (a1 + t28)) + 1)) < (a0.size : Int))) = true then (if 0 ≤ (IntKind.i64.wrap ((IntKind.i64.wrap (a1 + t28)) + 1)) ∧ (IntKind.i64.wrap ((IntKind.i64.wrap (a1 + t28)) + 1)) < (a0.size : Int) then (weirref05_letter.f (byt a0 (IntKind.i64.wrap ((IntKind.i64.wrap (a1 + t28)) + 1))) >>= (fun t78 => (if t78 = true then some (true) else (if 0 ≤ (IntKind.i64.wrap ((IntKind.i64.wrap (a1 + t28)) + 1)) ∧ (IntKind.i64.wrap ((IntKind.i64.wrap (a1 + t28)) + 1)) < (a0.size : Int) then (weirref05_digit.f (byt a0 (IntKind.i64.wrap ((IntKind.i64.wrap (a1 + t28)) + 1))) >>= (fun t86 => some (t86))) else none)))) else none) else some (t51)) else (if ((byt a0 (IntKind.i64.wrap (a1 + t28))) == 45) = true then (if (decide ((IntKind.i64.wrap ((IntKind.i64.wrap (a1 + t28)) + 1)) < (a0.size : Int))) = true then (if 0 ≤ (IntKind.i64.wrap ((IntKind.i64.wrap (a1 + t28)) + 1)) ∧ (IntKind.i64.wrap ((IntKind.i64.wrap (a1 + t28)) + 1)) < (a0.size : Int) then (weirref05_letter.f (byt a0 (IntKind.i64.wrap ((IntKind.i64.wrap (a1 + t28)) + 1))) >>= (fun t102 => (if t102 = true then some (true) else (if 0 ≤ (IntKind.i64.wrap ((IntKind.i64.wrap (a1 + t28)) + 1)) ∧ (IntKind.i64.wrap ((IntKind.i64.wrap (a1 + t28)) + 1)) < (a0.size : Int) then (weirref05_digit.f (byt a0 (IntKind.i64.wrap ((IntKind.i64.wrap (a1 + t28)) + 1))) >>= (fun t110 => some (t110))) else none)))) else none) else some (t51)) else some (t51))) : Option Bool) >>= (fun t60 => (if (!t60) = true then some (t28) else (weirref05_name.l0 a0 a1 (IntKind.i64.wrap (t28 + 1)))))))))) else none) else some (t28))
 partial_fixpoint
def weirref05_name.f (a0 : ByteArray) (a1 : Int) : Option Int :=
  (if (decide (a1 ≥ (a0.size : Int))) = true then some (0) else (if 0 ≤ a1 ∧ a1 < (a0.size : Int) then (weirref05_letter.f (byt a0 a1) >>= (fun t8 => (if (!t8) = true then some (0) else (weirref05_name.l0 a0 a1 1 >>= (fun t21 => some (t21)))))) else none))
set_option maxHeartbeats 16000000 in
theorem weirref05_name.ok (a0 : ByteArray) (a1 : Int) {w0 : World} {Z : Zm} {fs : List XObj} {w : World} (hS0 : St w0 Z (fs) w) {q0 : Int} (hp0 : weirref05_name.f a0 a1 = some q0) :
    Calls Tryz.prog 83 #[.string a0,.int .i64 a1] w (fun e w' => e = .returned (.int .i64 q0) ∧ St w0 Z (fs) w'):=by
  refine calls_abs ?_; intro R hR
  unfold weirref05_name.f at hp0
  refine calls_of_runs (fn:=Tryz.f83) (c:=cd83 []) Tryz.func83 (by kernel_rfl) (al:=[.string a0,.int .i64 a1]) rfl (n:=74) rfl ?_
  refine sS 11 (iR p83_0 4 7::td218) 11 (decide (a1 ≥ (a0.size : Int))) (fun h1 => ?_) fun h2 => ?_
  ·have hp3:=ite_t hp0 h1
   refine sR 13 [.code (cd83 [1,0,1,0,1]),.code (cd83 [1,1])] ?_
   refine rR (.int .i64 0) Tryz.func83 ?_
   cases Option.some.inj hp3
   exact hR _ _ ⟨rfl,hS0⟩
  have hp5:=ite_f hp0 h2
  refine sR 3 (iR p83_0 7 4::td218) ?_
  obtain ⟨g6,hp7⟩:=ite_some hp5
  refine rV (.index 9 (.tmp 13) (.tmp 14)) (.int .u8 (byt a0 a1)) (fun o ho _ => x_indexStr (kk:=.i64) (by kernel_rfl) (by kernel_rfl) (by kernel_rfl) g6.1 g6.2 ho) ?_
  obtain ⟨t8,hr9,hp10⟩:=bind_some' hp7
  refine rC (weirref05_letter.ok (byt a0 a1) hS0 hr9) ?_
  rintro _ w11 ⟨rfl,hS12⟩
  refine ⟨_,rfl,?_⟩
  refine sS 1 (.inRegion (opsOf p83_0) [10]::td218) 17 (!t8) (fun h13 => ?_) fun h14 => ?_
  ·have hp15:=ite_t hp10 h13
   refine sR 7 [.code (cd83 [1,0,1,0,1]),.code (cd83 [1,1])] ?_
   refine rR (.int .i64 0) Tryz.func83 ?_
   cases Option.some.inj hp15
   exact hR _ _ ⟨rfl,hS12⟩
  have hp17:=ite_f hp10 h14
  refine sR 11 td222 ?_
  obtain ⟨v18,hv19,hp20⟩:=bind_some' hp17
  have J24 : ∀ (t21 : Int) (he26 : t21 = v18) (l25 : List Value) (w22 : World) (hS23 : St w0 Z (fs) w22),Runs Tryz.prog (fx 83) td219 (fill (mk 76 [(5,.int .i64 t21)]) l25) w22 R:=by
   intro t21 he26 l25 w22 hS23
   subst he26
   try dsimp only at hp20
   refine sR 5 [.code (cd83 [1,1,1,1,1])] ?_
   refine rR (.int .i64 t21) Tryz.func83 ?_
   cases Option.some.inj hp20
   exact hR _ _ ⟨rfl,hS23⟩
  have L37 : ∀ (t28 : Int) (e32 : Int),weirref05_name.l0 a0 a1 t28 = some e32 → e32 = v18 → ∀ (l31 : List Value) (w29 : World) (hS30 : St w0 Z (fs) w29),Runs Tryz.prog (fx 83) td222 (fill (mk 76 [(0,.string a0),(1,.int .i64 a1),(5,.int .i64 t28)]) l31) w29 R:=by
   refine weirref05_name.l0.partial_correctness a0 a1 (fun t28 e32 => e32 = v18 → ∀ (l31 : List Value) (w29 : World) (hS30 : St w0 Z (fs) w29),Runs Tryz.prog (fx 83) td222 (fill (mk 76 [(0,.string a0),(1,.int .i64 a1),(5,.int .i64 t28)]) l31) w29 R) ?_
   intro rec36 ih35 t28 e32 hb34 he33 l31 w29 hS30
   refine sS 9 (.inRegion (opsOf (cd83 [1,1,1,0,0,0,0,0])) []::.code (cd83 [1,1,1,0,0,0,0,1])::.code (cd83 [1,1,1,0,0,0,1])::td221) 24 (decide ((IntKind.i64.wrap (a1 + t28)) < (a0.size : Int))) (fun h38 => ?_) fun h39 => ?_
   ·have hp40:=ite_t hb34 h38
    refine sR 10 (.inRegion (opsOf (cd83 [1,1,1,0,0,0,1,0,0])) [4,5]::.code (cd83 [1,1,1,0,0,0,1,0,1])::td223) ?_
    obtain ⟨g41,hp42⟩:=ite_some hp40
    refine rV (.index 9 (.tmp 25) (.tmp 28)) (.int .u8 (byt a0 (IntKind.i64.wrap (a1 + t28)))) (fun o ho _ => x_indexStr (kk:=.i64) (by kernel_rfl) (by kernel_rfl) (by kernel_rfl) g41.1 g41.2 ho) ?_
    refine sR 5 (iR p83_12 1 10::td224) ?_
    obtain ⟨t43,hr44,hp45⟩:=bind_some' hp42
    refine rC (weirref05_letter.ok (byt a0 (IntKind.i64.wrap (a1 + t28))) hS30 hr44) ?_
    rintro _ w46 ⟨rfl,hS47⟩
    refine ⟨_,rfl,?_⟩
    refine sR 1 (iR p83_12 3 8::td224) ?_
    obtain ⟨v48,hv49,hp50⟩:=bind_some' hp45
    have J54 : ∀ (t51 : Bool) (he56 : t51 = v48) (l55 : List Value) (w52 : World) (hS53 : St w0 Z (fs) w52),Runs Tryz.prog (fx 83) td227 (fill (mk 76 [(0,.string a0),(1,.int .i64 a1),(5,.int .i64 t28),(6,.int .u8 (byt a0 (IntKind.i64.wrap (a1 + t28)))),(7,.bool t51)]) l55) w52 R:=by
     intro t51 he56 l55 w52 hS53
     subst he56
     try dsimp only at hp50
     obtain ⟨v57,hv58,hp59⟩:=bind_some' hp50
     have J63 : ∀ (t60 : Bool) (he65 : t60 = v57) (l64 : List Value) (w61 : World) (hS62 : St w0 Z (fs) w61),Runs Tryz.prog (fx 83) td225 (fill (mk 76 [(0,.string a0),(1,.int .i64 a1),(5,.int .i64 t28),(7,.bool t60)]) l64) w61 R:=by
      intro t60 he65 l64 w61 hS62
      subst he65
      try dsimp only at hp59
      refine sS 5 (.inRegion (opsOf (cd83 [1,1,1,0,0,0,1,0,1,1,1,0,0])) []::.code (cd83 [1,1,1,0,0,0,1,0,1,1,1,0,1])::.code (cd83 [1,1,1,0,0,0,1,0,1,1,1,1])::td223) 72 (!t60) (fun h66 => ?_) fun h67 => ?_
      ·have hp68:=ite_t hp59 h66
       refine sR 3 td219 ?_
       refine rF (mk 76 [(5,.int .i64 t28)]) ?_
       exact J24 t28 ((Option.some.inj hp68).trans he33) _ _ hS62
      have hp69:=ite_f hp59 h67
      refine sR 9 td221 ?_
      refine sR 1 td222 ?_
      refine rF (mk 76 [(0,.string a0),(1,.int .i64 a1),(5,.int .i64 (IntKind.i64.wrap (t28 + 1)))]) ?_
      exact ih35 (IntKind.i64.wrap (t28 + 1)) _ hp69 he33 _ _ hS62
     refine sS 3 (iR p83_14 2 13::td226) 41 ((byt a0 (IntKind.i64.wrap (a1 + t28))) == 43) (fun h70 => ?_) fun h71 => ?_
     ·have hp72:=ite_t hv58 h70
      refine sS 12 (.inRegion (opsOf p83_14) [14]::td226) 53 (decide ((IntKind.i64.wrap ((IntKind.i64.wrap (a1 + t28)) + 1)) < (a0.size : Int))) (fun h73 => ?_) fun h74 => ?_
      ·have hp75:=ite_t hp72 h73
       refine sR 9 (iR p83_20 5 12::td225) ?_
       obtain ⟨g76,hp77⟩:=ite_some hp75
       refine rV (.index 9 (.tmp 55) (.tmp 59)) (.int .u8 (byt a0 (IntKind.i64.wrap ((IntKind.i64.wrap (a1 + t28)) + 1)))) (fun o ho _ => x_indexStr (kk:=.i64) (by kernel_rfl) (by kernel_rfl) (by kernel_rfl) g76.1 g76.2 ho) ?_
       obtain ⟨t78,hr79,hp80⟩:=bind_some' hp77
       refine rC (weirref05_letter.ok (byt a0 (IntKind.i64.wrap ((IntKind.i64.wrap (a1 + t28)) + 1))) hS53 hr79) ?_
       rintro _ w81 ⟨rfl,hS82⟩
       refine ⟨_,rfl,?_⟩
       refine sR 1 (iR p83_20 8 9::td225) ?_
       cases t78
       ·have hp83:=ite_f hp80 rfl
        refine sR 5 (iR p83_20 13 4::td225) ?_
        obtain ⟨g84,hp85⟩:=ite_some hp83
        refine rV (.index 9 (.tmp 63) (.tmp 67)) (.int .u8 (byt a0 (IntKind.i64.wrap ((IntKind.i64.wrap (a1 + t28)) + 1)))) (fun o ho _ => x_indexStr (kk:=.i64) (by kernel_rfl) (by kernel_rfl) (by kernel_rfl) g84.1 g84.2 ho) ?_
        obtain ⟨t86,hr87,hp88⟩:=bind_some' hp85
        refine rC (weirref05_digit.ok (byt a0 (IntKind.i64.wrap ((IntKind.i64.wrap (a1 + t28)) + 1))) hS82 hr87) ?_
        rintro _ w89 ⟨rfl,hS90⟩
        refine ⟨_,rfl,?_⟩
        refine sR 3 td225 ?_
        refine rF (mk 76 [(0,.string a0),(1,.int .i64 a1),(5,.int .i64 t28),(7,.bool t86)]) ?_
        exact J63 t86 (Option.some.inj hp88) _ _ hS90
       have hp91:=ite_t hp80 rfl
       refine sR 10 td225 ?_
       refine rF (mk 76 [(0,.string a0),(1,.int .i64 a1),(5,.int .i64 t28),(7,.bool true)]) ?_
       exact J63 true (Option.some.inj hp91) _ _ hS82
      have hp92:=ite_f hp72 h74
      refine sR 4 td225 ?_
      refine rF (mk 76 [(0,.string a0),(1,.int .i64 a1),(5,.int .i64 t28),(7,.bool t51)]) ?_
      exact J63 t51 (Option.some.inj hp92) _ _ hS53
     have hp93:=ite_f hv58 h71
     refine sS 3 (iR p83_14 5 10::td226) 44 ((byt a0 (IntKind.i64.wrap (a1 + t28))) == 45) (fun h94 => ?_) fun h95 => ?_
     ·have hp96:=ite_t hp93 h94
      refine sS 9 (.inRegion (opsOf p83_14) [14]::td226) 53 (decide ((IntKind.i64.wrap ((IntKind.i64.wrap (a1 + t28)) + 1)) < (a0.size : Int))) (fun h97 => ?_) fun h98 => ?_
      ·have hp99:=ite_t hp96 h97
       refine sR 9 (iR p83_20 5 12::td225) ?_
       obtain ⟨g100,hp101⟩:=ite_some hp99
       refine rV (.index 9 (.tmp 55) (.tmp 59)) (.int .u8 (byt a0 (IntKind.i64.wrap ((IntKind.i64.wrap (a1 + t28)) + 1)))) (fun o ho _ => x_indexStr (kk:=.i64) (by kernel_rfl) (by kernel_rfl) (by kernel_rfl) g100.1 g100.2 ho) ?_
       obtain ⟨t102,hr103,hp104⟩:=bind_some' hp101
       refine rC (weirref05_letter.ok (byt a0 (IntKind.i64.wrap ((IntKind.i64.wrap (a1 + t28)) + 1))) hS53 hr103) ?_
       rintro _ w105 ⟨rfl,hS106⟩
       refine ⟨_,rfl,?_⟩
       refine sR 1 (iR p83_20 8 9::td225) ?_
       cases t102
       ·have hp107:=ite_f hp104 rfl
        refine sR 5 (iR p83_20 13 4::td225) ?_
        obtain ⟨g108,hp109⟩:=ite_some hp107
        refine rV (.index 9 (.tmp 63) (.tmp 67)) (.int .u8 (byt a0 (IntKind.i64.wrap ((IntKind.i64.wrap (a1 + t28)) + 1)))) (fun o ho _ => x_indexStr (kk:=.i64) (by kernel_rfl) (by kernel_rfl) (by kernel_rfl) g108.1 g108.2 ho) ?_
        obtain ⟨t110,hr111,hp112⟩:=bind_some' hp109
        refine rC (weirref05_digit.ok (byt a0 (IntKind.i64.wrap ((IntKind.i64.wrap (a1 + t28)) + 1))) hS106 hr111) ?_
        rintro _ w113 ⟨rfl,hS114⟩
        refine ⟨_,rfl,?_⟩
        refine sR 3 td225 ?_
        refine rF (mk 76 [(0,.string a0),(1,.int .i64 a1),(5,.int .i64 t28),(7,.bool t110)]) ?_
        exact J63 t110 (Option.some.inj hp112) _ _ hS114
       have hp115:=ite_t hp104 rfl
       refine sR 10 td225 ?_
       refine rF (mk 76 [(0,.string a0),(1,.int .i64 a1),(5,.int .i64 t28),(7,.bool true)]) ?_
       exact J63 true (Option.some.inj hp115) _ _ hS106
      have hp116:=ite_f hp96 h98
      refine sR 4 td225 ?_
      refine rF (mk 76 [(0,.string a0),(1,.int .i64 a1),(5,.int .i64 t28),(7,.bool t51)]) ?_
      exact J63 t51 (Option.some.inj hp116) _ _ hS53
     have hp117:=ite_f hp93 h95
     refine sR 13 td225 ?_
     refine rF (mk 76 [(0,.string a0),(1,.int .i64 a1),(5,.int .i64 t28),(7,.bool t51)]) ?_
     exact J63 t51 (Option.some.inj hp117) _ _ hS53
    cases t43
    ·have hp118:=ite_f hv49 rfl
     refine sR 1 (iR p83_12 4 7::td224) ?_
     obtain ⟨t119,hr120,hp121⟩:=bind_some' hp118
     refine rC (weirref05_digit.ok (byt a0 (IntKind.i64.wrap (a1 + t28))) hS47 hr120) ?_
     rintro _ w122 ⟨rfl,hS123⟩
     refine ⟨_,rfl,?_⟩
     refine sR 2 (iR p83_12 7 4::td224) ?_
     cases t119
     ·have hp124:=ite_f hp121 rfl
      refine sS 2 (.inRegion (opsOf p83_12) [9,10]::td224) 38 ((byt a0 (IntKind.i64.wrap (a1 + t28))) == 46) (fun h125 => ?_) fun h126 => ?_
      ·have hp127:=ite_t hp124 h125
       refine sR 5 td227 ?_
       refine rF (mk 76 [(0,.string a0),(1,.int .i64 a1),(5,.int .i64 t28),(6,.int .u8 (byt a0 (IntKind.i64.wrap (a1 + t28)))),(7,.bool true)]) ?_
       exact J54 true (Option.some.inj hp127) _ _ hS123
      have hp128:=ite_f hp124 h126
      refine sR 5 td227 ?_
      refine rF (mk 76 [(0,.string a0),(1,.int .i64 a1),(5,.int .i64 t28),(6,.int .u8 (byt a0 (IntKind.i64.wrap (a1 + t28)))),(7,.bool false)]) ?_
      exact J54 false (Option.some.inj hp128) _ _ hS123
     have hp129:=ite_t hp121 rfl
     refine sR 7 td227 ?_
     refine rF (mk 76 [(0,.string a0),(1,.int .i64 a1),(5,.int .i64 t28),(6,.int .u8 (byt a0 (IntKind.i64.wrap (a1 + t28)))),(7,.bool true)]) ?_
     exact J54 true (Option.some.inj hp129) _ _ hS123
    have hp130:=ite_t hv49 rfl
    refine sR 11 td227 ?_
    refine rF (mk 76 [(0,.string a0),(1,.int .i64 a1),(5,.int .i64 t28),(6,.int .u8 (byt a0 (IntKind.i64.wrap (a1 + t28)))),(7,.bool true)]) ?_
    exact J54 true (Option.some.inj hp130) _ _ hS47
   have hp131:=ite_f hb34 h39
   refine sR 3 td219 ?_
   refine rF (mk 76 [(5,.int .i64 t28)]) ?_
   exact J24 t28 ((Option.some.inj hp131).trans he33) _ _ hS30
  refine rF (mk 76 [(0,.string a0),(1,.int .i64 a1),(5,.int .i64 1)]) ?_
  exact L37 1 _ hv19 rfl _ _ hS12

end
end Go.Proofs.YtkhcbamlhckilaaGreatDoor.K
