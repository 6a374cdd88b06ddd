/- The walk, part 4: each Go function as a plain Lean function, and that its call answers as that function says. No condition. -/
import Derived.Test.YtfiamlhhhkiiaaaE
import Derived.Test.YtfiamlhhhkiiaaaNG
import Derived.Test.YtfiamlhhhkiiaaaNP
import Derived.Test.YtfiamlhhhkiiaaaNM
import Derived.Test.YtfiamlhhhkiiaaaNQ
import Derived.Test.YtfiamlhhhkiiaaaNI
import Derived.Test.YtfiamlhhhkiiaaaNX
import Derived.Test.YtfiamlhhhkiiaaaNY
import Derived.Test.YtfiamlhhhkiiaaaNC
import Derived.Test.YtfiamlhhhkiiaaaNF
import Derived.Test.YtfiamlhhhkiiaaaNW
import Derived.Test.YtfiamlhhhkiiaaaNK
import Derived.Test.YtfiamlhhhkiiaaaND
import Derived.Test.YtfiamlhhhkiiaaaA3
set_option linter.unusedVariables false
set_option linter.unusedSimpArgs false
set_option maxRecDepth 100000
set_option synthInstance.maxSize 100000
set_option synthInstance.maxHeartbeats 4000000
namespace Go.Proofs.Ytfiamlhhhkiiaaa.K
open Go Go.RowKit
noncomputable section
set_option maxHeartbeats 16000000
variable {w0 : World} {Z : Zm} {fs : List XObj} {w : World}
abbrev p3_48:=cd3 [1,1]
abbrev p3_65:=cd3 [1,1,1,1,1,1,1,0,1,0,0]
abbrev p3_67:=cd3 [1,1,1,1,1,1,1,1,1]
abbrev p3_68:=cd3 [1,1,1,1,1,1,1,0,1,0,0,0,0]
abbrev p3_69:=cd3 [1,1,1,1,1,1,1,0,1,0,0,0,1]
abbrev p3_70:=cd3 [1,1,1,1,1,1,1,0,1,0,0,1]
abbrev p3_76:=cd3 [1,1,1,1,1,1,1,0,1,0,0,1,0,0,1,1]
abbrev p3_77:=cd3 [1,1,1,1,1,1,1,0,1,0,0,1,0,0,1,0,1,0]
abbrev p3_78:=cd3 [1,1,1,1,1,1,1,0,1,0,0,1,0,0,1,1,0]
abbrev p3_80:=cd3 [1,1,1,1,1,1,1,0,1,0,0,1,1,0,0]
abbrev p3_81:=cd3 [1,1,1,1,1,1,1,0,1,0,0,1,1,0,1]
abbrev p3_82:=cd3 [1,1,1,1,1,1,1,0,1,0,0,1,1,1]
abbrev p3_83:=cd3 [1,1,1,1,1,1,1,0,1,0,0,1,0,0,1,1,1,0,0]
abbrev p3_84:=cd3 [1,1,1,1,1,1,1,0,1,0,0,1,0,0,1,1,1,0,1]
abbrev td107:List Item:=[.code (cd3 [1,1,1,1,1,1,1,1])]
abbrev td108:List Item:=.inBlock 0::td107
abbrev td109:List Item:=.inLoop p3_65::td108
abbrev td110:List Item:=.code p3_65::td109
abbrev td111:List Item:=.code (cd3 [1,1,1,1,1,1,1,0,1,0,0,1,1])::td109
abbrev td112:List Item:=.inBlock 1::td111
abbrev td113:List Item:=.code (cd3 [1,1,1,1,1,1,1,0,1,0,0,1,0,0,1,1,1])::td112
abbrev td114:List Item:=.code p3_82::td109
abbrev td115:List Item:=.code p3_84::td112
abbrev td116:List Item:=iR p3_78 10 15::td113
abbrev td117:List Item:=iR p3_78 12 13::td113
abbrev td118:List Item:=iR p3_78 15 10::td113
abbrev td119:List Item:=iR p3_78 16 9::td113
abbrev td120:List Item:=iR p3_78 18 7::td113
abbrev td121:List Item:=iR p3_78 19 6::td113
abbrev td122:List Item:=.inRegion (opsOf p3_78) [22,23,24]::td113
def weirlaw14_ExploreStates.l0 (a1 a2 : Int) (t73 : List ByteArray) (t74 : List Int) (t75 : List (List weirref14_Move)) (t76 : List Bool) (t77 : List api_Final) (t78 : List Int) (t79 : List api_Pick) (t80 : Bool) (t81 t131 : List (ByteArray × Int)) (t134 : weirlaw14_Net) (t177 : ByteArray) (t245 : Int) (t246 t247 : Bool) (t248 t249 : List (ByteArray × Int)) : Option (Sum Bool Bool) :=
  (if (decide (t245 < 2)) = true then (explore_States_1.f a1 a2 t246 t73 t74 t75 t76 t77 t78 t79 t80 t81 t248 t131 t249 t247 t177 t134 t245 0 >>= (fun (t278,t279,t280,t281,t282,t283) => (if decide (t278 = 0) = true then (((if (t245 == 0) = true then (weirlaw14_Book__within.f t281 t131 t282 t280 t73 >>= (fun (t451,t452) => (if (!t451) = true then some ((true,t452)) else (if (t283 != (t73.length : Int)) = true then (if (t245 == 1) = true then some ((true,t452)) else (if (t283 != a1) = true then some ((true,t452)) else some ((false,t452)))) else some ((false,t452)))))) else (if (t283 != (t73.length : Int)) = true then (if (t245 == 1) = true then some ((true,t280)) else (if (t283 != a1) = true then some ((true,t280)) else some ((false,t280)))) else some ((false,t280)))) : Option (Bool × Bool)) >>= (fun (t377,t378) => (if t377 = true then some (.inr (false)) else (weirlaw14_ExploreStates.l0 a1 a2 t73 t74 t75 t76 t77 t78 t79 t80 t81 t131 t134 t177 (IntKind.i64.wrap (t245 + 1)) t279 t378 t281 t282)))) else (if decide (t278 = 1) = true then some (.inr (t279)) else (if t278 = 2 then (((if (t245 == 0) = true then (weirlaw14_Book__within.f t281 t131 t282 t280 t73 >>= (fun (t834,t835) => (if (!t834) = true then some ((true,t835)) else (if (t283 != (t73.length : Int)) = true then (if (t245 == 1) = true then some ((true,t835)) else (if (t283 != a1) = true then some ((true,t835)) else some ((false,t835)))) else some ((false,t835)))))) else (if (t283 != (t73.length : Int)) = true then (if (t245 == 1) = true then some ((true,t280)) else (if (t283 != a1) = true then some ((true,t280)) else some ((false,t280)))) else some ((false,t280)))) : Option (Bool × Bool)) >>= (fun (t760,t761) => (if t760 = true then some (.inr (false)) else (weirlaw14_ExploreStates.l0 a1 a2 t73 t74 t75 t76 t77 t78 t79 t80 t81 t131 t134 t177 (IntKind.i64.wrap (t245 + 1)) t279 t761 t281 t282)))) else none))))) else some (.inl t246))
 partial_fixpoint
def weirlaw14_ExploreStates.f (a0 : weirlaw14_Net) (a1 a2 : Int) : Option Bool :=
  (weirlaw14_Net__fine.f a0 >>= (fun t17 => (if (!t17) = true then some (true) else (weirlaw14_Net__machine.f a0 >>= (fun (t33,t34,t35,t36,t37,t38) => (weirref14_Lay.f t33 t34 t35 t36 t37 t38 70000 >>= (fun (t73,t74,t75,t76,t77,t78,t79,t80,t81,t82,t83,t84,t85) => (weirlaw14_Net__machine.f a0 >>= (fun (t129,t130,t131,t132,t133,t134) => (explore_States.f t129 t130 t131 t132 t133 t134 >>= (fun t177 => (weirlaw14_ExploreStates.l0 a1 a2 t73 t74 t75 t76 t77 t78 t79 t80 t81 t131 t134 t177 0 false t133 t130 t132 >>= (fun | .inl t228 => some (true) | .inr e => some e)))))))))))))
theorem weirlaw14_ExploreStates.ok (a0 : weirlaw14_Net) (a1 a2 : Int) (y0 : Option Addr) (y1 : Nat) (y2 : Option Addr) (y3 : Nat) (y4 : Option Addr) (y5 : Nat) (hS0 : St w0 Z (fs) w) (y6 : SlZ (repL (flat (encI .i64)) 1) 1 Z y0 y1 a0.Next) (y7 : SlZ (flat encB) 1 Z y2 y3 a0.End) (y8 : SlZ (flat (encI .i64)) 1 Z y4 y5 a0.Value) {q0 : Bool} (hp0 : weirlaw14_ExploreStates.f a0 a1 a2 = some q0) :
    Calls Try.prog 3 #[.agg #[.slice y0 a0.Next.length y1,.slice y2 a0.End.length y3,.slice y4 a0.Value.length y5,.int .i64 a0.Start],.int .i64 a1,.int .i64 a2] w (fun e w' => e = .returned (.bool q0) ∧ St w0 Z (fs) w'):=by
  refine calls_abs ?_; intro R hR
  unfold weirlaw14_ExploreStates.f at hp0
  refine calls_of_runs (fn:=Try.f3) (c:=cd3 []) Try.func3 (by kernel_rfl) (al:=[.agg #[.slice y0 a0.Next.length y1,.slice y2 a0.End.length y3,.slice y4 a0.Value.length y5,.int .i64 a0.Start],.int .i64 a1,.int .i64 a2]) rfl (n:=162) rfl ?_
  refine sR 2 [iR (cd3 [0]) 0 4,.code (cd3 [1])] ?_
  refine r_box (c:=(cd3 [0])) (i:=0) (d:=(some 3)) (ty:=0) (x:=(.tmp 0)) (v:=.agg #[.slice y0 a0.Next.length y1,.slice y2 a0.End.length y3,.slice y4 a0.Value.length y5,.int .i64 a0.Start]) (t:=26) (cs:=[.slice y0 a0.Next.length y1,.slice y2 a0.End.length y3,.slice y4 a0.Value.length y5,.int .i64 a0.Start]) hS0 (by kernel_rfl) (by kernel_rfl) (by kernel_rfl) (by kernel_rfl) ?_
  intro b1 w2 hS3
  refine r_box (c:=(cd3 [0])) (i:=1) (d:=(some 4)) (ty:=0) (x:=(.tmp 1)) (v:=.int .i64 a1) (t:=3) (cs:=[.int .i64 a1]) hS3 (by kernel_rfl) (by kernel_rfl) (by kernel_rfl) (by kernel_rfl) ?_
  intro b5 w6 hS7
  refine r_box (c:=(cd3 [0])) (i:=2) (d:=(some 5)) (ty:=0) (x:=(.tmp 2)) (v:=.int .i64 a2) (t:=3) (cs:=[.int .i64 a2]) hS7 (by kernel_rfl) (by kernel_rfl) (by kernel_rfl) (by kernel_rfl) ?_
  intro b9 w10 hS11
  refine rA 4 (.bool false) [.bool false] hS11 ?_
  intro b13 w14 hS15
  refine sR 4 [.inRegion (opsOf (cd3 [1,0,0])) [0,1,2],.code (cd3 [1,0,1]),.code p3_48] ?_
  refine rLa 26 (.tmp 3) (hS15.blk 3 rfl) ?_
  obtain ⟨t17,hr18,hp19⟩:=bind_some' hp0
  refine rC (weirlaw14_Net__fine.ok hr18 hS15 y6 y7 y8) ?_
  rintro _ w20 ⟨rfl,hS21⟩
  refine ⟨_,rfl,?_⟩
  refine sI 1 [.inRegion (opsOf (cd3 [1,0,0])) [],.code (cd3 [1,0,1]),.code p3_48] 22 hp19 (fun hp24 => ?_) fun hp32 => ?_
  ·refine sR 4 [.inRegion (opsOf (cd3 [1,0,1,0,0])) [0],.code (cd3 [1,0,1,0,1]),.code p3_48] ?_
   refine rS 4 (.tmp 6) (.const (.bool true)) 0 (.bool true) [.bool true] [.bool true] hS21 ?_
   intro w25 hS26
   refine sR 1 [.code (cd3 [1,0,1,0,1]),.code p3_48] ?_
   have hS27:=hS26.drop
   have hS28:=hS27.drop
   have hS29:=hS28.drop
   have hS30:=hS29.drop
   refine runs_ret (fn:=Try.f3) (v:=.bool true) Try.func3 (resl_run (fn:=Try.f3) (by kernel_rfl) (.cell (t:=6) (ty:=4) (by kernel_rfl) (loads_at 0 (hS26.blk 0 rfl) (by kernel_rfl) (by kernel_rfl)) .nil)) ?_
   cases Option.some.inj hp24
   exact hR _ _ ⟨rfl,hS30⟩
  refine sR 5 [iR (cd3 [1,1,0]) 0 8,.code (cd3 [1,1,1])] ?_
  refine rLa 26 (.tmp 3) (hS21.blk 3 rfl) ?_
  obtain ⟨⟨t33,t34,t35,t36,t37,t38⟩,hr51,hp52⟩:=bind_some' hp32
  try dsimp only at hp52
  refine rC (weirlaw14_Net__machine.ok hr51 hS21 y6 y7 y8) ?_
  rintro _ w62 ⟨Q39,Q40,Q41,Q42,Q43,Q44,Q45,Q46,Q47,Q48,Q49,Q50,rfl,hS63,hs64,hs65,hs66⟩
  refine ⟨_,rfl,?_⟩
  refine sR 3 [.inRegion (opsOf (cd3 [1,1,0])) [5,6,7],.code (cd3 [1,1,1])] ?_
  refine rA 32 (.agg #[.string (⟨#[]⟩ : ByteArray),.nilFunc,.nilFunc,.nilFunc]) [.string (⟨#[]⟩ : ByteArray),.nilFunc,.nilFunc,.nilFunc] hS63 ?_
  intro b67 w68 hS69
  refine rS 32 (.tmp 7) (.tmp 26) 0 (.agg #[.string t33,.func (.func 28) #[] #[.pointer (some ⟨Q39,0,none⟩),.pointer (some ⟨Q44,0,none⟩)],.func (.func 31) #[] #[.pointer (some ⟨Q44,0,none⟩),.pointer (some ⟨Q39,0,none⟩)],.func (.func 32) #[] #[.pointer (some ⟨Q39,0,none⟩),.pointer (some ⟨Q44,0,none⟩)]]) [.string t33,.func (.func 28) #[] #[.pointer (some ⟨Q39,0,none⟩),.pointer (some ⟨Q44,0,none⟩)],.func (.func 31) #[] #[.pointer (some ⟨Q44,0,none⟩),.pointer (some ⟨Q39,0,none⟩)],.func (.func 32) #[] #[.pointer (some ⟨Q39,0,none⟩),.pointer (some ⟨Q44,0,none⟩)]] [.string t33,.func (.func 28) #[] #[.pointer (some ⟨Q39,0,none⟩),.pointer (some ⟨Q44,0,none⟩)],.func (.func 31) #[] #[.pointer (some ⟨Q44,0,none⟩),.pointer (some ⟨Q39,0,none⟩)],.func (.func 32) #[] #[.pointer (some ⟨Q39,0,none⟩),.pointer (some ⟨Q44,0,none⟩)]] hS69 ?_
  intro w71 hS72
  refine sR 4 [iR (cd3 [1,1,1,0]) 0 4,.code (cd3 [1,1,1,1])] ?_
  refine rLa 32 (.tmp 7) (hS72.blk 0 rfl) ?_
  obtain ⟨⟨t73,t74,t75,t76,t77,t78,t79,t80,t81,t82,t83,t84,t85⟩,hr102,hp103⟩:=bind_some' hp52
  try dsimp only at hp103
  have hS115:=hS72.pick6
  have hS116:=hS115.pick6
  have hS117:=hS116.pick6
  have hS118:=hS117.pick6
  have hS119:=hS118.pick6
  have hS120:=hS119.pick6
  refine rC (weirref14_Lay.ok hr102 hS120 hs64 hs65 hs66) ?_
  rintro _ w121 ⟨Q86,Q87,Q88,Q89,Q90,Q91,Q92,Q93,Q94,Q95,Q96,Q97,Q98,Q99,Q100,Q101,rfl,hS122⟩
  refine ⟨_,rfl,?_⟩
  refine rA 43 (.agg #[.slice none 0 0,.slice none 0 0,.slice none 0 0,.slice none 0 0,.slice none 0 0,.slice none 0 0,.slice none 0 0,.bool false,.map none]) [.slice none 0 0,.slice none 0 0,.slice none 0 0,.slice none 0 0,.slice none 0 0,.slice none 0 0,.slice none 0 0,.bool false,.map none] hS122 ?_
  intro b123 w124 hS125
  refine rS 43 (.tmp 9) (.tmp 29) 0 (.agg #[.slice Q86 t73.length Q87,.slice Q88 t74.length Q89,.slice Q90 t75.length Q91,.slice Q93 t76.length Q94,.slice Q95 t77.length Q96,.slice Q97 t78.length Q98,.slice Q99 t79.length Q100,.bool t80,.map (some Q101)]) [.slice Q86 t73.length Q87,.slice Q88 t74.length Q89,.slice Q90 t75.length Q91,.slice Q93 t76.length Q94,.slice Q95 t77.length Q96,.slice Q97 t78.length Q98,.slice Q99 t79.length Q100,.bool t80,.map (some Q101)] [.slice Q86 t73.length Q87,.slice Q88 t74.length Q89,.slice Q90 t75.length Q91,.slice Q93 t76.length Q94,.slice Q95 t77.length Q96,.slice Q97 t78.length Q98,.slice Q99 t79.length Q100,.bool t80,.map (some Q101)] hS125 ?_
  intro w127 hS128
  refine sR 3 [iR (cd3 [1,1,1,1,0]) 0 9,.code (cd3 [1,1,1,1,1])] ?_
  refine rLa 26 (.tmp 3) (hS128.blk 19 rfl) ?_
  obtain ⟨⟨t129,t130,t131,t132,t133,t134⟩,hr147,hp148⟩:=bind_some' hp103
  try dsimp only at hp148
  refine rC (weirlaw14_Net__machine.ok hr147 hS128 y6 y7 y8) ?_
  rintro _ w158 ⟨Q135,Q136,Q137,Q138,Q139,Q140,Q141,Q142,Q143,Q144,Q145,Q146,rfl,hS159,hs160,hs161,hs162⟩
  refine ⟨_,rfl,?_⟩
  refine sR 3 [iR (cd3 [1,1,1,1,0]) 5 4,.code (cd3 [1,1,1,1,1])] ?_
  refine rA 32 (.agg #[.string (⟨#[]⟩ : ByteArray),.nilFunc,.nilFunc,.nilFunc]) [.string (⟨#[]⟩ : ByteArray),.nilFunc,.nilFunc,.nilFunc] hS159 ?_
  intro b163 w164 hS165
  refine rA 33 (.pointer none) [.pointer none] hS165 ?_
  intro b167 w168 hS169
  have hS171:=hS169.pick1
  refine rS 32 (.tmp 10) (.tmp 33) 0 (.agg #[.string t129,.func (.func 28) #[] #[.pointer (some ⟨Q135,0,none⟩),.pointer (some ⟨Q140,0,none⟩)],.func (.func 31) #[] #[.pointer (some ⟨Q140,0,none⟩),.pointer (some ⟨Q135,0,none⟩)],.func (.func 32) #[] #[.pointer (some ⟨Q135,0,none⟩),.pointer (some ⟨Q140,0,none⟩)]]) [.string t129,.func (.func 28) #[] #[.pointer (some ⟨Q135,0,none⟩),.pointer (some ⟨Q140,0,none⟩)],.func (.func 31) #[] #[.pointer (some ⟨Q140,0,none⟩),.pointer (some ⟨Q135,0,none⟩)],.func (.func 32) #[] #[.pointer (some ⟨Q135,0,none⟩),.pointer (some ⟨Q140,0,none⟩)]] [.string t129,.func (.func 28) #[] #[.pointer (some ⟨Q135,0,none⟩),.pointer (some ⟨Q140,0,none⟩)],.func (.func 31) #[] #[.pointer (some ⟨Q140,0,none⟩),.pointer (some ⟨Q135,0,none⟩)],.func (.func 32) #[] #[.pointer (some ⟨Q135,0,none⟩),.pointer (some ⟨Q140,0,none⟩)]] hS171 ?_
  intro w172 hS173
  have hS174:=hS173.pick1
  refine rS 33 (.tmp 11) (.tmp 34) 0 (.pointer (some ⟨Q136,0,none⟩)) [.pointer (some ⟨Q136,0,none⟩)] [.pointer (some ⟨Q136,0,none⟩)] hS174 ?_
  intro w175 hS176
  refine sR 3 [iR (cd3 [1,1,1,1,1,0]) 0 4,.code (cd3 [1,1,1,1,1,1])] ?_
  refine rLa 32 (.tmp 10) (hS176.blk 1 rfl) ?_
  obtain ⟨t177,hr179,hp180⟩:=bind_some' hp148
  have hS185:=hS176.pick7
  have hS186:=hS185.pick7
  have hS187:=hS186.pick7
  have hS188:=hS187.pick7
  have hS189:=hS188.pick7
  have hS190:=hS189.pick7
  refine rC (explore_States.ok hr179 hS190 hs160 hs161 hs162) ?_
  rintro _ w191 ⟨Q178,rfl,hS192⟩
  refine ⟨_,rfl,?_⟩
  refine rA 46 .nilFunc [.nilFunc] hS192 ?_
  intro b193 w194 hS195
  refine rS 46 (.tmp 12) (.tmp 36) 0 (.func (.func 34) #[] #[.pointer (some ⟨Q178,0,none⟩)]) [.func (.func 34) #[] #[.pointer (some ⟨Q178,0,none⟩)]] [.func (.func 34) #[] #[.pointer (some ⟨Q178,0,none⟩)]] hS195 ?_
  intro w197 hS198
  refine sR 4 [.inRegion (opsOf (cd3 [1,1,1,1,1,1,0,0])) [0,1],.code (cd3 [1,1,1,1,1,1,0,1]),.code (cd3 [1,1,1,1,1,1,1])] ?_
  refine rL1 46 (.tmp 12) 0 (hS198.blk 0 rfl) ?_
  refine sR 7 (.inRegion (opsOf (cd3 [1,1,1,1,1,1,1,0,0])) [0,1]::.code (cd3 [1,1,1,1,1,1,1,0,1])::td107) ?_
  refine rA 3 (.int .i64 0) [.int .i64 0] hS198 ?_
  intro b199 w200 hS201
  refine rS 3 (.tmp 13) (.const (.int .i64 0)) 0 (.int .i64 0) [.int .i64 0] [.int .i64 0] hS201 ?_
  intro w203 hS204
  refine sR 3 td110 ?_
  have hS206:=hS204.ds0
  have hS207:=hS206.pick11
  have hS208:=hS207.drop
  have hS209:=hS208.pick20
  have hS210:=hS209.drop
  have hS211:=hS210.pick20
  have hS212:=hS211.drop
  have hS213:=hS212.pick20
  have hS214:=hS213.drop
  have hS215:=hS214.pick20
  have hS216:=hS215.drop
  have hS217:=hS216.pick20
  have hS218:=hS217.drop
  have hS219:=hS218.pick20
  have hS220:=hS219.drop
  have hS221:=hS220.pick20
  have hS222:=hS221.drop
  have hS223:=hS222.pick23
  have hS224:=hS223.drop
  obtain ⟨v225,hv226,hp227⟩:=bind_some' hp180
  have hq232 : ∀ x,Sum.inr x = v225 → x = q0:=by intro x hx; subst hx; simpa using hp227
  have J233 : ∀ (t228 : Bool) (he235 : Sum.inl t228 = v225) (l234 : List Value) (L229 : List Nat) (w230 : World) (hS231 : St w0 Z (xblk b13 4 ([.bool t228])::xds L229::fs) w230),Runs Try.prog ⟨3,dsL L229,.none⟩ td107 (fill (mk 165 [(6,.pointer (some ⟨b13,0,none⟩))]) l234) w230 R:=by
   intro t228 he235 l234 L229 w230 hS231
   subst he235
   try dsimp only at hp227
   refine sR 2 [.inRegion (opsOf (cd3 [1,1,1,1,1,1,1,1,0])) [0],.code p3_67] ?_
   refine rS 4 (.tmp 6) (.const (.bool true)) 0 (.bool true) [.bool true] [.bool true] hS231 ?_
   intro w236 hS237
   refine sR 1 [.code p3_67] ?_
   refine runsC_ret (fn:=Try.f3) Try.func3 ?_
   have hS238:=hS237.pick1
   refine leavesC_ds (L:=L229) hS238 ?_
   intro w239 hS240
   have hS241:=hS240.drop
   refine leavesC_nil (v:=.bool true) (resl_run (fn:=Try.f3) (by kernel_rfl) (.cell (t:=6) (ty:=4) (by kernel_rfl) (loads_at 0 (hS240.blk 0 rfl) (by kernel_rfl) (by kernel_rfl)) .nil)) ?_
   cases Option.some.inj hp227
   exact hR _ _ ⟨rfl,hS241⟩
  have L259 : ∀ (t245 : Int) (t246 t247 : Bool) (t248 t249 : List (ByteArray × Int)) (e254 : Sum Bool Bool),weirlaw14_ExploreStates.l0 a1 a2 t73 t74 t75 t76 t77 t78 t79 t80 t81 t131 t134 t177 t245 t246 t247 t248 t249 = some e254 → e254 = v225 → ∀ (l253 : List Value) (b243 : Nat) (L250 : List Nat) (w251 : World) (hS252 : St w0 Z (xblk b5 3 ([.int .i64 a1])::xblk b9 3 ([.int .i64 a2])::xblk b13 4 ([.bool t246])::xblk b123 43 ([.slice Q86 t73.length Q87,.slice Q88 t74.length Q89,.slice Q90 t75.length Q91,.slice Q93 t76.length Q94,.slice Q95 t77.length Q96,.slice Q97 t78.length Q98,.slice Q99 t79.length Q100,.bool t80,.map (some Q101)])::xrow Q86 Q87 9 1 (t73.flatMap encS)::xrow Q88 Q89 3 1 (t74.flatMap (encI .i64))::xrr Q90 Q91 93 Q92 95 4 enc_weirref14_Move t75::xrow Q93 Q94 4 1 (t76.flatMap encB)::xrow Q95 Q96 84 49 (t77.flatMap enc_api_Final)::xrow Q97 Q98 3 1 (t78.flatMap (encI .i64))::xrow Q99 Q100 88 3 (t79.flatMap enc_api_Pick)::xmap Q101 (t81.map (kv Value.string (Value.int .i64)))::xblk b167 33 ([.pointer (some ⟨Q136,0,none⟩)])::xblk Q136 49 ([.map (some Q137),.map (some Q138),.map (some Q139),.bool t247])::xmap Q137 (t248.map (kv Value.string (Value.int .i64)))::xmap Q138 (t131.map (kv Value.string (Value.int .i64)))::xmap Q139 (t249.map (kv Value.string (Value.int .i64)))::xblk b193 46 ([.func (.func 34) #[] #[.pointer (some ⟨Q178,0,none⟩)]])::xblk Q178 32 ([.string t177,.func (.func 28) #[] #[.pointer (some ⟨Q135,0,none⟩),.pointer (some ⟨Q140,0,none⟩)],.func (.func 31) #[] #[.pointer (some ⟨Q140,0,none⟩),.pointer (some ⟨Q135,0,none⟩)],.func (.func 32) #[] #[.pointer (some ⟨Q135,0,none⟩),.pointer (some ⟨Q140,0,none⟩)]])::xblk Q135 33 ([.pointer (some ⟨Q136,0,none⟩)])::xblk Q140 26 ([.slice Q141 t134.Next.length Q142,.slice Q143 t134.End.length Q144,.slice Q145 t134.Value.length Q146,.int .i64 t134.Start])::xblk b243 3 ([.int .i64 t245])::xds L250::fs) w251),Runs Try.prog ⟨3,dsL L250,.none⟩ td110 (fill (mk 165 [(4,.pointer (some ⟨b5,0,none⟩)),(5,.pointer (some ⟨b9,0,none⟩)),(6,.pointer (some ⟨b13,0,none⟩)),(9,.pointer (some ⟨b123,0,none⟩)),(11,.pointer (some ⟨b167,0,none⟩)),(12,.pointer (some ⟨b193,0,none⟩)),(13,.pointer (some ⟨b243,0,none⟩))]) l253) w251 R:=by
   refine weirlaw14_ExploreStates.l0.partial_correctness a1 a2 t73 t74 t75 t76 t77 t78 t79 t80 t81 t131 t134 t177 (fun t245 t246 t247 t248 t249 e254 => e254 = v225 → ∀ (l253 : List Value) (b243 : Nat) (L250 : List Nat) (w251 : World) (hS252 : St w0 Z (xblk b5 3 ([.int .i64 a1])::xblk b9 3 ([.int .i64 a2])::xblk b13 4 ([.bool t246])::xblk b123 43 ([.slice Q86 t73.length Q87,.slice Q88 t74.length Q89,.slice Q90 t75.length Q91,.slice Q93 t76.length Q94,.slice Q95 t77.length Q96,.slice Q97 t78.length Q98,.slice Q99 t79.length Q100,.bool t80,.map (some Q101)])::xrow Q86 Q87 9 1 (t73.flatMap encS)::xrow Q88 Q89 3 1 (t74.flatMap (encI .i64))::xrr Q90 Q91 93 Q92 95 4 enc_weirref14_Move t75::xrow Q93 Q94 4 1 (t76.flatMap encB)::xrow Q95 Q96 84 49 (t77.flatMap enc_api_Final)::xrow Q97 Q98 3 1 (t78.flatMap (encI .i64))::xrow Q99 Q100 88 3 (t79.flatMap enc_api_Pick)::xmap Q101 (t81.map (kv Value.string (Value.int .i64)))::xblk b167 33 ([.pointer (some ⟨Q136,0,none⟩)])::xblk Q136 49 ([.map (some Q137),.map (some Q138),.map (some Q139),.bool t247])::xmap Q137 (t248.map (kv Value.string (Value.int .i64)))::xmap Q138 (t131.map (kv Value.string (Value.int .i64)))::xmap Q139 (t249.map (kv Value.string (Value.int .i64)))::xblk b193 46 ([.func (.func 34) #[] #[.pointer (some ⟨Q178,0,none⟩)]])::xblk Q178 32 ([.string t177,.func (.func 28) #[] #[.pointer (some ⟨Q135,0,none⟩),.pointer (some ⟨Q140,0,none⟩)],.func (.func 31) #[] #[.pointer (some ⟨Q140,0,none⟩),.pointer (some ⟨Q135,0,none⟩)],.func (.func 32) #[] #[.pointer (some ⟨Q135,0,none⟩),.pointer (some ⟨Q140,0,none⟩)]])::xblk Q135 33 ([.pointer (some ⟨Q136,0,none⟩)])::xblk Q140 26 ([.slice Q141 t134.Next.length Q142,.slice Q143 t134.End.length Q144,.slice Q145 t134.Value.length Q146,.int .i64 t134.Start])::xblk b243 3 ([.int .i64 t245])::xds L250::fs) w251),Runs Try.prog ⟨3,dsL L250,.none⟩ td110 (fill (mk 165 [(4,.pointer (some ⟨b5,0,none⟩)),(5,.pointer (some ⟨b9,0,none⟩)),(6,.pointer (some ⟨b13,0,none⟩)),(9,.pointer (some ⟨b123,0,none⟩)),(11,.pointer (some ⟨b167,0,none⟩)),(12,.pointer (some ⟨b193,0,none⟩)),(13,.pointer (some ⟨b243,0,none⟩))]) l253) w251 R) ?_
   intro rec258 ih257 t245 t246 t247 t248 t249 e254 hb256 he255 l253 b243 L250 w251 hS252
   have hq260 : ∀ x,Sum.inr x = e254 → x = q0:=fun x hx => hq232 x (hx.trans he255)
   refine sR 3 (.inRegion (opsOf p3_68) [0,1]::.code p3_69::.code p3_70::td109) ?_
   refine rL1 3 (.tmp 13) 0 (hS252.blk 21 rfl) ?_
   refine sI 1 (.inRegion (opsOf p3_68) []::.code p3_69::.code p3_70::td109) 40 hb256 (fun hp263 => ?_) fun hp1101 => ?_
   ·refine sR 7 (.inRegion (opsOf (cd3 [1,1,1,1,1,1,1,0,1,0,0,1,0,0,0])) [0,1]::.code (cd3 [1,1,1,1,1,1,1,0,1,0,0,1,0,0,1])::td112) ?_
    refine rA 3 (.int .i64 0) [.int .i64 0] hS252 ?_
    intro b264 w265 hS266
    refine rS 3 (.tmp 14) (.const (.int .i64 0)) 0 (.int .i64 0) [.int .i64 0] [.int .i64 0] hS266 ?_
    intro w268 hS269
    refine sR 4 (.inRegion (opsOf (cd3 [1,1,1,1,1,1,1,0,1,0,0,1,0,0,1,0,0])) [0]::.code (cd3 [1,1,1,1,1,1,1,0,1,0,0,1,0,0,1,0,1])::.code p3_76::td112) ?_
    refine rL1 46 (.tmp 12) 0 (hS269.blk 18 rfl) ?_
    refine sR 2 (.code p3_77::.inBlock 2::.code p3_76::td112) ?_
    refine Runs.fillG (m:=(mk 165 [(4,.pointer (some ⟨b5,0,none⟩)),(5,.pointer (some ⟨b9,0,none⟩)),(6,.pointer (some ⟨b13,0,none⟩)),(9,.pointer (some ⟨b123,0,none⟩)),(11,.pointer (some ⟨b167,0,none⟩)),(12,.pointer (some ⟨b193,0,none⟩)),(13,.pointer (some ⟨b243,0,none⟩)),(14,.pointer (some ⟨b264,0,none⟩)),(43,.func (.func 34) #[] #[.pointer (some ⟨Q178,0,none⟩)])])) (by kernel_rfl) ?_
    intro l270
    refine r_rangeF (c:=p3_77) (g:=(.tmp 43)) (ps:=#[44,45]) (am:=p3_7) (bd:=p3_8) (gf:=34) (caps:=#[.pointer (some ⟨Q178,0,none⟩)]) (args:=fun L => #[.func (.yield L) #[] #[],.pointer (some ⟨Q178,0,none⟩)]) [p3_9,p3_10] hS269 (by kernel_rfl) (by kernel_rfl) (fun _ => (by kernel_rfl)) ?_
    intro D272 L271 w273 hS274
    have hS277 : St w0 Z (xlp L271 3 (fill (mk 165 [(4,.pointer (some ⟨b5,0,none⟩)),(5,.pointer (some ⟨b9,0,none⟩)),(6,.pointer (some ⟨b13,0,none⟩)),(9,.pointer (some ⟨b123,0,none⟩)),(11,.pointer (some ⟨b167,0,none⟩)),(12,.pointer (some ⟨b193,0,none⟩)),(13,.pointer (some ⟨b243,0,none⟩)),(14,.pointer (some ⟨b264,0,none⟩))]) (fill (mk 165 [(4,.pointer (some ⟨b5,0,none⟩)),(5,.pointer (some ⟨b9,0,none⟩)),(6,.pointer (some ⟨b13,0,none⟩)),(9,.pointer (some ⟨b123,0,none⟩)),(11,.pointer (some ⟨b167,0,none⟩)),(12,.pointer (some ⟨b193,0,none⟩)),(13,.pointer (some ⟨b243,0,none⟩)),(14,.pointer (some ⟨b264,0,none⟩)),(43,.func (.func 34) #[] #[.pointer (some ⟨Q178,0,none⟩)])]) l270)) #[44,45] p3_7 p3_8 D272 [p3_9,p3_10] 0::xdef D272::xblk b264 3 ([.int .i64 0])::xblk b5 3 ([.int .i64 a1])::xblk b9 3 ([.int .i64 a2])::xblk b13 4 ([.bool t246])::xblk b123 43 ([.slice Q86 t73.length Q87,.slice Q88 t74.length Q89,.slice Q90 t75.length Q91,.slice Q93 t76.length Q94,.slice Q95 t77.length Q96,.slice Q97 t78.length Q98,.slice Q99 t79.length Q100,.bool t80,.map (some Q101)])::xrow Q86 Q87 9 1 (t73.flatMap encS)::xrow Q88 Q89 3 1 (t74.flatMap (encI .i64))::xrr Q90 Q91 93 Q92 95 4 enc_weirref14_Move t75::xrow Q93 Q94 4 1 (t76.flatMap encB)::xrow Q95 Q96 84 49 (t77.flatMap enc_api_Final)::xrow Q97 Q98 3 1 (t78.flatMap (encI .i64))::xrow Q99 Q100 88 3 (t79.flatMap enc_api_Pick)::xmap Q101 (t81.map (kv Value.string (Value.int .i64)))::xblk b167 33 ([.pointer (some ⟨Q136,0,none⟩)])::xblk Q136 49 ([.map (some Q137),.map (some Q138),.map (some Q139),.bool t247])::xmap Q137 (t248.map (kv Value.string (Value.int .i64)))::xmap Q138 (t131.map (kv Value.string (Value.int .i64)))::xmap Q139 (t249.map (kv Value.string (Value.int .i64)))::xblk b193 46 ([.func (.func 34) #[] #[.pointer (some ⟨Q178,0,none⟩)]])::xblk Q178 32 ([.string t177,.func (.func 28) #[] #[.pointer (some ⟨Q135,0,none⟩),.pointer (some ⟨Q140,0,none⟩)],.func (.func 31) #[] #[.pointer (some ⟨Q140,0,none⟩),.pointer (some ⟨Q135,0,none⟩)],.func (.func 32) #[] #[.pointer (some ⟨Q135,0,none⟩),.pointer (some ⟨Q140,0,none⟩)]])::xblk Q135 33 ([.pointer (some ⟨Q136,0,none⟩)])::xblk Q140 26 ([.slice Q141 t134.Next.length Q142,.slice Q143 t134.End.length Q144,.slice Q145 t134.Value.length Q146,.int .i64 t134.Start])::xblk b243 3 ([.int .i64 t245])::xds L250::fs) w273:=hS274
    obtain ⟨⟨t278,t279,t280,t281,t282,t283⟩,hr284,hp285⟩:=bind_some' hp263
    try dsimp only at hp285
    have hS296:=hS277.pick7
    obtain ⟨Z297,hz298,hS299,hs300,hb301⟩:=hS296.lendrow len_encS (by omega)
    have hS302:=hS299.pick7
    obtain ⟨Z303,hz304,hS305,hs306,hb307⟩:=hS302.lendrow (len_encI .i64) (by omega)
    have hS308:=hS305.pick7
    obtain ⟨Z309,hz310,hS311,hs312,hb313⟩:=hS308.lendrr len_weirref14_Move (by omega)
    have hS314:=hS311.pick7
    obtain ⟨Z315,hz316,hS317,hs318,hb319⟩:=hS314.lendrow len_encB (by omega)
    have hS320:=hS317.pick7
    obtain ⟨Z321,hz322,hS323,hs324,hb325⟩:=hS320.lendrow len_api_Final (by omega)
    have hS326:=hS323.pick7
    obtain ⟨Z327,hz328,hS329,hs330,hb331⟩:=hS326.lendrow (len_encI .i64) (by omega)
    have hS332:=hS329.pick7
    obtain ⟨Z333,hz334,hS335,hs336,hb337⟩:=hS332.lendrow len_api_Pick (by omega)
    have hS338:=hS335.pick2
    have hS339:=hS338.pick17
    have hS340:=hS339.pick17
    have hS341:=hS340.pick17
    have hS342:=hS341.pick17
    have hS343:=hS342.pick17
    have hS344:=hS343.pick17
    have hS345:=hS344.pick17
    have hS346:=hS345.pick17
    have hS347:=hS346.pick17
    have hS348:=hS347.pick17
    have hS349:=hS348.pick17
    have hS350:=hS349.pick17
    have hS351:=hS350.pick17
    have hS352:=hS351.pick17
    have hS353:=hS352.pick17
    have hS354:=hS353.pick16
    refine ⟨_,(explore_States_1.ok hr284 hS354 (hs300.up (Zm.Le.trans hz304 (Zm.Le.trans hz310 (Zm.Le.trans hz316 (Zm.Le.trans hz322 (Zm.Le.trans hz328 hz334)))))) (hs306.up (Zm.Le.trans hz310 (Zm.Le.trans hz316 (Zm.Le.trans hz322 (Zm.Le.trans hz328 hz334))))) (SlZ.mono (mono_repL (mono_flat _)) hs312 (Zm.Le.trans hz316 (Zm.Le.trans hz322 (Zm.Le.trans hz328 hz334)))) (hs318.up (Zm.Le.trans hz322 (Zm.Le.trans hz328 hz334))) (hs324.up (Zm.Le.trans hz328 hz334)) (hs330.up hz334) hs336 (SlZ.mono (mono_repL (mono_flat _)) hs160 (Zm.Le.trans hz298 (Zm.Le.trans hz304 (Zm.Le.trans hz310 (Zm.Le.trans hz316 (Zm.Le.trans hz322 (Zm.Le.trans hz328 hz334))))))) (hs161.up (Zm.Le.trans hz298 (Zm.Le.trans hz304 (Zm.Le.trans hz310 (Zm.Le.trans hz316 (Zm.Le.trans hz322 (Zm.Le.trans hz328 hz334))))))) (hs162.up (Zm.Le.trans hz298 (Zm.Le.trans hz304 (Zm.Le.trans hz310 (Zm.Le.trans hz316 (Zm.Le.trans hz322 (Zm.Le.trans hz328 hz334)))))))),?_⟩
    rintro _ w355 ⟨rfl,hS356⟩
    refine ⟨⟨_,rfl⟩,?_⟩
    have hS357:=hb337 _ _ hS356
    have hS358:=hb331 _ _ hS357
    have hS359:=hb325 _ _ hS358
    have hS360:=hb319 _ _ hS359
    have hS361:=hb313 _ _ hS360
    have hS362:=hb307 _ _ hS361
    have hS363:=hb301 _ _ hS362
    have hS364:=hS363.pick25
    have hS365:=hS364.pick25
    have hS366:=hS365.dsPush
    have hS367:=hS366.pick8
    rcases Bool.eq_false_or_eq_true (decide (t278 = 0)) with h368 | h369
    ·have hp370:=ite_t hp285 h368
     have hS371 : St w0 Z (xlp L271 3 (fill (mk 165 [(4,.pointer (some ⟨b5,0,none⟩)),(5,.pointer (some ⟨b9,0,none⟩)),(6,.pointer (some ⟨b13,0,none⟩)),(9,.pointer (some ⟨b123,0,none⟩)),(11,.pointer (some ⟨b167,0,none⟩)),(12,.pointer (some ⟨b193,0,none⟩)),(13,.pointer (some ⟨b243,0,none⟩)),(14,.pointer (some ⟨b264,0,none⟩))]) (fill (mk 165 [(4,.pointer (some ⟨b5,0,none⟩)),(5,.pointer (some ⟨b9,0,none⟩)),(6,.pointer (some ⟨b13,0,none⟩)),(9,.pointer (some ⟨b123,0,none⟩)),(11,.pointer (some ⟨b167,0,none⟩)),(12,.pointer (some ⟨b193,0,none⟩)),(13,.pointer (some ⟨b243,0,none⟩)),(14,.pointer (some ⟨b264,0,none⟩)),(43,.func (.func 34) #[] #[.pointer (some ⟨Q178,0,none⟩)])]) l270)) #[44,45] p3_7 p3_8 D272 [p3_9,p3_10] 0::xds (D272::L250)::xrow Q86 Q87 9 1 (t73.flatMap encS)::xrow Q88 Q89 3 1 (t74.flatMap (encI .i64))::xrr Q90 Q91 93 Q92 95 4 enc_weirref14_Move t75::xrow Q93 Q94 4 1 (t76.flatMap encB)::xrow Q95 Q96 84 49 (t77.flatMap enc_api_Final)::xrow Q97 Q98 3 1 (t78.flatMap (encI .i64))::xrow Q99 Q100 88 3 (t79.flatMap enc_api_Pick)::xblk b5 3 ([.int .i64 a1])::xblk b9 3 ([.int .i64 a2])::xblk b13 4 ([.bool t279])::xblk b123 43 ([.slice Q86 t73.length Q87,.slice Q88 t74.length Q89,.slice Q90 t75.length Q91,.slice Q93 t76.length Q94,.slice Q95 t77.length Q96,.slice Q97 t78.length Q98,.slice Q99 t79.length Q100,.bool t80,.map (some Q101)])::xmap Q101 (t81.map (kv Value.string (Value.int .i64)))::xblk b167 33 ([.pointer (some ⟨Q136,0,none⟩)])::xblk Q136 49 ([.map (some Q137),.map (some Q138),.map (some Q139),.bool t280])::xmap Q137 (t281.map (kv Value.string (Value.int .i64)))::xmap Q138 (t131.map (kv Value.string (Value.int .i64)))::xmap Q139 (t282.map (kv Value.string (Value.int .i64)))::xblk b193 46 ([.func (.func 34) #[] #[.pointer (some ⟨Q178,0,none⟩)]])::xblk Q178 32 ([.string t177,.func (.func 28) #[] #[.pointer (some ⟨Q135,0,none⟩),.pointer (some ⟨Q140,0,none⟩)],.func (.func 31) #[] #[.pointer (some ⟨Q140,0,none⟩),.pointer (some ⟨Q135,0,none⟩)],.func (.func 32) #[] #[.pointer (some ⟨Q135,0,none⟩),.pointer (some ⟨Q140,0,none⟩)]])::xblk Q135 33 ([.pointer (some ⟨Q136,0,none⟩)])::xblk Q140 26 ([.slice Q141 t134.Next.length Q142,.slice Q143 t134.End.length Q144,.slice Q145 t134.Value.length Q146,.int .i64 t134.Start])::xblk b243 3 ([.int .i64 t245])::xblk b264 3 ([.int .i64 t283])::fs) w355:=by have h:=hS367; rw [of_decide_eq_true h368] at h; exact h
     refine r_endF0 hS371 ?_
     intro w372 hS373
     refine sR 2 (.code p3_78::td113) ?_
     obtain ⟨v374,hv375,hp376⟩:=bind_some' hp370
     have J381 : ∀ (t377 t378 : Bool) (he383 : (t377,t378) = v374) (l382 : List Value) (w379 : World) (hS380 : St w0 Z (xblk b5 3 ([.int .i64 a1])::xblk b9 3 ([.int .i64 a2])::xblk b13 4 ([.bool t279])::xblk b123 43 ([.slice Q86 t73.length Q87,.slice Q88 t74.length Q89,.slice Q90 t75.length Q91,.slice Q93 t76.length Q94,.slice Q95 t77.length Q96,.slice Q97 t78.length Q98,.slice Q99 t79.length Q100,.bool t80,.map (some Q101)])::xrow Q86 Q87 9 1 (t73.flatMap encS)::xrow Q88 Q89 3 1 (t74.flatMap (encI .i64))::xrr Q90 Q91 93 Q92 95 4 enc_weirref14_Move t75::xrow Q93 Q94 4 1 (t76.flatMap encB)::xrow Q95 Q96 84 49 (t77.flatMap enc_api_Final)::xrow Q97 Q98 3 1 (t78.flatMap (encI .i64))::xrow Q99 Q100 88 3 (t79.flatMap enc_api_Pick)::xmap Q101 (t81.map (kv Value.string (Value.int .i64)))::xblk b167 33 ([.pointer (some ⟨Q136,0,none⟩)])::xblk Q136 49 ([.map (some Q137),.map (some Q138),.map (some Q139),.bool t378])::xmap Q137 (t281.map (kv Value.string (Value.int .i64)))::xmap Q138 (t131.map (kv Value.string (Value.int .i64)))::xmap Q139 (t282.map (kv Value.string (Value.int .i64)))::xblk b193 46 ([.func (.func 34) #[] #[.pointer (some ⟨Q178,0,none⟩)]])::xblk Q178 32 ([.string t177,.func (.func 28) #[] #[.pointer (some ⟨Q135,0,none⟩),.pointer (some ⟨Q140,0,none⟩)],.func (.func 31) #[] #[.pointer (some ⟨Q140,0,none⟩),.pointer (some ⟨Q135,0,none⟩)],.func (.func 32) #[] #[.pointer (some ⟨Q135,0,none⟩),.pointer (some ⟨Q140,0,none⟩)]])::xblk Q135 33 ([.pointer (some ⟨Q136,0,none⟩)])::xblk Q140 26 ([.slice Q141 t134.Next.length Q142,.slice Q143 t134.End.length Q144,.slice Q145 t134.Value.length Q146,.int .i64 t134.Start])::xblk b243 3 ([.int .i64 t245])::xds (D272::L250)::fs) w379),Runs Try.prog ⟨3,dsL (D272::L250),.none⟩ td113 (fill (mk 165 [(4,.pointer (some ⟨b5,0,none⟩)),(5,.pointer (some ⟨b9,0,none⟩)),(6,.pointer (some ⟨b13,0,none⟩)),(9,.pointer (some ⟨b123,0,none⟩)),(11,.pointer (some ⟨b167,0,none⟩)),(12,.pointer (some ⟨b193,0,none⟩)),(13,.pointer (some ⟨b243,0,none⟩)),(163,.bool t377)]) l382) w379 R:=by
      intro t377 t378 he383 l382 w379 hS380
      subst he383
      try dsimp only at hp376
      cases t377
      ·have hp384:=ite_f hp376 rfl
       refine sR 6 (.inRegion (opsOf p3_80) [0]::.code p3_81::td114) ?_
       refine rL1 3 (.tmp 13) 0 (hS380.blk 21 rfl) ?_
       refine sR 2 (.inRegion (opsOf p3_81) [0,1]::td114) ?_
       refine rA 3 (.int .i64 0) [.int .i64 0] hS380 ?_
       intro b385 w386 hS387
       refine rS 3 (.tmp 13) (.tmp 164) 0 (.int .i64 t245) [.int .i64 t245] [.int .i64 t245] hS387 ?_
       intro w389 hS390
       refine sR 2 (.inRegion (opsOf p3_82) [0,1,2]::td109) ?_
       refine rL1 3 (.tmp 13) 0 (hS390.blk 0 rfl) ?_
       refine sR 1 (.inRegion (opsOf p3_82) [2]::td109) ?_
       refine rS 3 (.tmp 13) (.tmp 42) 0 (.int .i64 (IntKind.i64.wrap (t245 + 1))) [.int .i64 (IntKind.i64.wrap (t245 + 1))] [.int .i64 (IntKind.i64.wrap (t245 + 1))] hS390 ?_
       intro w391 hS392
       refine sR 1 td109 ?_
       have hS393:=hS392.pick22
       have hS394:=hS393.drop
       have hS395:=hS394.pick22
       have hS396:=hS395.pick1
       have hS397:=hS396.pick22
       have hS398:=hS397.pick22
       have hS399:=hS398.pick22
       have hS400:=hS399.pick22
       have hS401:=hS400.pick22
       have hS402:=hS401.pick22
       have hS403:=hS402.pick22
       have hS404:=hS403.pick22
       have hS405:=hS404.pick22
       have hS406:=hS405.pick22
       have hS407:=hS406.pick22
       have hS408:=hS407.pick22
       have hS409:=hS408.pick22
       have hS410:=hS409.pick22
       have hS411:=hS410.pick22
       have hS412:=hS411.pick22
       have hS413:=hS412.pick22
       have hS414:=hS413.pick22
       have hS415:=hS414.pick22
       have hS416:=hS415.pick22
       have hS417:=hS416.pick22
       refine sR 1 td110 ?_
       exact rF _ (ih257 (IntKind.i64.wrap (t245 + 1)) t279 t378 t281 t282 _ hp384 he255 _ b385 (D272::L250) _ hS417)
      have hp418:=ite_t hp376 rfl
      refine sR 3 (.inRegion (opsOf p3_83) [0]::td115) ?_
      have hS419:=hS380.pick2
      refine rS 4 (.tmp 6) (.const (.bool false)) 0 (.bool false) [.bool false] [.bool false] hS419 ?_
      intro w420 hS421
      refine sR 1 td115 ?_
      refine r_isret (c:=p3_84) (by kernel_rfl) ?_
      refine runsC_ret (fn:=Try.f3) Try.func3 ?_
      have hS422:=hS421.pick22
      refine leavesC_ds (L:=(D272::L250)) hS422 ?_
      intro w423 hS424
      have hS425:=hS424.drop
      have hS426:=hS425.drop
      have hS427:=hS426.drop
      have hS428:=hS427.drop
      have hS429:=hS428.drop
      have hS430:=hS429.drop
      have hS431:=hS430.drop
      have hS432:=hS431.drop
      have hS433:=hS432.drop
      have hS434:=hS433.drop
      have hS435:=hS434.drop
      have hS436:=hS435.drop
      have hS437:=hS436.drop
      have hS438:=hS437.drop
      have hS439:=hS438.drop
      have hS440:=hS439.drop
      have hS441:=hS440.drop
      have hS442:=hS441.drop
      have hS443:=hS442.drop
      have hS444:=hS443.drop
      have hS445:=hS444.drop
      have hS446:=hS445.drop
      refine leavesC_nil (v:=.bool false) (resl_run (fn:=Try.f3) (by kernel_rfl) (.cell (t:=6) (ty:=4) (by kernel_rfl) (loads_at 0 (hS424.blk 0 rfl) (by kernel_rfl) (by kernel_rfl)) .nil)) ?_
      cases hq260 _ (Option.some.inj hp418)
      exact hR _ _ ⟨rfl,hS446⟩
     refine sR 1 (iR p3_78 0 25::td113) ?_
     refine rL1 3 (.tmp 13) 0 (hS373.blk 22 rfl) ?_
     refine sI 1 (iR p3_78 2 23::td113) 140 hv375 (fun hp450 => ?_) fun hp609 => ?_
     ·refine sR 1 (iR p3_78 3 22::td113) ?_
      refine rL1 33 (.tmp 11) 0 (hS373.blk 13 rfl) ?_
      refine sR 1 (iR p3_78 5 20::td113) ?_
      refine rL1 36 (.tmp 143) 0 (hS373.blk 11 rfl) ?_
      obtain ⟨⟨t451,t452⟩,hr453,hp454⟩:=bind_some' hp450
      try dsimp only at hp454
      have hS455:=hS373.pick1
      obtain ⟨Z456,hz457,hS458,hs459,hb460⟩:=hS455.lendrow len_encS (by omega)
      have hS461:=hS458.pick16
      have hS462:=hS461.pick16
      have hS463:=hS462.pick16
      have hS464:=hS463.pick16
      refine rC (weirlaw14_Book__within.ok hr453 hS464 hs459) ?_
      rintro _ w465 ⟨rfl,hS466⟩
      refine ⟨_,rfl,?_⟩
      have hS467:=hb460 _ _ hS466
      refine sI 1 (iR p3_78 8 17::td113) 146 hp454 (fun hp470 => ?_) fun hp496 => ?_
      ·refine sR 18 td113 ?_
       have hS471:=hS467.pick23
       have hS472:=hS471.drop
       have hS473:=hS472.pick5
       have hS474:=hS473.pick22
       have hS475:=hS474.pick22
       have hS476:=hS475.pick22
       have hS477:=hS476.pick22
       have hS478:=hS477.pick22
       have hS479:=hS478.pick10
       have hS480:=hS479.pick10
       have hS481:=hS480.pick10
       have hS482:=hS481.pick10
       have hS483:=hS482.pick22
       have hS484:=hS483.pick22
       have hS485:=hS484.pick18
       have hS486:=hS485.pick18
       have hS487:=hS486.pick18
       have hS488:=hS487.pick18
       have hS489:=hS488.pick18
       have hS490:=hS489.pick18
       have hS491:=hS490.pick18
       have hS492:=hS491.pick22
       have hS493:=hS492.pick22
       have hS494:=hS493.pick22
       have hS495:=hS494.pick22
       exact rF _ (J381 true t452 (Option.some.inj hp470) _ _ hS495)
      refine sR 2 td116 ?_
      refine rL1 3 (.tmp 14) 0 (hS467.blk 23 rfl) ?_
      refine sR 1 td117 ?_
      refine rL1 36 (.tmp 150) 0 (hS467.blk 15 rfl) ?_
      refine sI 2 td118 153 hp496 (fun hp499 => ?_) fun hp583 => ?_
      ·refine sR 1 td119 ?_
       refine rL1 3 (.tmp 13) 0 (hS467.blk 22 rfl) ?_
       refine sI 1 td120 156 hp499 (fun hp502 => ?_) fun hp528 => ?_
       ·refine sR 8 td113 ?_
        have hS503:=hS467.pick23
        have hS504:=hS503.drop
        have hS505:=hS504.pick5
        have hS506:=hS505.pick22
        have hS507:=hS506.pick22
        have hS508:=hS507.pick22
        have hS509:=hS508.pick22
        have hS510:=hS509.pick22
        have hS511:=hS510.pick10
        have hS512:=hS511.pick10
        have hS513:=hS512.pick10
        have hS514:=hS513.pick10
        have hS515:=hS514.pick22
        have hS516:=hS515.pick22
        have hS517:=hS516.pick18
        have hS518:=hS517.pick18
        have hS519:=hS518.pick18
        have hS520:=hS519.pick18
        have hS521:=hS520.pick18
        have hS522:=hS521.pick18
        have hS523:=hS522.pick18
        have hS524:=hS523.pick22
        have hS525:=hS524.pick22
        have hS526:=hS525.pick22
        have hS527:=hS526.pick22
        exact rF _ (J381 true t452 (Option.some.inj hp502) _ _ hS527)
       refine sR 1 td121 ?_
       refine rL1 3 (.tmp 14) 0 (hS467.blk 23 rfl) ?_
       refine rL1 3 (.tmp 4) 0 (hS467.blk 12 rfl) ?_
       refine sI 1 td122 160 hp528 (fun hp531 => ?_) fun hp557 => ?_
       ·refine sR 4 td113 ?_
        have hS532:=hS467.pick23
        have hS533:=hS532.drop
        have hS534:=hS533.pick5
        have hS535:=hS534.pick22
        have hS536:=hS535.pick22
        have hS537:=hS536.pick22
        have hS538:=hS537.pick22
        have hS539:=hS538.pick22
        have hS540:=hS539.pick10
        have hS541:=hS540.pick10
        have hS542:=hS541.pick10
        have hS543:=hS542.pick10
        have hS544:=hS543.pick22
        have hS545:=hS544.pick22
        have hS546:=hS545.pick18
        have hS547:=hS546.pick18
        have hS548:=hS547.pick18
        have hS549:=hS548.pick18
        have hS550:=hS549.pick18
        have hS551:=hS550.pick18
        have hS552:=hS551.pick18
        have hS553:=hS552.pick22
        have hS554:=hS553.pick22
        have hS555:=hS554.pick22
        have hS556:=hS555.pick22
        exact rF _ (J381 true t452 (Option.some.inj hp531) _ _ hS556)
       refine sR 4 td113 ?_
       have hS558:=hS467.pick23
       have hS559:=hS558.drop
       have hS560:=hS559.pick5
       have hS561:=hS560.pick22
       have hS562:=hS561.pick22
       have hS563:=hS562.pick22
       have hS564:=hS563.pick22
       have hS565:=hS564.pick22
       have hS566:=hS565.pick10
       have hS567:=hS566.pick10
       have hS568:=hS567.pick10
       have hS569:=hS568.pick10
       have hS570:=hS569.pick22
       have hS571:=hS570.pick22
       have hS572:=hS571.pick18
       have hS573:=hS572.pick18
       have hS574:=hS573.pick18
       have hS575:=hS574.pick18
       have hS576:=hS575.pick18
       have hS577:=hS576.pick18
       have hS578:=hS577.pick18
       have hS579:=hS578.pick22
       have hS580:=hS579.pick22
       have hS581:=hS580.pick22
       have hS582:=hS581.pick22
       exact rF _ (J381 false t452 (Option.some.inj hp557) _ _ hS582)
      refine sR 11 td113 ?_
      have hS584:=hS467.pick23
      have hS585:=hS584.drop
      have hS586:=hS585.pick5
      have hS587:=hS586.pick22
      have hS588:=hS587.pick22
      have hS589:=hS588.pick22
      have hS590:=hS589.pick22
      have hS591:=hS590.pick22
      have hS592:=hS591.pick10
      have hS593:=hS592.pick10
      have hS594:=hS593.pick10
      have hS595:=hS594.pick10
      have hS596:=hS595.pick22
      have hS597:=hS596.pick22
      have hS598:=hS597.pick18
      have hS599:=hS598.pick18
      have hS600:=hS599.pick18
      have hS601:=hS600.pick18
      have hS602:=hS601.pick18
      have hS603:=hS602.pick18
      have hS604:=hS603.pick18
      have hS605:=hS604.pick22
      have hS606:=hS605.pick22
      have hS607:=hS606.pick22
      have hS608:=hS607.pick22
      exact rF _ (J381 false t452 (Option.some.inj hp583) _ _ hS608)
     refine sR 8 td116 ?_
     refine rL1 3 (.tmp 14) 0 (hS373.blk 23 rfl) ?_
     refine sR 1 td117 ?_
     refine rL1 36 (.tmp 150) 0 (hS373.blk 11 rfl) ?_
     refine sI 2 td118 153 hp609 (fun hp612 => ?_) fun hp693 => ?_
     ·refine sR 1 td119 ?_
      refine rL1 3 (.tmp 13) 0 (hS373.blk 22 rfl) ?_
      refine sI 1 td120 156 hp612 (fun hp615 => ?_) fun hp640 => ?_
      ·refine sR 8 td113 ?_
       have hS616:=hS373.pick23
       have hS617:=hS616.drop
       have hS618:=hS617.pick22
       have hS619:=hS618.pick22
       have hS620:=hS619.pick22
       have hS621:=hS620.pick22
       have hS622:=hS621.pick22
       have hS623:=hS622.pick22
       have hS624:=hS623.pick22
       have hS625:=hS624.pick22
       have hS626:=hS625.pick22
       have hS627:=hS626.pick22
       have hS628:=hS627.pick22
       have hS629:=hS628.pick18
       have hS630:=hS629.pick18
       have hS631:=hS630.pick18
       have hS632:=hS631.pick18
       have hS633:=hS632.pick18
       have hS634:=hS633.pick18
       have hS635:=hS634.pick18
       have hS636:=hS635.pick22
       have hS637:=hS636.pick22
       have hS638:=hS637.pick22
       have hS639:=hS638.pick22
       exact rF _ (J381 true t280 (Option.some.inj hp615) _ _ hS639)
      refine sR 1 td121 ?_
      refine rL1 3 (.tmp 14) 0 (hS373.blk 23 rfl) ?_
      refine rL1 3 (.tmp 4) 0 (hS373.blk 8 rfl) ?_
      refine sI 1 td122 160 hp640 (fun hp643 => ?_) fun hp668 => ?_
      ·refine sR 4 td113 ?_
       have hS644:=hS373.pick23
       have hS645:=hS644.drop
       have hS646:=hS645.pick22
       have hS647:=hS646.pick22
       have hS648:=hS647.pick22
       have hS649:=hS648.pick22
       have hS650:=hS649.pick22
       have hS651:=hS650.pick22
       have hS652:=hS651.pick22
       have hS653:=hS652.pick22
       have hS654:=hS653.pick22
       have hS655:=hS654.pick22
       have hS656:=hS655.pick22
       have hS657:=hS656.pick18
       have hS658:=hS657.pick18
       have hS659:=hS658.pick18
       have hS660:=hS659.pick18
       have hS661:=hS660.pick18
       have hS662:=hS661.pick18
       have hS663:=hS662.pick18
       have hS664:=hS663.pick22
       have hS665:=hS664.pick22
       have hS666:=hS665.pick22
       have hS667:=hS666.pick22
       exact rF _ (J381 true t280 (Option.some.inj hp643) _ _ hS667)
      refine sR 4 td113 ?_
      have hS669:=hS373.pick23
      have hS670:=hS669.drop
      have hS671:=hS670.pick22
      have hS672:=hS671.pick22
      have hS673:=hS672.pick22
      have hS674:=hS673.pick22
      have hS675:=hS674.pick22
      have hS676:=hS675.pick22
      have hS677:=hS676.pick22
      have hS678:=hS677.pick22
      have hS679:=hS678.pick22
      have hS680:=hS679.pick22
      have hS681:=hS680.pick22
      have hS682:=hS681.pick18
      have hS683:=hS682.pick18
      have hS684:=hS683.pick18
      have hS685:=hS684.pick18
      have hS686:=hS685.pick18
      have hS687:=hS686.pick18
      have hS688:=hS687.pick18
      have hS689:=hS688.pick22
      have hS690:=hS689.pick22
      have hS691:=hS690.pick22
      have hS692:=hS691.pick22
      exact rF _ (J381 false t280 (Option.some.inj hp668) _ _ hS692)
     refine sR 11 td113 ?_
     have hS694:=hS373.pick23
     have hS695:=hS694.drop
     have hS696:=hS695.pick22
     have hS697:=hS696.pick22
     have hS698:=hS697.pick22
     have hS699:=hS698.pick22
     have hS700:=hS699.pick22
     have hS701:=hS700.pick22
     have hS702:=hS701.pick22
     have hS703:=hS702.pick22
     have hS704:=hS703.pick22
     have hS705:=hS704.pick22
     have hS706:=hS705.pick22
     have hS707:=hS706.pick18
     have hS708:=hS707.pick18
     have hS709:=hS708.pick18
     have hS710:=hS709.pick18
     have hS711:=hS710.pick18
     have hS712:=hS711.pick18
     have hS713:=hS712.pick18
     have hS714:=hS713.pick22
     have hS715:=hS714.pick22
     have hS716:=hS715.pick22
     have hS717:=hS716.pick22
     exact rF _ (J381 false t280 (Option.some.inj hp693) _ _ hS717)
    have hp718:=ite_f hp285 h369
    rcases Bool.eq_false_or_eq_true (decide (t278 = 1)) with h719 | h720
    ·have hp721:=ite_t hp718 h719
     have hS722 : St w0 Z (xlp L271 3 (fill (mk 165 [(4,.pointer (some ⟨b5,0,none⟩)),(5,.pointer (some ⟨b9,0,none⟩)),(6,.pointer (some ⟨b13,0,none⟩)),(9,.pointer (some ⟨b123,0,none⟩)),(11,.pointer (some ⟨b167,0,none⟩)),(12,.pointer (some ⟨b193,0,none⟩)),(13,.pointer (some ⟨b243,0,none⟩)),(14,.pointer (some ⟨b264,0,none⟩))]) (fill (mk 165 [(4,.pointer (some ⟨b5,0,none⟩)),(5,.pointer (some ⟨b9,0,none⟩)),(6,.pointer (some ⟨b13,0,none⟩)),(9,.pointer (some ⟨b123,0,none⟩)),(11,.pointer (some ⟨b167,0,none⟩)),(12,.pointer (some ⟨b193,0,none⟩)),(13,.pointer (some ⟨b243,0,none⟩)),(14,.pointer (some ⟨b264,0,none⟩)),(43,.func (.func 34) #[] #[.pointer (some ⟨Q178,0,none⟩)])]) l270)) #[44,45] p3_7 p3_8 D272 [p3_9,p3_10] 1::xds (D272::L250)::xrow Q86 Q87 9 1 (t73.flatMap encS)::xrow Q88 Q89 3 1 (t74.flatMap (encI .i64))::xrr Q90 Q91 93 Q92 95 4 enc_weirref14_Move t75::xrow Q93 Q94 4 1 (t76.flatMap encB)::xrow Q95 Q96 84 49 (t77.flatMap enc_api_Final)::xrow Q97 Q98 3 1 (t78.flatMap (encI .i64))::xrow Q99 Q100 88 3 (t79.flatMap enc_api_Pick)::xblk b5 3 ([.int .i64 a1])::xblk b9 3 ([.int .i64 a2])::xblk b13 4 ([.bool t279])::xblk b123 43 ([.slice Q86 t73.length Q87,.slice Q88 t74.length Q89,.slice Q90 t75.length Q91,.slice Q93 t76.length Q94,.slice Q95 t77.length Q96,.slice Q97 t78.length Q98,.slice Q99 t79.length Q100,.bool t80,.map (some Q101)])::xmap Q101 (t81.map (kv Value.string (Value.int .i64)))::xblk b167 33 ([.pointer (some ⟨Q136,0,none⟩)])::xblk Q136 49 ([.map (some Q137),.map (some Q138),.map (some Q139),.bool t280])::xmap Q137 (t281.map (kv Value.string (Value.int .i64)))::xmap Q138 (t131.map (kv Value.string (Value.int .i64)))::xmap Q139 (t282.map (kv Value.string (Value.int .i64)))::xblk b193 46 ([.func (.func 34) #[] #[.pointer (some ⟨Q178,0,none⟩)]])::xblk Q178 32 ([.string t177,.func (.func 28) #[] #[.pointer (some ⟨Q135,0,none⟩),.pointer (some ⟨Q140,0,none⟩)],.func (.func 31) #[] #[.pointer (some ⟨Q140,0,none⟩),.pointer (some ⟨Q135,0,none⟩)],.func (.func 32) #[] #[.pointer (some ⟨Q135,0,none⟩),.pointer (some ⟨Q140,0,none⟩)]])::xblk Q135 33 ([.pointer (some ⟨Q136,0,none⟩)])::xblk Q140 26 ([.slice Q141 t134.Next.length Q142,.slice Q143 t134.End.length Q144,.slice Q145 t134.Value.length Q146,.int .i64 t134.Start])::xblk b243 3 ([.int .i64 t245])::xblk b264 3 ([.int .i64 t283])::fs) w355:=by have h:=hS367; rw [of_decide_eq_true h719] at h; exact h
     refine r_endFj 0 (cj:=p3_9) (by kernel_rfl) hS722 ?_
     intro w723 hS724
     refine r_isret (c:=p3_9) (by kernel_rfl) ?_
     refine runsC_ret (fn:=Try.f3) Try.func3 ?_
     refine leavesC_ds (L:=(D272::L250)) hS724 ?_
     intro w725 hS726
     have hS727:=hS726.drop
     have hS728:=hS727.drop
     have hS729:=hS728.drop
     have hS730:=hS729.drop
     have hS731:=hS730.drop
     have hS732:=hS731.drop
     have hS733:=hS732.drop
     have hS734:=hS733.drop
     have hS735:=hS734.drop
     have hS736:=hS735.drop
     have hS737:=hS736.drop
     have hS738:=hS737.drop
     have hS739:=hS738.drop
     have hS740:=hS739.drop
     have hS741:=hS740.drop
     have hS742:=hS741.drop
     have hS743:=hS742.drop
     have hS744:=hS743.drop
     have hS745:=hS744.drop
     have hS746:=hS745.drop
     have hS747:=hS746.drop
     have hS748:=hS747.drop
     have hS749:=hS748.drop
     refine leavesC_nil (v:=.bool t279) (resl_run (fn:=Try.f3) (by kernel_rfl) (.cell (t:=6) (ty:=4) (by kernel_rfl) (loads_at 0 (hS726.blk 9 rfl) (by kernel_rfl) (by kernel_rfl)) .nil)) ?_
     cases hq260 _ (Option.some.inj hp721)
     exact hR _ _ ⟨rfl,hS749⟩
    have hp751:=ite_f hp718 h720
    obtain ⟨g752,hp753⟩:=ite_some hp751
    have hS754 : St w0 Z (xlp L271 3 (fill (mk 165 [(4,.pointer (some ⟨b5,0,none⟩)),(5,.pointer (some ⟨b9,0,none⟩)),(6,.pointer (some ⟨b13,0,none⟩)),(9,.pointer (some ⟨b123,0,none⟩)),(11,.pointer (some ⟨b167,0,none⟩)),(12,.pointer (some ⟨b193,0,none⟩)),(13,.pointer (some ⟨b243,0,none⟩)),(14,.pointer (some ⟨b264,0,none⟩))]) (fill (mk 165 [(4,.pointer (some ⟨b5,0,none⟩)),(5,.pointer (some ⟨b9,0,none⟩)),(6,.pointer (some ⟨b13,0,none⟩)),(9,.pointer (some ⟨b123,0,none⟩)),(11,.pointer (some ⟨b167,0,none⟩)),(12,.pointer (some ⟨b193,0,none⟩)),(13,.pointer (some ⟨b243,0,none⟩)),(14,.pointer (some ⟨b264,0,none⟩)),(43,.func (.func 34) #[] #[.pointer (some ⟨Q178,0,none⟩)])]) l270)) #[44,45] p3_7 p3_8 D272 [p3_9,p3_10] 2::xds (D272::L250)::xrow Q86 Q87 9 1 (t73.flatMap encS)::xrow Q88 Q89 3 1 (t74.flatMap (encI .i64))::xrr Q90 Q91 93 Q92 95 4 enc_weirref14_Move t75::xrow Q93 Q94 4 1 (t76.flatMap encB)::xrow Q95 Q96 84 49 (t77.flatMap enc_api_Final)::xrow Q97 Q98 3 1 (t78.flatMap (encI .i64))::xrow Q99 Q100 88 3 (t79.flatMap enc_api_Pick)::xblk b5 3 ([.int .i64 a1])::xblk b9 3 ([.int .i64 a2])::xblk b13 4 ([.bool t279])::xblk b123 43 ([.slice Q86 t73.length Q87,.slice Q88 t74.length Q89,.slice Q90 t75.length Q91,.slice Q93 t76.length Q94,.slice Q95 t77.length Q96,.slice Q97 t78.length Q98,.slice Q99 t79.length Q100,.bool t80,.map (some Q101)])::xmap Q101 (t81.map (kv Value.string (Value.int .i64)))::xblk b167 33 ([.pointer (some ⟨Q136,0,none⟩)])::xblk Q136 49 ([.map (some Q137),.map (some Q138),.map (some Q139),.bool t280])::xmap Q137 (t281.map (kv Value.string (Value.int .i64)))::xmap Q138 (t131.map (kv Value.string (Value.int .i64)))::xmap Q139 (t282.map (kv Value.string (Value.int .i64)))::xblk b193 46 ([.func (.func 34) #[] #[.pointer (some ⟨Q178,0,none⟩)]])::xblk Q178 32 ([.string t177,.func (.func 28) #[] #[.pointer (some ⟨Q135,0,none⟩),.pointer (some ⟨Q140,0,none⟩)],.func (.func 31) #[] #[.pointer (some ⟨Q140,0,none⟩),.pointer (some ⟨Q135,0,none⟩)],.func (.func 32) #[] #[.pointer (some ⟨Q135,0,none⟩),.pointer (some ⟨Q140,0,none⟩)]])::xblk Q135 33 ([.pointer (some ⟨Q136,0,none⟩)])::xblk Q140 26 ([.slice Q141 t134.Next.length Q142,.slice Q143 t134.End.length Q144,.slice Q145 t134.Value.length Q146,.int .i64 t134.Start])::xblk b243 3 ([.int .i64 t245])::xblk b264 3 ([.int .i64 t283])::fs) w355:=by have h:=hS367; rw [g752] at h; exact h
    refine r_endFj 1 (cj:=p3_10) (by kernel_rfl) hS754 ?_
    intro w755 hS756
    refine sR 2 (.code p3_78::td113) ?_
    obtain ⟨v757,hv758,hp759⟩:=bind_some' hp753
    have J764 : ∀ (t760 t761 : Bool) (he766 : (t760,t761) = v757) (l765 : List Value) (w762 : World) (hS763 : St w0 Z (xblk b5 3 ([.int .i64 a1])::xblk b9 3 ([.int .i64 a2])::xblk b13 4 ([.bool t279])::xblk b123 43 ([.slice Q86 t73.length Q87,.slice Q88 t74.length Q89,.slice Q90 t75.length Q91,.slice Q93 t76.length Q94,.slice Q95 t77.length Q96,.slice Q97 t78.length Q98,.slice Q99 t79.length Q100,.bool t80,.map (some Q101)])::xrow Q86 Q87 9 1 (t73.flatMap encS)::xrow Q88 Q89 3 1 (t74.flatMap (encI .i64))::xrr Q90 Q91 93 Q92 95 4 enc_weirref14_Move t75::xrow Q93 Q94 4 1 (t76.flatMap encB)::xrow Q95 Q96 84 49 (t77.flatMap enc_api_Final)::xrow Q97 Q98 3 1 (t78.flatMap (encI .i64))::xrow Q99 Q100 88 3 (t79.flatMap enc_api_Pick)::xmap Q101 (t81.map (kv Value.string (Value.int .i64)))::xblk b167 33 ([.pointer (some ⟨Q136,0,none⟩)])::xblk Q136 49 ([.map (some Q137),.map (some Q138),.map (some Q139),.bool t761])::xmap Q137 (t281.map (kv Value.string (Value.int .i64)))::xmap Q138 (t131.map (kv Value.string (Value.int .i64)))::xmap Q139 (t282.map (kv Value.string (Value.int .i64)))::xblk b193 46 ([.func (.func 34) #[] #[.pointer (some ⟨Q178,0,none⟩)]])::xblk Q178 32 ([.string t177,.func (.func 28) #[] #[.pointer (some ⟨Q135,0,none⟩),.pointer (some ⟨Q140,0,none⟩)],.func (.func 31) #[] #[.pointer (some ⟨Q140,0,none⟩),.pointer (some ⟨Q135,0,none⟩)],.func (.func 32) #[] #[.pointer (some ⟨Q135,0,none⟩),.pointer (some ⟨Q140,0,none⟩)]])::xblk Q135 33 ([.pointer (some ⟨Q136,0,none⟩)])::xblk Q140 26 ([.slice Q141 t134.Next.length Q142,.slice Q143 t134.End.length Q144,.slice Q145 t134.Value.length Q146,.int .i64 t134.Start])::xblk b243 3 ([.int .i64 t245])::xds (D272::L250)::fs) w762),Runs Try.prog ⟨3,dsL (D272::L250),.none⟩ td113 (fill (mk 165 [(4,.pointer (some ⟨b5,0,none⟩)),(5,.pointer (some ⟨b9,0,none⟩)),(6,.pointer (some ⟨b13,0,none⟩)),(9,.pointer (some ⟨b123,0,none⟩)),(11,.pointer (some ⟨b167,0,none⟩)),(12,.pointer (some ⟨b193,0,none⟩)),(13,.pointer (some ⟨b243,0,none⟩)),(163,.bool t760)]) l765) w762 R:=by
     intro t760 t761 he766 l765 w762 hS763
     subst he766
     try dsimp only at hp759
     cases t760
     ·have hp767:=ite_f hp759 rfl
      refine sR 6 (.inRegion (opsOf p3_80) [0]::.code p3_81::td114) ?_
      refine rL1 3 (.tmp 13) 0 (hS763.blk 21 rfl) ?_
      refine sR 2 (.inRegion (opsOf p3_81) [0,1]::td114) ?_
      refine rA 3 (.int .i64 0) [.int .i64 0] hS763 ?_
      intro b768 w769 hS770
      refine rS 3 (.tmp 13) (.tmp 164) 0 (.int .i64 t245) [.int .i64 t245] [.int .i64 t245] hS770 ?_
      intro w772 hS773
      refine sR 2 (.inRegion (opsOf p3_82) [0,1,2]::td109) ?_
      refine rL1 3 (.tmp 13) 0 (hS773.blk 0 rfl) ?_
      refine sR 1 (.inRegion (opsOf p3_82) [2]::td109) ?_
      refine rS 3 (.tmp 13) (.tmp 42) 0 (.int .i64 (IntKind.i64.wrap (t245 + 1))) [.int .i64 (IntKind.i64.wrap (t245 + 1))] [.int .i64 (IntKind.i64.wrap (t245 + 1))] hS773 ?_
      intro w774 hS775
      refine sR 1 td109 ?_
      have hS776:=hS775.pick22
      have hS777:=hS776.drop
      have hS778:=hS777.pick22
      have hS779:=hS778.pick1
      have hS780:=hS779.pick22
      have hS781:=hS780.pick22
      have hS782:=hS781.pick22
      have hS783:=hS782.pick22
      have hS784:=hS783.pick22
      have hS785:=hS784.pick22
      have hS786:=hS785.pick22
      have hS787:=hS786.pick22
      have hS788:=hS787.pick22
      have hS789:=hS788.pick22
      have hS790:=hS789.pick22
      have hS791:=hS790.pick22
      have hS792:=hS791.pick22
      have hS793:=hS792.pick22
      have hS794:=hS793.pick22
      have hS795:=hS794.pick22
      have hS796:=hS795.pick22
      have hS797:=hS796.pick22
      have hS798:=hS797.pick22
      have hS799:=hS798.pick22
      have hS800:=hS799.pick22
      refine sR 1 td110 ?_
      exact rF _ (ih257 (IntKind.i64.wrap (t245 + 1)) t279 t761 t281 t282 _ hp767 he255 _ b768 (D272::L250) _ hS800)
     have hp801:=ite_t hp759 rfl
     refine sR 3 (.inRegion (opsOf p3_83) [0]::td115) ?_
     have hS802:=hS763.pick2
     refine rS 4 (.tmp 6) (.const (.bool false)) 0 (.bool false) [.bool false] [.bool false] hS802 ?_
     intro w803 hS804
     refine sR 1 td115 ?_
     refine r_isret (c:=p3_84) (by kernel_rfl) ?_
     refine runsC_ret (fn:=Try.f3) Try.func3 ?_
     have hS805:=hS804.pick22
     refine leavesC_ds (L:=(D272::L250)) hS805 ?_
     intro w806 hS807
     have hS808:=hS807.drop
     have hS809:=hS808.drop
     have hS810:=hS809.drop
     have hS811:=hS810.drop
     have hS812:=hS811.drop
     have hS813:=hS812.drop
     have hS814:=hS813.drop
     have hS815:=hS814.drop
     have hS816:=hS815.drop
     have hS817:=hS816.drop
     have hS818:=hS817.drop
     have hS819:=hS818.drop
     have hS820:=hS819.drop
     have hS821:=hS820.drop
     have hS822:=hS821.drop
     have hS823:=hS822.drop
     have hS824:=hS823.drop
     have hS825:=hS824.drop
     have hS826:=hS825.drop
     have hS827:=hS826.drop
     have hS828:=hS827.drop
     have hS829:=hS828.drop
     refine leavesC_nil (v:=.bool false) (resl_run (fn:=Try.f3) (by kernel_rfl) (.cell (t:=6) (ty:=4) (by kernel_rfl) (loads_at 0 (hS807.blk 0 rfl) (by kernel_rfl) (by kernel_rfl)) .nil)) ?_
     cases hq260 _ (Option.some.inj hp801)
     exact hR _ _ ⟨rfl,hS829⟩
    refine sR 1 (iR p3_78 0 25::td113) ?_
    refine rL1 3 (.tmp 13) 0 (hS756.blk 22 rfl) ?_
    refine sI 1 (iR p3_78 2 23::td113) 140 hv758 (fun hp833 => ?_) fun hp992 => ?_
    ·refine sR 1 (iR p3_78 3 22::td113) ?_
     refine rL1 33 (.tmp 11) 0 (hS756.blk 13 rfl) ?_
     refine sR 1 (iR p3_78 5 20::td113) ?_
     refine rL1 36 (.tmp 143) 0 (hS756.blk 11 rfl) ?_
     obtain ⟨⟨t834,t835⟩,hr836,hp837⟩:=bind_some' hp833
     try dsimp only at hp837
     have hS838:=hS756.pick1
     obtain ⟨Z839,hz840,hS841,hs842,hb843⟩:=hS838.lendrow len_encS (by omega)
     have hS844:=hS841.pick16
     have hS845:=hS844.pick16
     have hS846:=hS845.pick16
     have hS847:=hS846.pick16
     refine rC (weirlaw14_Book__within.ok hr836 hS847 hs842) ?_
     rintro _ w848 ⟨rfl,hS849⟩
     refine ⟨_,rfl,?_⟩
     have hS850:=hb843 _ _ hS849
     refine sI 1 (iR p3_78 8 17::td113) 146 hp837 (fun hp853 => ?_) fun hp879 => ?_
     ·refine sR 18 td113 ?_
      have hS854:=hS850.pick23
      have hS855:=hS854.drop
      have hS856:=hS855.pick5
      have hS857:=hS856.pick22
      have hS858:=hS857.pick22
      have hS859:=hS858.pick22
      have hS860:=hS859.pick22
      have hS861:=hS860.pick22
      have hS862:=hS861.pick10
      have hS863:=hS862.pick10
      have hS864:=hS863.pick10
      have hS865:=hS864.pick10
      have hS866:=hS865.pick22
      have hS867:=hS866.pick22
      have hS868:=hS867.pick18
      have hS869:=hS868.pick18
      have hS870:=hS869.pick18
      have hS871:=hS870.pick18
      have hS872:=hS871.pick18
      have hS873:=hS872.pick18
      have hS874:=hS873.pick18
      have hS875:=hS874.pick22
      have hS876:=hS875.pick22
      have hS877:=hS876.pick22
      have hS878:=hS877.pick22
      exact rF _ (J764 true t835 (Option.some.inj hp853) _ _ hS878)
     refine sR 2 td116 ?_
     refine rL1 3 (.tmp 14) 0 (hS850.blk 23 rfl) ?_
     refine sR 1 td117 ?_
     refine rL1 36 (.tmp 150) 0 (hS850.blk 15 rfl) ?_
     refine sI 2 td118 153 hp879 (fun hp882 => ?_) fun hp966 => ?_
     ·refine sR 1 td119 ?_
      refine rL1 3 (.tmp 13) 0 (hS850.blk 22 rfl) ?_
      refine sI 1 td120 156 hp882 (fun hp885 => ?_) fun hp911 => ?_
      ·refine sR 8 td113 ?_
       have hS886:=hS850.pick23
       have hS887:=hS886.drop
       have hS888:=hS887.pick5
       have hS889:=hS888.pick22
       have hS890:=hS889.pick22
       have hS891:=hS890.pick22
       have hS892:=hS891.pick22
       have hS893:=hS892.pick22
       have hS894:=hS893.pick10
       have hS895:=hS894.pick10
       have hS896:=hS895.pick10
       have hS897:=hS896.pick10
       have hS898:=hS897.pick22
       have hS899:=hS898.pick22
       have hS900:=hS899.pick18
       have hS901:=hS900.pick18
       have hS902:=hS901.pick18
       have hS903:=hS902.pick18
       have hS904:=hS903.pick18
       have hS905:=hS904.pick18
       have hS906:=hS905.pick18
       have hS907:=hS906.pick22
       have hS908:=hS907.pick22
       have hS909:=hS908.pick22
       have hS910:=hS909.pick22
       exact rF _ (J764 true t835 (Option.some.inj hp885) _ _ hS910)
      refine sR 1 td121 ?_
      refine rL1 3 (.tmp 14) 0 (hS850.blk 23 rfl) ?_
      refine rL1 3 (.tmp 4) 0 (hS850.blk 12 rfl) ?_
      refine sI 1 td122 160 hp911 (fun hp914 => ?_) fun hp940 => ?_
      ·refine sR 4 td113 ?_
       have hS915:=hS850.pick23
       have hS916:=hS915.drop
       have hS917:=hS916.pick5
       have hS918:=hS917.pick22
       have hS919:=hS918.pick22
       have hS920:=hS919.pick22
       have hS921:=hS920.pick22
       have hS922:=hS921.pick22
       have hS923:=hS922.pick10
       have hS924:=hS923.pick10
       have hS925:=hS924.pick10
       have hS926:=hS925.pick10
       have hS927:=hS926.pick22
       have hS928:=hS927.pick22
       have hS929:=hS928.pick18
       have hS930:=hS929.pick18
       have hS931:=hS930.pick18
       have hS932:=hS931.pick18
       have hS933:=hS932.pick18
       have hS934:=hS933.pick18
       have hS935:=hS934.pick18
       have hS936:=hS935.pick22
       have hS937:=hS936.pick22
       have hS938:=hS937.pick22
       have hS939:=hS938.pick22
       exact rF _ (J764 true t835 (Option.some.inj hp914) _ _ hS939)
      refine sR 4 td113 ?_
      have hS941:=hS850.pick23
      have hS942:=hS941.drop
      have hS943:=hS942.pick5
      have hS944:=hS943.pick22
      have hS945:=hS944.pick22
      have hS946:=hS945.pick22
      have hS947:=hS946.pick22
      have hS948:=hS947.pick22
      have hS949:=hS948.pick10
      have hS950:=hS949.pick10
      have hS951:=hS950.pick10
      have hS952:=hS951.pick10
      have hS953:=hS952.pick22
      have hS954:=hS953.pick22
      have hS955:=hS954.pick18
      have hS956:=hS955.pick18
      have hS957:=hS956.pick18
      have hS958:=hS957.pick18
      have hS959:=hS958.pick18
      have hS960:=hS959.pick18
      have hS961:=hS960.pick18
      have hS962:=hS961.pick22
      have hS963:=hS962.pick22
      have hS964:=hS963.pick22
      have hS965:=hS964.pick22
      exact rF _ (J764 false t835 (Option.some.inj hp940) _ _ hS965)
     refine sR 11 td113 ?_
     have hS967:=hS850.pick23
     have hS968:=hS967.drop
     have hS969:=hS968.pick5
     have hS970:=hS969.pick22
     have hS971:=hS970.pick22
     have hS972:=hS971.pick22
     have hS973:=hS972.pick22
     have hS974:=hS973.pick22
     have hS975:=hS974.pick10
     have hS976:=hS975.pick10
     have hS977:=hS976.pick10
     have hS978:=hS977.pick10
     have hS979:=hS978.pick22
     have hS980:=hS979.pick22
     have hS981:=hS980.pick18
     have hS982:=hS981.pick18
     have hS983:=hS982.pick18
     have hS984:=hS983.pick18
     have hS985:=hS984.pick18
     have hS986:=hS985.pick18
     have hS987:=hS986.pick18
     have hS988:=hS987.pick22
     have hS989:=hS988.pick22
     have hS990:=hS989.pick22
     have hS991:=hS990.pick22
     exact rF _ (J764 false t835 (Option.some.inj hp966) _ _ hS991)
    refine sR 8 td116 ?_
    refine rL1 3 (.tmp 14) 0 (hS756.blk 23 rfl) ?_
    refine sR 1 td117 ?_
    refine rL1 36 (.tmp 150) 0 (hS756.blk 11 rfl) ?_
    refine sI 2 td118 153 hp992 (fun hp995 => ?_) fun hp1076 => ?_
    ·refine sR 1 td119 ?_
     refine rL1 3 (.tmp 13) 0 (hS756.blk 22 rfl) ?_
     refine sI 1 td120 156 hp995 (fun hp998 => ?_) fun hp1023 => ?_
     ·refine sR 8 td113 ?_
      have hS999:=hS756.pick23
      have hS1000:=hS999.drop
      have hS1001:=hS1000.pick22
      have hS1002:=hS1001.pick22
      have hS1003:=hS1002.pick22
      have hS1004:=hS1003.pick22
      have hS1005:=hS1004.pick22
      have hS1006:=hS1005.pick22
      have hS1007:=hS1006.pick22
      have hS1008:=hS1007.pick22
      have hS1009:=hS1008.pick22
      have hS1010:=hS1009.pick22
      have hS1011:=hS1010.pick22
      have hS1012:=hS1011.pick18
      have hS1013:=hS1012.pick18
      have hS1014:=hS1013.pick18
      have hS1015:=hS1014.pick18
      have hS1016:=hS1015.pick18
      have hS1017:=hS1016.pick18
      have hS1018:=hS1017.pick18
      have hS1019:=hS1018.pick22
      have hS1020:=hS1019.pick22
      have hS1021:=hS1020.pick22
      have hS1022:=hS1021.pick22
      exact rF _ (J764 true t280 (Option.some.inj hp998) _ _ hS1022)
     refine sR 1 td121 ?_
     refine rL1 3 (.tmp 14) 0 (hS756.blk 23 rfl) ?_
     refine rL1 3 (.tmp 4) 0 (hS756.blk 8 rfl) ?_
     refine sI 1 td122 160 hp1023 (fun hp1026 => ?_) fun hp1051 => ?_
     ·refine sR 4 td113 ?_
      have hS1027:=hS756.pick23
      have hS1028:=hS1027.drop
      have hS1029:=hS1028.pick22
      have hS1030:=hS1029.pick22
      have hS1031:=hS1030.pick22
      have hS1032:=hS1031.pick22
      have hS1033:=hS1032.pick22
      have hS1034:=hS1033.pick22
      have hS1035:=hS1034.pick22
      have hS1036:=hS1035.pick22
      have hS1037:=hS1036.pick22
      have hS1038:=hS1037.pick22
      have hS1039:=hS1038.pick22
      have hS1040:=hS1039.pick18
      have hS1041:=hS1040.pick18
      have hS1042:=hS1041.pick18
      have hS1043:=hS1042.pick18
      have hS1044:=hS1043.pick18
      have hS1045:=hS1044.pick18
      have hS1046:=hS1045.pick18
      have hS1047:=hS1046.pick22
      have hS1048:=hS1047.pick22
      have hS1049:=hS1048.pick22
      have hS1050:=hS1049.pick22
      exact rF _ (J764 true t280 (Option.some.inj hp1026) _ _ hS1050)
     refine sR 4 td113 ?_
     have hS1052:=hS756.pick23
     have hS1053:=hS1052.drop
     have hS1054:=hS1053.pick22
     have hS1055:=hS1054.pick22
     have hS1056:=hS1055.pick22
     have hS1057:=hS1056.pick22
     have hS1058:=hS1057.pick22
     have hS1059:=hS1058.pick22
     have hS1060:=hS1059.pick22
     have hS1061:=hS1060.pick22
     have hS1062:=hS1061.pick22
     have hS1063:=hS1062.pick22
     have hS1064:=hS1063.pick22
     have hS1065:=hS1064.pick18
     have hS1066:=hS1065.pick18
     have hS1067:=hS1066.pick18
     have hS1068:=hS1067.pick18
     have hS1069:=hS1068.pick18
     have hS1070:=hS1069.pick18
     have hS1071:=hS1070.pick18
     have hS1072:=hS1071.pick22
     have hS1073:=hS1072.pick22
     have hS1074:=hS1073.pick22
     have hS1075:=hS1074.pick22
     exact rF _ (J764 false t280 (Option.some.inj hp1051) _ _ hS1075)
    refine sR 11 td113 ?_
    have hS1077:=hS756.pick23
    have hS1078:=hS1077.drop
    have hS1079:=hS1078.pick22
    have hS1080:=hS1079.pick22
    have hS1081:=hS1080.pick22
    have hS1082:=hS1081.pick22
    have hS1083:=hS1082.pick22
    have hS1084:=hS1083.pick22
    have hS1085:=hS1084.pick22
    have hS1086:=hS1085.pick22
    have hS1087:=hS1086.pick22
    have hS1088:=hS1087.pick22
    have hS1089:=hS1088.pick22
    have hS1090:=hS1089.pick18
    have hS1091:=hS1090.pick18
    have hS1092:=hS1091.pick18
    have hS1093:=hS1092.pick18
    have hS1094:=hS1093.pick18
    have hS1095:=hS1094.pick18
    have hS1096:=hS1095.pick18
    have hS1097:=hS1096.pick22
    have hS1098:=hS1097.pick22
    have hS1099:=hS1098.pick22
    have hS1100:=hS1099.pick22
    exact rF _ (J764 false t280 (Option.some.inj hp1076) _ _ hS1100)
   refine sR 3 td107 ?_
   have hS1102:=hS252.drop
   have hS1103:=hS1102.drop
   have hS1104:=hS1103.pick1
   have hS1105:=hS1104.drop
   have hS1106:=hS1105.pick1
   have hS1107:=hS1106.drop
   have hS1108:=hS1107.pick1
   have hS1109:=hS1108.drop
   have hS1110:=hS1109.pick1
   have hS1111:=hS1110.drop
   have hS1112:=hS1111.pick1
   have hS1113:=hS1112.drop
   have hS1114:=hS1113.pick1
   have hS1115:=hS1114.drop
   have hS1116:=hS1115.pick1
   have hS1117:=hS1116.drop
   have hS1118:=hS1117.pick1
   have hS1119:=hS1118.drop
   have hS1120:=hS1119.pick1
   have hS1121:=hS1120.drop
   have hS1122:=hS1121.pick1
   have hS1123:=hS1122.drop
   have hS1124:=hS1123.pick1
   have hS1125:=hS1124.drop
   have hS1126:=hS1125.pick1
   have hS1127:=hS1126.drop
   have hS1128:=hS1127.pick1
   have hS1129:=hS1128.drop
   have hS1130:=hS1129.pick1
   have hS1131:=hS1130.drop
   have hS1132:=hS1131.pick1
   have hS1133:=hS1132.drop
   have hS1134:=hS1133.pick1
   have hS1135:=hS1134.drop
   have hS1136:=hS1135.pick1
   have hS1137:=hS1136.drop
   have hS1138:=hS1137.pick1
   have hS1139:=hS1138.drop
   have hS1140:=hS1139.pick1
   have hS1141:=hS1140.drop
   exact rF _ (J233 t246 ((Option.some.inj hp1101).trans he255) _ L250 _ hS1141)
  have hS1142:=hS224.pick1
  have hS1143:=hS1142.pick9
  have hS1144:=hS1143.pick5
  have hS1145:=hS1144.pick5
  have hS1146:=hS1145.pick5
  have hS1147:=hS1146.pick9
  have hS1148:=hS1147.pick9
  have hS1149:=hS1148.pick9
  have hS1150:=hS1149.pick9
  have hS1151:=hS1150.pick10
  have hS1152:=hS1151.pick19
  have hS1153:=hS1152.pick19
  have hS1154:=hS1153.pick19
  have hS1155:=hS1154.pick19
  have hS1156:=hS1155.pick19
  have hS1157:=hS1156.pick19
  have hS1158:=hS1157.pick19
  have hS1159:=hS1158.pick19
  have hS1160:=hS1159.pick19
  have hS1161:=hS1160.pick20
  have hS1162:=hS1161.pick21
  have hS1163:=hS1162.pick22
  exact rF _ (L259 0 false t133 t130 t132 _ hv226 rfl _ b199 [] _ hS1163)

end
end Go.Proofs.Ytfiamlhhhkiiaaa.K
