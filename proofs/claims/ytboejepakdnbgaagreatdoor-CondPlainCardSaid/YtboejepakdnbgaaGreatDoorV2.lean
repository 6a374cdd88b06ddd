/- The walk, part 2: each Go function as a plain Lean function, and that its call answers as that function says. No condition. -/
import Derived.Test.YtboejepakdnbgaaGreatDoorE
import Derived.Test.YtboejepakdnbgaaGreatDoorNG
import Derived.Test.YtboejepakdnbgaaGreatDoorNP
import Derived.Test.YtboejepakdnbgaaGreatDoorNI
import Derived.Test.YtboejepakdnbgaaGreatDoorNV
import Derived.Test.YtboejepakdnbgaaGreatDoorNX
import Derived.Test.YtboejepakdnbgaaGreatDoorNY
import Derived.Test.YtboejepakdnbgaaGreatDoorNC
import Derived.Test.YtboejepakdnbgaaGreatDoorNF
import Derived.Test.YtboejepakdnbgaaGreatDoorNB
import Derived.Test.YtboejepakdnbgaaGreatDoorNS
import Derived.Test.YtboejepakdnbgaaGreatDoorV1
set_option linter.unusedVariables false
set_option linter.unusedSimpArgs false
set_option maxRecDepth 100000
namespace Go.Proofs.YtboejepakdnbgaaGreatDoor.K
open Go Go.RowKit
noncomputable section
set_option maxHeartbeats 16000000
variable {w0 : World} {Z : Zm} {fs : List XObj} {w : World}
noncomputable def cd68 (p : List Nat) : Code := sub (bodyOf Tryz.f68) p
abbrev p68_9:=cd68 [1,1,1]
abbrev p68_16:=cd68 [1,1,1,1,1]
abbrev p68_25:=cd68 [1,1,1,1,1,1,1,0,1,0,1]
abbrev p68_26:=cd68 [1,1,1,1,1,1,1,1,0]
abbrev p68_27:=cd68 [1,1,1,1,1,1,1,1,1]
abbrev p68_31:=cd68 [1,1,1,1,1,1,1,1,1,1,1]
abbrev p68_33:=cd68 [1,1,1,1,1,1,1,0,1,0,1,1,0,1]
abbrev p68_42:=cd68 [1,1,1,1,1,1,1,0,1,0,1,1,1,1,1,0,1,0,1,0,0]
abbrev p68_43:=cd68 [1,1,1,1,1,1,1,0,1,0,1,1,1,1,1,0,1,0,1,0,1]
abbrev p68_44:=cd68 [1,1,1,1,1,1,1,0,1,0,1,1,1,1,1,0,1,1,0,0]
abbrev p68_45:=cd68 [1,1,1,1,1,1,1,0,1,0,1,1,1,1,1,0,1,1,0,1]
abbrev p68_47:=cd68 [1,1,1,1,1,1,1,0,1,0,1,1,1,1,1,0,1,1,0,1,0,0]
abbrev p68_48:=cd68 [1,1,1,1,1,1,1,0,1,0,1,1,1,1,1,0,1,1,0,1,0,1]
abbrev p68_55:=cd68 [1,1,1,1,1,1,1,0,1,0,1,1,1,1,1,1,1,0,1,0,0]
abbrev p68_56:=cd68 [1,1,1,1,1,1,1,0,1,0,1,1,1,1,1,1,1,0,1,0,1]
abbrev p68_57:=cd68 [1,1,1,1,1,1,1,0,1,0,1,1,1,0,0,0,0]
abbrev p68_64:=cd68 [1,1,1,1,1,1,1,0,1,0,1,1,1,0,1,1,0,1,0,0]
abbrev p68_65:=cd68 [1,1,1,1,1,1,1,0,1,0,1,1,1,0,1,1,0,1,0,1]
abbrev p68_67:=cd68 [1,1,1,1,1,1,1,0,1,0,1,1,1,0,0,0,0,0,0]
abbrev p68_69:=cd68 [1,1,1,1,1,1,1,0,1,0,1,1,0,1,1]
abbrev p68_75:=cd68 [1,1,1,1,1,1,1,0,1,0,1,0,1,0,1,0,0]
abbrev p68_76:=cd68 [1,1,1,1,1,1,1,0,1,0,1,0,1,0,1,0,1]
abbrev p68_78:=cd68 [1,0,1,0,1,1,1,0,1,1]
abbrev td121:List Item:=[.inBlock 0,.code (cd68 [1,1])]
abbrev td122:List Item:=[.code (cd68 [1,1,0,1,0,1]),.code p68_9]
abbrev td123:List Item:=[.code (cd68 [1,1,1,1,1,1,1,1])]
abbrev td124:List Item:=.inBlock 1::td123
abbrev td125:List Item:=.code (cd68 [1,1,1,1,1,1,1,0,1,0,1,1,1])::td124
abbrev td126:List Item:=.code (cd68 [1,1,1,1,1,1,1,0,1,0,1,1,1,1,1,0,1,1])::td124
abbrev td127:List Item:=.code p68_43::td126
abbrev td128:List Item:=.code (cd68 [1,1,1,1,1,1,1,0,1,0,1,1,1,1,1,0,1,1,1])::td124
abbrev td129:List Item:=.code p68_48::td128
abbrev td130:List Item:=.code (cd68 [1,1,1,1,1,1,1,0,1,0,1,1,1,1,1,1,1,1])::td124
abbrev td131:List Item:=.code p68_56::td130
abbrev td132:List Item:=.code (cd68 [1,1,1,1,1,1,1,0,1,0,1,1,1,0,1])::td124
abbrev td133:List Item:=.inBlock 2::td132
abbrev td134:List Item:=.inLoop p68_57::td133
abbrev td135:List Item:=.code p68_57::td134
abbrev td136:List Item:=.code (cd68 [1,1,1,1,1,1,1,0,1,0,1,1,1,0,1,1,1])::td124
abbrev td137:List Item:=.code p68_65::td136
abbrev td138:List Item:=.code (cd68 [1,1,1,1,1,1,1,0,1,0,1,1,1,0,0,0,0,1])::td134
abbrev td139:List Item:=.code (cd68 [1,1,1,1,1,1,1,0,1,0,1,1,1,0,0,0,0,0,1])::td138
abbrev td140:List Item:=.code (cd68 [1,1,1,1,1,1,1,0,1,0,1,0,1,1])::td124
abbrev td141:List Item:=.code p68_76::td140
def lexis_Lexer__Next.l0 (y0 : ByteArray) (t11 t312 : Int) : Option Int :=
  (((if (decide (t312 < ((y0.extract t11.toNat y0.size).size : Int))) = true then (if 0 ≤ t312 ∧ t312 < ((y0.extract t11.toNat y0.size).size : Int) then (lexis_letter.f (byt (y0.extract t11.toNat y0.size) t312) >>= (fun t336 => (if t336 = true then some (.inl ()) else (if 0 ≤ t312 ∧ t312 < ((y0.extract t11.toNat y0.size).size : Int) then (lexis_digit.f (byt (y0.extract t11.toNat y0.size) t312) >>= (fun t344 => (if t344 = true then some (.inl ()) else (if 0 ≤ t312 ∧ t312 < ((y0.extract t11.toNat y0.size).size : Int) then (if ((byt (y0.extract t11.toNat y0.size) t312) == 46) = true then some (.inl ()) else some (.inr (t312))) else none)))) else none)))) else none) else some (.inr (t312))) : Option (Sum Unit Int)) >>= (fun | .inl () => (lexis_Lexer__Next.l0 y0 t11 (IntKind.i64.wrap (t312 + 1))) | .inr e => some e))
 partial_fixpoint
def lexis_Lexer__Next.body (rec_lexis_Lexer__Next : ByteArray → Int → Int → Int → PErr → Option (api_Token × PErr × Int × Int × Int × PErr)) (y0 : ByteArray) (y1 y2 y3 : Int) (y4 : PErr) : Option (api_Token × PErr × Int × Int × Int × PErr) :=
  (PErr.cas y4 ((lexis_Lexer__blanks.f y0 y1 y2 y3 >>= (fun (t10,t11,t12,t13) => (if (!t10) = true then (lexis_Lexer__fail_2.f rec_lexis_Lexer__Next y0 t11 t12 t13 0 51 >>= (fun (t22,t23,t24,t25,t26,t27) => some ((t22,t23,t24,t25,t26,t27)))) else (if (t11 == (y0.size : Int)) = true then some (((⟨0,(⟨#[]⟩ : ByteArray),0,t12,t13,t11,t11⟩ : api_Token),.nil,t11,t12,t13,.nil)) else (if 0 ≤ t11 ∧ t11 ≤ (y0.size : Int) then (if 0 ≤ (0 : Int) ∧ (0 : Int) < ((y0.extract t11.toNat y0.size).size : Int) then (lexis_letter.f (byt (y0.extract t11.toNat y0.size) (0 : Int)) >>= (fun t74 => (((if t74 = true then (lexis_name.f (y0.extract t11.toNat y0.size) >>= (fun t382 => (if (decide (t382 > 64)) = true then (lexis_Lexer__fail_2.f rec_lexis_Lexer__Next y0 t11 t12 t13 0 1 >>= (fun (t390,t391,t392,t393,t394,t395) => some (.inr ((t390,t391,t392,t393,t394,t395))))) else (if 0 ≤ t382 ∧ t382 ≤ ((y0.extract t11.toNat y0.size).size : Int) then some (.inl (t382,(⟨1,((y0.extract t11.toNat y0.size).extract 0 t382.toNat),0,t12,t13,t11,t11⟩ : api_Token))) else none)))) else (lexis_digit.f (byt (y0.extract t11.toNat y0.size) (0 : Int)) >>= (fun t111 => (((if t111 = true then some (true) else (if ((byt (y0.extract t11.toNat y0.size) (0 : Int)) == 45) = true then (lexis_byteAt.f (y0.extract t11.toNat y0.size) 1 >>= (fun t363 => (lexis_digit.f t363 >>= (fun t368 => some (t368))))) else some (false))) : Option Bool) >>= (fun t119 => (if t119 = true then (lexis_Lexer__Next.l0 y0 t11 1 >>= (fun t257 => (if 0 ≤ t257 ∧ t257 ≤ ((y0.extract t11.toNat y0.size).size : Int) then (word_Parse.f ((y0.extract t11.toNat y0.size).extract 0 t257.toNat) >>= (fun (t265,t266) => (if (t266 != 0) = true then (lexis_Lexer__fail_2.f rec_lexis_Lexer__Next y0 t11 t12 t13 0 t266 >>= (fun (t274,t275,t276,t277,t278,t279) => some (.inr ((t274,t275,t276,t277,t278,t279))))) else (if 0 ≤ t257 ∧ t257 ≤ ((y0.extract t11.toNat y0.size).size : Int) then some (.inl (t257,(⟨2,((y0.extract t11.toNat y0.size).extract 0 t257.toNat),t265,t12,t13,t11,t11⟩ : api_Token))) else none)))) else none))) else (if ((byt (y0.extract t11.toNat y0.size) (0 : Int)) == 34) = true then (if 0 ≤ (1 : Int) ∧ (1 : Int) ≤ ((y0.extract t11.toNat y0.size).size : Int) then (strings_IndexAny.f ((y0.extract t11.toNat y0.size).extract (1 : Int).toNat (y0.extract t11.toNat y0.size).size) (⟨#[34,10]⟩ : ByteArray) >>= (fun t131 => (if (decide (t131 < 0)) = true then (lexis_Lexer__fail_2.f rec_lexis_Lexer__Next y0 t11 t12 t13 ((y0.extract t11.toNat y0.size).size : Int) 50 >>= (fun (t139,t140,t141,t142,t143,t144) => some (.inr ((t139,t140,t141,t142,t143,t144))))) else (if 0 ≤ (IntKind.i64.wrap (1 + t131)) ∧ (IntKind.i64.wrap (1 + t131)) < ((y0.extract t11.toNat y0.size).size : Int) then (if ((byt (y0.extract t11.toNat y0.size) (IntKind.i64.wrap (1 + t131))) == 10) = true then (lexis_Lexer__fail_2.f rec_lexis_Lexer__Next y0 t11 t12 t13 (IntKind.i64.wrap (1 + t131)) 50 >>= (fun (t170,t171,t172,t173,t174,t175) => some (.inr ((t170,t171,t172,t173,t174,t175))))) else (if 0 ≤ (1 : Int) ∧ (1 : Int) ≤ (IntKind.i64.wrap (1 + t131)) ∧ (IntKind.i64.wrap (1 + t131)) ≤ ((y0.extract t11.toNat y0.size).size : Int) then some (.inl ((IntKind.i64.wrap (t131 + 2)),(⟨3,((y0.extract t11.toNat y0.size).extract (1 : Int).toNat (IntKind.i64.wrap (1 + t131)).toNat),0,t12,t13,t11,t11⟩ : api_Token))) else none)) else none)))) else none) else (lexis_sign.f (y0.extract t11.toNat y0.size) >>= (fun t208 => (if (t208 == 0) = true then (lexis_Lexer__fail_2.f rec_lexis_Lexer__Next y0 t11 t12 t13 0 50 >>= (fun (t216,t217,t218,t219,t220,t221) => some (.inr ((t216,t217,t218,t219,t220,t221))))) else (if 0 ≤ t208 ∧ t208 ≤ ((y0.extract t11.toNat y0.size).size : Int) then some (.inl (t208,(⟨4,((y0.extract t11.toNat y0.size).extract 0 t208.toNat),0,t12,t13,t11,t11⟩ : api_Token))) else none))))))))))) : Option (Sum (Int × api_Token) (api_Token × PErr × Int × Int × Int × PErr))) >>= (fun | .inl (t82,t83) => (lexis_Lexer__pass.f y0 t11 t12 t13 t82 >>= (fun (t93,t94,t95) => some (((⟨t83.Kind,t83.Text,t83.Value,t83.Line,t83.Col,t83.At,(IntKind.i64.wrap (t83.End + t82))⟩ : api_Token),.nil,t93,t94,t95,.nil)))) | .inr e => some e)))) else none) else none)))))) (fun n5 => some (((⟨0,(⟨#[]⟩ : ByteArray),0,0,0,0,0⟩ : api_Token),(.num n5),y1,y2,y3,(.num n5)))) (fun n6 n7 n8 => some (((⟨0,(⟨#[]⟩ : ByteArray),0,0,0,0,0⟩ : api_Token),(.pos n6 n7 n8),y1,y2,y3,(.pos n6 n7 n8)))))
theorem lexis_Lexer__Next.bok (rec_lexis_Lexer__Next : ByteArray → Int → Int → Int → PErr → Option (api_Token × PErr × Int × Int × Int × PErr)) (hrec_lexis_Lexer__Next : lexis_Lexer__Next.Spec rec_lexis_Lexer__Next) : lexis_Lexer__Next.Spec (lexis_Lexer__Next.body rec_lexis_Lexer__Next):=by
  intro y0 y1 y2 y3 y4 ba0 y5 w0 Z fs w hS0 y6 q0 q1 q2 q3 q4 q5 hp0
  refine calls_abs ?_; intro R hR
  unfold lexis_Lexer__Next.body at hp0
  refine calls_of_runs (fn:=Tryz.f68) (c:=cd68 []) Tryz.func68 (by kernel_rfl) (al:=[.pointer (some ⟨ba0,0,none⟩)]) rfl (n:=213) rfl ?_
  refine sR 2 [.inRegion (opsOf (cd68 [0])) [0,1],.code (cd68 [1])] ?_
  refine rA 75 (.agg (enc_api_Token (⟨0,(⟨#[]⟩ : ByteArray),0,0,0,0,0⟩ : api_Token)).toArray) (enc_api_Token (⟨0,(⟨#[]⟩ : ByteArray),0,0,0,0,0⟩ : api_Token)) hS0 ?_
  intro b1 w2 hS3
  refine sR 8 [.inRegion (opsOf (cd68 [1,0,0])) [3],.code (cd68 [1,0,1]),.code (cd68 [1,1])] ?_
  refine rL1 25 (.tmp 15) 4 (hS3.blk 1 rfl) ?_
  refine sR 4 (.inRegion (opsOf (cd68 [1,0,1,0,0])) [0,1,2]::.code (cd68 [1,0,1,0,1])::td121) ?_
  rcases y4 with _ | n5 | ⟨n6,n7,n8⟩
  ·have hp9:=cas_nil hp0
   have y6 : y5 = .nilIface:=y6
   subst y6
   refine sR 18 [.inRegion (opsOf (cd68 [1,1,0,0])) [1,2],.code (cd68 [1,1,0,1]),.code p68_9] ?_
   obtain ⟨⟨t10,t11,t12,t13⟩,hr14,hp15⟩:=bind_some' hp9
   try dsimp only at hp15
   have hS16:=hS3.pick1
   refine rC (lexis_Lexer__blanks.ok hr14 hS16) ?_
   rintro _ w17 ⟨rfl,hS18⟩
   refine ⟨_,rfl,?_⟩
   refine sI 1 [.inRegion (opsOf (cd68 [1,1,0,0])) [],.code (cd68 [1,1,0,1]),.code p68_9] 44 hp15 (fun hp21 => ?_) fun hp45 => ?_
   ·refine sR 5 (iR (cd68 [1,1,0,1,0,0]) 1 5::td122) ?_
    obtain ⟨⟨t22,t23,t24,t25,t26,t27⟩,hr30,hp31⟩:=bind_some' hp21
    try dsimp only at hp31
    refine rC (lexis_Lexer__fail_2.ok rec_lexis_Lexer__Next hrec_lexis_Lexer__Next hr30 hS18) ?_
    rintro _ w34 ⟨Q28,Q29,Z36,hz37,rfl,hS35,hs38,hs39⟩
    refine ⟨_,rfl,?_⟩
    refine sR 2 (.inRegion (opsOf (cd68 [1,1,0,1,0,0])) [4,5]::td122) ?_
    have hS40:=hS35.pick1
    refine rSA 75 (.tmp 2) (.tmp 47) (enc_api_Token t22) hS40 (one_api_Token _) ?_
    intro w41 hS42
    refine sR 2 td122 ?_
    have hS43:=hS42.drop
    refine rRc (.tuple #[.agg (enc_api_Token t22).toArray,Q28]) (.ca 2 75 (hS42.blk 0 rfl) (.tm 3 .nil)) Tryz.func68 ?_
    cases Option.some.inj hp31
    exact hR _ _ ⟨Q28,Q29,Z36,hz37,rfl,hS43,hs38,hs39⟩
   refine sR 4 [.code (cd68 [1,1,1,0]),.code (cd68 [1,1,1,1])] ?_
   refine r_drawnP (S:=Option Nat × Option Unit) (dn:=(fun (st : Option Nat × Option Unit) k => [st.1.isSome,st.2.isSome].getD k true)) (C:=(fun st w' => match st with | (none,none) => St w0 Z (xblk ba0 193 ([.string y0,.int .i64 t11,.int .i64 t12,.int .i64 t13,.nilIface])::xblk b1 75 (enc_api_Token (⟨0,(⟨#[]⟩ : ByteArray),0,0,0,0,0⟩ : api_Token))::fs) w' | (none,some _) => False | (some b46,none) => St w0 Z (xblk b46 75 (enc_api_Token (⟨0,(⟨#[]⟩ : ByteArray),0,0,0,0,0⟩ : api_Token))::xblk ba0 193 ([.string y0,.int .i64 t11,.int .i64 t12,.int .i64 t13,.nilIface])::xblk b1 75 (enc_api_Token (⟨0,(⟨#[]⟩ : ByteArray),0,0,0,0,0⟩ : api_Token))::fs) w' | (some b46,some _) => St w0 Z (xblk b46 75 (enc_api_Token (⟨0,(⟨#[]⟩ : ByteArray),0,t12,t13,t11,t11⟩ : api_Token))::xblk ba0 193 ([.string y0,.int .i64 t11,.int .i64 t12,.int .i64 t13,.nilIface])::xblk b1 75 (enc_api_Token (⟨0,(⟨#[]⟩ : ByteArray),0,0,0,0,0⟩ : api_Token))::fs) w')) (v:=(fun st => match st with | (none,none) => [.pointer (some ⟨ba0,0,none⟩),.pointer (some ⟨ba0,0,none⟩),.pointer (some ⟨ba0,2,none⟩),.int .i64 t12,.pointer (some ⟨ba0,0,none⟩),.pointer (some ⟨ba0,0,none⟩),.pointer (some ⟨ba0,3,none⟩),.int .i64 t13,.pointer (some ⟨ba0,0,none⟩),.pointer (some ⟨ba0,0,none⟩),.pointer (some ⟨ba0,1,none⟩),.int .i64 t11,.pointer (some ⟨ba0,0,none⟩),.pointer (some ⟨ba0,0,none⟩),.pointer (some ⟨ba0,1,none⟩),.int .i64 t11,.agg (enc_api_Token (⟨0,(⟨#[]⟩ : ByteArray),0,t12,t13,t11,t11⟩ : api_Token)).toArray,undef,undef] | (none,some _) => [.pointer (some ⟨ba0,0,none⟩),.pointer (some ⟨ba0,0,none⟩),.pointer (some ⟨ba0,2,none⟩),.int .i64 t12,.pointer (some ⟨ba0,0,none⟩),.pointer (some ⟨ba0,0,none⟩),.pointer (some ⟨ba0,3,none⟩),.int .i64 t13,.pointer (some ⟨ba0,0,none⟩),.pointer (some ⟨ba0,0,none⟩),.pointer (some ⟨ba0,1,none⟩),.int .i64 t11,.pointer (some ⟨ba0,0,none⟩),.pointer (some ⟨ba0,0,none⟩),.pointer (some ⟨ba0,1,none⟩),.int .i64 t11,.agg (enc_api_Token (⟨0,(⟨#[]⟩ : ByteArray),0,t12,t13,t11,t11⟩ : api_Token)).toArray,undef,undef] | (some b46,none) => [.pointer (some ⟨ba0,0,none⟩),.pointer (some ⟨ba0,0,none⟩),.pointer (some ⟨ba0,2,none⟩),.int .i64 t12,.pointer (some ⟨ba0,0,none⟩),.pointer (some ⟨ba0,0,none⟩),.pointer (some ⟨ba0,3,none⟩),.int .i64 t13,.pointer (some ⟨ba0,0,none⟩),.pointer (some ⟨ba0,0,none⟩),.pointer (some ⟨ba0,1,none⟩),.int .i64 t11,.pointer (some ⟨ba0,0,none⟩),.pointer (some ⟨ba0,0,none⟩),.pointer (some ⟨ba0,1,none⟩),.int .i64 t11,.agg (enc_api_Token (⟨0,(⟨#[]⟩ : ByteArray),0,t12,t13,t11,t11⟩ : api_Token)).toArray,.pointer (some ⟨b46,0,none⟩),undef] | (some b46,some _) => [.pointer (some ⟨ba0,0,none⟩),.pointer (some ⟨ba0,0,none⟩),.pointer (some ⟨ba0,2,none⟩),.int .i64 t12,.pointer (some ⟨ba0,0,none⟩),.pointer (some ⟨ba0,0,none⟩),.pointer (some ⟨ba0,3,none⟩),.int .i64 t13,.pointer (some ⟨ba0,0,none⟩),.pointer (some ⟨ba0,0,none⟩),.pointer (some ⟨ba0,1,none⟩),.int .i64 t11,.pointer (some ⟨ba0,0,none⟩),.pointer (some ⟨ba0,0,none⟩),.pointer (some ⟨ba0,1,none⟩),.int .i64 t11,.agg (enc_api_Token (⟨0,(⟨#[]⟩ : ByteArray),0,t12,t13,t11,t11⟩ : api_Token)).toArray,.pointer (some ⟨b46,0,none⟩),undef])) (c:=(cd68 [1,1,1,0])) (id:=10) (none,none) 18 19 [17,18] [[],[],[],[],[],[],[],[],[],[],[],[],[],[],[],[],[],[],[0]] [[1],[1],[1],[1],[1],[1],[1],[1],[1],[1],[1],[1],[1],[1],[1],[1],[1],[1],[]] [] [true,true,true,true,true,true,true,true,true,true,true,true,true,true,true,true,true,true,true] (by kernel_rfl) (by kernel_rfl) (by kernel_rfl) (by kernel_rfl) (by kernel_rfl) (by kernel_rfl) (by kernel_rfl) (by kernel_rfl) (by kernel_rfl) (fun k hk => match k,hk with | 0,_ => rfl | 1,_ => rfl | k + 2,hk => absurd hk (by simp)) hS18.drew ?_ (fun k hk => match k,hk with | 0,_ => rfl | 1,_ => rfl | k + 2,hk => absurd hk (by simp)) ?_ ?_ ?_
   ·intro i hi st w hC hd
    match i,hi with
    | 0,_ => (show _ = _; kernel_rfl)
    | 1,_ => (show _ = _; kernel_rfl)
    | 2,_ => (show _ = _; kernel_rfl)
    | 3,_ => (show _ = _; kernel_rfl)
    | 4,_ => (show _ = _; kernel_rfl)
    | 5,_ => (show _ = _; kernel_rfl)
    | 6,_ => (show _ = _; kernel_rfl)
    | 7,_ => (show _ = _; kernel_rfl)
    | 8,_ => (show _ = _; kernel_rfl)
    | 9,_ => (show _ = _; kernel_rfl)
    | 10,_ => (show _ = _; kernel_rfl)
    | 11,_ => (show _ = _; kernel_rfl)
    | 12,_ => (show _ = _; kernel_rfl)
    | 13,_ => (show _ = _; kernel_rfl)
    | 14,_ => (show _ = _; kernel_rfl)
    | 15,_ => (show _ = _; kernel_rfl)
    | 16,_ => (show _ = _; kernel_rfl)
    | 17,_ => (show _ = _; kernel_rfl)
    | 18,_ => (show _ = _; kernel_rfl)
    | i + 19,hi => exact absurd hi (by omega)
   ·intro i hi he st w hC hd hu
    match i,hi,he with
    | 0,_,_ =>
     rcases st with ⟨_ | b46,_ | _⟩
     ·dsimp only at hC
      exact dG (.pointer (some ⟨ba0,0,none⟩)) hC
     ·exact False.elim hC
     ·dsimp only at hC
      exact dG (.pointer (some ⟨ba0,0,none⟩)) hC
     ·exact Bool.noConfusion (hu 1 (by decide))
    | 1,_,_ =>
     rcases st with ⟨_ | b46,_ | _⟩
     ·dsimp only at hC
      exact dG (.pointer (some ⟨ba0,0,none⟩)) hC
     ·exact False.elim hC
     ·dsimp only at hC
      exact dG (.pointer (some ⟨ba0,0,none⟩)) hC
     ·exact Bool.noConfusion (hu 1 (by decide))
    | 2,_,_ =>
     rcases st with ⟨_ | b46,_ | _⟩
     ·dsimp only at hC
      exact dG (.pointer (some ⟨ba0,2,none⟩)) hC
     ·exact False.elim hC
     ·dsimp only at hC
      exact dG (.pointer (some ⟨ba0,2,none⟩)) hC
     ·exact Bool.noConfusion (hu 1 (by decide))
    | 3,_,_ =>
     rcases st with ⟨_ | b46,_ | _⟩
     ·dsimp only at hC
      exact ⟨fun _ => does_run (x_load (t:=3) (x:=(.tmp 51)) (p:=⟨ba0,2,none⟩) (v:=.int .i64 t12) (by kernel_rfl) (loads_at 2 (hC.blk 0 rfl) (by kernel_rfl) (by kernel_rfl)) (by kernel_rfl)) rfl hC,fun h => absurd h (by decide)⟩
     ·exact False.elim hC
     ·dsimp only at hC
      exact ⟨fun _ => does_run (x_load (t:=3) (x:=(.tmp 51)) (p:=⟨ba0,2,none⟩) (v:=.int .i64 t12) (by kernel_rfl) (loads_at 2 (hC.blk 1 rfl) (by kernel_rfl) (by kernel_rfl)) (by kernel_rfl)) rfl hC,fun h => absurd h (by decide)⟩
     ·exact Bool.noConfusion (hu 1 (by decide))
    | 4,_,_ =>
     rcases st with ⟨_ | b46,_ | _⟩
     ·dsimp only at hC
      exact dG (.pointer (some ⟨ba0,0,none⟩)) hC
     ·exact False.elim hC
     ·dsimp only at hC
      exact dG (.pointer (some ⟨ba0,0,none⟩)) hC
     ·exact Bool.noConfusion (hu 1 (by decide))
    | 5,_,_ =>
     rcases st with ⟨_ | b46,_ | _⟩
     ·dsimp only at hC
      exact dG (.pointer (some ⟨ba0,0,none⟩)) hC
     ·exact False.elim hC
     ·dsimp only at hC
      exact dG (.pointer (some ⟨ba0,0,none⟩)) hC
     ·exact Bool.noConfusion (hu 1 (by decide))
    | 6,_,_ =>
     rcases st with ⟨_ | b46,_ | _⟩
     ·dsimp only at hC
      exact dG (.pointer (some ⟨ba0,3,none⟩)) hC
     ·exact False.elim hC
     ·dsimp only at hC
      exact dG (.pointer (some ⟨ba0,3,none⟩)) hC
     ·exact Bool.noConfusion (hu 1 (by decide))
    | 7,_,_ =>
     rcases st with ⟨_ | b46,_ | _⟩
     ·dsimp only at hC
      exact ⟨fun _ => does_run (x_load (t:=3) (x:=(.tmp 55)) (p:=⟨ba0,3,none⟩) (v:=.int .i64 t13) (by kernel_rfl) (loads_at 3 (hC.blk 0 rfl) (by kernel_rfl) (by kernel_rfl)) (by kernel_rfl)) rfl hC,fun h => absurd h (by decide)⟩
     ·exact False.elim hC
     ·dsimp only at hC
      exact ⟨fun _ => does_run (x_load (t:=3) (x:=(.tmp 55)) (p:=⟨ba0,3,none⟩) (v:=.int .i64 t13) (by kernel_rfl) (loads_at 3 (hC.blk 1 rfl) (by kernel_rfl) (by kernel_rfl)) (by kernel_rfl)) rfl hC,fun h => absurd h (by decide)⟩
     ·exact Bool.noConfusion (hu 1 (by decide))
    | 8,_,_ =>
     rcases st with ⟨_ | b46,_ | _⟩
     ·dsimp only at hC
      exact dG (.pointer (some ⟨ba0,0,none⟩)) hC
     ·exact False.elim hC
     ·dsimp only at hC
      exact dG (.pointer (some ⟨ba0,0,none⟩)) hC
     ·exact Bool.noConfusion (hu 1 (by decide))
    | 9,_,_ =>
     rcases st with ⟨_ | b46,_ | _⟩
     ·dsimp only at hC
      exact dG (.pointer (some ⟨ba0,0,none⟩)) hC
     ·exact False.elim hC
     ·dsimp only at hC
      exact dG (.pointer (some ⟨ba0,0,none⟩)) hC
     ·exact Bool.noConfusion (hu 1 (by decide))
    | 10,_,_ =>
     rcases st with ⟨_ | b46,_ | _⟩
     ·dsimp only at hC
      exact dG (.pointer (some ⟨ba0,1,none⟩)) hC
     ·exact False.elim hC
     ·dsimp only at hC
      exact dG (.pointer (some ⟨ba0,1,none⟩)) hC
     ·exact Bool.noConfusion (hu 1 (by decide))
    | 11,_,_ =>
     rcases st with ⟨_ | b46,_ | _⟩
     ·dsimp only at hC
      exact ⟨fun _ => does_run (x_load (t:=3) (x:=(.tmp 59)) (p:=⟨ba0,1,none⟩) (v:=.int .i64 t11) (by kernel_rfl) (loads_at 1 (hC.blk 0 rfl) (by kernel_rfl) (by kernel_rfl)) (by kernel_rfl)) rfl hC,fun h => absurd h (by decide)⟩
     ·exact False.elim hC
     ·dsimp only at hC
      exact ⟨fun _ => does_run (x_load (t:=3) (x:=(.tmp 59)) (p:=⟨ba0,1,none⟩) (v:=.int .i64 t11) (by kernel_rfl) (loads_at 1 (hC.blk 1 rfl) (by kernel_rfl) (by kernel_rfl)) (by kernel_rfl)) rfl hC,fun h => absurd h (by decide)⟩
     ·exact Bool.noConfusion (hu 1 (by decide))
    | 12,_,_ =>
     rcases st with ⟨_ | b46,_ | _⟩
     ·dsimp only at hC
      exact dG (.pointer (some ⟨ba0,0,none⟩)) hC
     ·exact False.elim hC
     ·dsimp only at hC
      exact dG (.pointer (some ⟨ba0,0,none⟩)) hC
     ·exact Bool.noConfusion (hu 1 (by decide))
    | 13,_,_ =>
     rcases st with ⟨_ | b46,_ | _⟩
     ·dsimp only at hC
      exact dG (.pointer (some ⟨ba0,0,none⟩)) hC
     ·exact False.elim hC
     ·dsimp only at hC
      exact dG (.pointer (some ⟨ba0,0,none⟩)) hC
     ·exact Bool.noConfusion (hu 1 (by decide))
    | 14,_,_ =>
     rcases st with ⟨_ | b46,_ | _⟩
     ·dsimp only at hC
      exact dG (.pointer (some ⟨ba0,1,none⟩)) hC
     ·exact False.elim hC
     ·dsimp only at hC
      exact dG (.pointer (some ⟨ba0,1,none⟩)) hC
     ·exact Bool.noConfusion (hu 1 (by decide))
    | 15,_,_ =>
     rcases st with ⟨_ | b46,_ | _⟩
     ·dsimp only at hC
      exact ⟨fun _ => does_run (x_load (t:=3) (x:=(.tmp 63)) (p:=⟨ba0,1,none⟩) (v:=.int .i64 t11) (by kernel_rfl) (loads_at 1 (hC.blk 0 rfl) (by kernel_rfl) (by kernel_rfl)) (by kernel_rfl)) rfl hC,fun h => absurd h (by decide)⟩
     ·exact False.elim hC
     ·dsimp only at hC
      exact ⟨fun _ => does_run (x_load (t:=3) (x:=(.tmp 63)) (p:=⟨ba0,1,none⟩) (v:=.int .i64 t11) (by kernel_rfl) (loads_at 1 (hC.blk 1 rfl) (by kernel_rfl) (by kernel_rfl)) (by kernel_rfl)) rfl hC,fun h => absurd h (by decide)⟩
     ·exact Bool.noConfusion (hu 1 (by decide))
    | 16,_,_ =>
     rcases st with ⟨_ | b46,_ | _⟩
     ·dsimp only at hC
      exact dG (.agg (enc_api_Token (⟨0,(⟨#[]⟩ : ByteArray),0,t12,t13,t11,t11⟩ : api_Token)).toArray) hC
     ·exact False.elim hC
     ·dsimp only at hC
      exact dG (.agg (enc_api_Token (⟨0,(⟨#[]⟩ : ByteArray),0,t12,t13,t11,t11⟩ : api_Token)).toArray) hC
     ·exact Bool.noConfusion (hu 1 (by decide))
    | 17,_,he => exact absurd he (by decide)
    | 18,_,he => exact absurd he (by decide)
    | i + 19,hi,_ => exact absurd hi (by omega)
   ·intro k hk st w hC hr hm
    match k,hk with
    | 0,_ =>
     rcases st with ⟨_ | b46,_ | _⟩
     ·dsimp only at hC
      refine does_alloc (t:=75) (z:=.agg (enc_api_Token (⟨0,(⟨#[]⟩ : ByteArray),0,0,0,0,0⟩ : api_Token)).toArray) (cs:=enc_api_Token (⟨0,(⟨#[]⟩ : ByteArray),0,0,0,0,0⟩ : api_Token)) hC (by kernel_rfl) (by kernel_rfl) (by kernel_rfl) ?_
      intro b46 w2 h2
      have h2:=h2.pick2
      have h2:=h2.pick2
      have h2:=h2.pick2
      refine ⟨(some b46,none),rfl,?_,?_,.inr rfl,h2⟩
      ·intro m hne; match m,hne with
       | 0,hne => exact absurd rfl hne
       | 1,hne => exact rfl
       | m + 2,_ => exact rfl
      ·intro j hj; match j,hj with
       | 0,hj => exact rfl
       | 1,hj => exact rfl
       | 2,hj => exact rfl
       | 3,hj => exact rfl
       | 4,hj => exact rfl
       | 5,hj => exact rfl
       | 6,hj => exact rfl
       | 7,hj => exact rfl
       | 8,hj => exact rfl
       | 9,hj => exact rfl
       | 10,hj => exact rfl
       | 11,hj => exact rfl
       | 12,hj => exact rfl
       | 13,hj => exact rfl
       | 14,hj => exact rfl
       | 15,hj => exact rfl
       | 16,hj => exact rfl
       | 17,hj => exact absurd (by decide) hj
       | 18,hj => exact absurd (by decide) hj
       | j + 19,_ => exact rfl
     ·exact False.elim hC
     ·exact Bool.noConfusion hr
     ·exact Bool.noConfusion hr
    | 1,_ =>
     rcases st with ⟨_ | b46,_ | _⟩
     ·exact Bool.noConfusion (hm 0 (by decide))
     ·exact False.elim hC
     ·dsimp only at hC
      refine dSG 75 (.tmp 6) (.tmp 65) 0 (.agg (enc_api_Token (⟨0,(⟨#[]⟩ : ByteArray),0,t12,t13,t11,t11⟩ : api_Token)).toArray) (enc_api_Token (⟨0,(⟨#[]⟩ : ByteArray),0,t12,t13,t11,t11⟩ : api_Token)) (enc_api_Token (⟨0,(⟨#[]⟩ : ByteArray),0,t12,t13,t11,t11⟩ : api_Token)) hC (one_api_Token _) ?_
      intro w2 h2
      have h2:=h2.pick2
      have h2:=h2.pick2
      have h2:=h2.pick2
      refine ⟨(some b46,some ()),rfl,?_,?_,.inl rfl,h2⟩
      ·intro m hne; match m,hne with
       | 0,hne => exact rfl
       | 1,hne => exact absurd rfl hne
       | m + 2,_ => exact rfl
      ·intro j hj; match j,hj with
       | 0,hj => exact rfl
       | 1,hj => exact rfl
       | 2,hj => exact rfl
       | 3,hj => exact rfl
       | 4,hj => exact rfl
       | 5,hj => exact rfl
       | 6,hj => exact rfl
       | 7,hj => exact rfl
       | 8,hj => exact rfl
       | 9,hj => exact rfl
       | 10,hj => exact rfl
       | 11,hj => exact rfl
       | 12,hj => exact rfl
       | 13,hj => exact rfl
       | 14,hj => exact rfl
       | 15,hj => exact rfl
       | 16,hj => exact rfl
       | 17,hj => exact rfl
       | 18,hj => exact absurd (by decide) hj
       | j + 19,_ => exact rfl
     ·exact Bool.noConfusion hr
    | k + 2,hk => exact absurd hk (by simp)
   intro st51 w48 hS49 hr50
   rcases st51 with ⟨_ | b46,_ | _⟩
   ·exact Bool.noConfusion (hr50 0 (Nat.lt_of_sub_eq_succ rfl))
   ·exact Bool.noConfusion (hr50 0 (Nat.lt_of_sub_eq_succ rfl))
   ·exact Bool.noConfusion (hr50 1 (Nat.lt_of_sub_eq_succ rfl))
   replace hS49 : St w0 Z (xblk b46 75 (enc_api_Token (⟨0,(⟨#[]⟩ : ByteArray),0,t12,t13,t11,t11⟩ : api_Token))::xblk ba0 193 ([.string y0,.int .i64 t11,.int .i64 t12,.int .i64 t13,.nilIface])::xblk b1 75 (enc_api_Token (⟨0,(⟨#[]⟩ : ByteArray),0,0,0,0,0⟩ : api_Token))::fs) w48:=hS49
   refine sR 2 [.code (cd68 [1,1,1,1,0,0]),.code (cd68 [1,1,1,1,0,1]),.code p68_16] ?_
   refine r_quiet hS49 (c:=(cd68 [1,1,1,1,0,0])) (id:=11) (by kernel_rfl) (by kernel_rfl) (by kernel_rfl) (is:=[0,1,2,3,4,5,6,7,8,9]) (by kernel_rfl) ?_
   refine qR 3 (rg 3 7) ?_
   refine qL1 3 (.tmp 68) 1 (fun w hC => (hC.blk 1 rfl)) ?_
   refine qR 3 [7,8,9] ?_
   refine qL1 9 (.tmp 72) 0 (fun w hC => (hC.blk 1 rfl)) ?_
   refine qI 2 [] 75 hp45 (fun hp54 => ?_) fun hp65 => ?_
   ·refine Qs.nil ?_
    intro w55 hS56
    refine sR 3 [.inRegion (opsOf (cd68 [1,1,1,1,0,1,0,0])) [0,1,2],.code (cd68 [1,1,1,1,0,1,0,1]),.code p68_16] ?_
    refine rLa 75 (.tmp 6) (hS56.blk 0 rfl) ?_
    have hS57:=hS56.pick2
    refine rSA 75 (.tmp 2) (.tmp 76) (enc_api_Token (⟨0,(⟨#[]⟩ : ByteArray),0,t12,t13,t11,t11⟩ : api_Token)) hS57 (one_api_Token _) ?_
    intro w58 hS59
    refine sR 2 [.code (cd68 [1,1,1,1,0,1,0,1]),.code p68_16] ?_
    have hS62:=hS59.drop
    have hS63:=hS62.drop
    refine rRc (.tuple #[.agg (enc_api_Token (⟨0,(⟨#[]⟩ : ByteArray),0,t12,t13,t11,t11⟩ : api_Token)).toArray,.nilIface]) (.ca 2 75 (hS59.blk 0 rfl) (.tm 3 .nil)) Tryz.func68 ?_
    cases Option.some.inj hp54
    exact hR _ _ ⟨.nilIface,.nilIface,Z,(Zm.Le.refl _),rfl,hS63,(RepE.of_nil),(RepE.of_nil)⟩
   refine Qs.nil ?_
   intro w66 hS67
   refine sR 3 [.code (cd68 [1,1,1,1,1,0]),.code (cd68 [1,1,1,1,1,1])] ?_
   refine r_quiet hS67 (c:=(cd68 [1,1,1,1,1,0])) (id:=13) (by kernel_rfl) (by kernel_rfl) (by kernel_rfl) (is:=[0,1,2,3,4,5,6,7,8,9]) (by kernel_rfl) ?_
   refine qR 3 (rg 3 7) ?_
   refine qL1 9 (.tmp 79) 0 (fun w hC => (hC.blk 1 rfl)) ?_
   refine qR 3 [7,8,9] ?_
   refine qL1 3 (.tmp 83) 1 (fun w hC => (hC.blk 1 rfl)) ?_
   obtain ⟨g68,hp69⟩:=ite_some hp65
   refine qV (.slice 9 (.tmp 80) (some (.tmp 84)) none none) (.string (y0.extract t11.toNat y0.size)) (fun w hC o ho _ => x_cutStr_sn (k:=.i64) (by kernel_rfl) (by kernel_rfl) (by kernel_rfl) g68 ho) ?_
   refine qR 1 [] ?_
   refine Qs.nil ?_
   intro w70 hS71
   refine sR 8 (.inRegion (opsOf (cd68 [1,1,1,1,1,1,1,0,0])) [1,2]::.code (cd68 [1,1,1,1,1,1,1,0,1])::td123) ?_
   obtain ⟨g72,hp73⟩:=ite_some hp69
   refine rV (.index 9 (.tmp 86) (.const (.int .i64 0))) (.int .u8 (byt (y0.extract t11.toNat y0.size) (0 : Int))) (fun o ho _ => x_indexStr (kk:=.i64) (by kernel_rfl) (by kernel_rfl) (by kernel_rfl) g72.1 g72.2 ho) ?_
   refine sR 6 (.inRegion (opsOf (cd68 [1,1,1,1,1,1,1,0,1,0,0])) [1,2]::.code p68_25::td124) ?_
   obtain ⟨t74,hr75,hp76⟩:=bind_some' hp73
   refine rC (lexis_letter.ok hr75 hS71) ?_
   rintro _ w77 ⟨rfl,hS78⟩
   refine ⟨_,rfl,?_⟩
   refine sR 2 (.code p68_25::td124) ?_
   obtain ⟨v79,hv80,hp81⟩:=bind_some' hp76
   have hq86 : ∀ x,Sum.inr x = v79 → x = (q0,q1,q2,q3,q4,q5):=by intro x hx; subst hx; simpa using hp81
   have J87 : ∀ (t82 : Int) (t83 : api_Token) (he89 : Sum.inl (t82,t83) = v79) (l88 : List Value) (w84 : World) (hS85 : St w0 Z (xblk ba0 193 ([.string y0,.int .i64 t11,.int .i64 t12,.int .i64 t13,.nilIface])::xblk b1 75 (enc_api_Token (⟨0,(⟨#[]⟩ : ByteArray),0,0,0,0,0⟩ : api_Token))::xblk b46 75 (enc_api_Token t83)::fs) w84),Runs Tryz.prog (fx 68) td123 (fill (mk 214 [(0,.pointer (some ⟨ba0,0,none⟩)),(2,.pointer (some ⟨b1,0,none⟩)),(6,.pointer (some ⟨b46,0,none⟩)),(8,.int .i64 t82)]) l88) w84 R:=by
    intro t82 t83 he89 l88 w84 hS85
    subst he89
    try dsimp only at hp81
    refine sR 3 [iR p68_26 1 5,.code p68_27] ?_
    refine rL1 3 (.tmp 205) 6 (hS85.blk 2 rfl) ?_
    refine sR 3 [.inRegion (opsOf p68_26) [5],.code p68_27] ?_
    have hS90:=hS85.pick2
    refine rS 3 (.tmp 209) (.tmp 208) 6 (.int .i64 (IntKind.i64.wrap (t83.End + t82))) [.int .i64 (IntKind.i64.wrap (t83.End + t82))] (enc_api_Token (⟨t83.Kind,t83.Text,t83.Value,t83.Line,t83.Col,t83.At,(IntKind.i64.wrap (t83.End + t82))⟩ : api_Token)) hS90 ?_
    intro w91 hS92
    refine sR 5 [.inRegion (opsOf (cd68 [1,1,1,1,1,1,1,1,1,0])) [2],.code (cd68 [1,1,1,1,1,1,1,1,1,1])] ?_
    obtain ⟨⟨t93,t94,t95⟩,hr96,hp97⟩:=bind_some' hp81
    try dsimp only at hp97
    have hS98:=hS92.pick1
    refine rC (lexis_Lexer__pass.ok hr96 hS98) ?_
    rintro _ w99 ⟨rfl,hS100⟩
    refine ⟨_,rfl,?_⟩
    refine sR 3 [.inRegion (opsOf (cd68 [1,1,1,1,1,1,1,1,1,1,0])) [0,1,2],.code p68_31] ?_
    refine rLa 75 (.tmp 6) (hS100.blk 1 rfl) ?_
    have hS101:=hS100.pick2
    refine rSA 75 (.tmp 2) (.tmp 213) (enc_api_Token (⟨t83.Kind,t83.Text,t83.Value,t83.Line,t83.Col,t83.At,(IntKind.i64.wrap (t83.End + t82))⟩ : api_Token)) hS101 (one_api_Token _) ?_
    intro w102 hS103
    refine sR 2 [.code p68_31] ?_
    have hS106:=hS103.drop
    have hS107:=hS106.pick1
    have hS108:=hS107.drop
    refine rRc (.tuple #[.agg (enc_api_Token (⟨t83.Kind,t83.Text,t83.Value,t83.Line,t83.Col,t83.At,(IntKind.i64.wrap (t83.End + t82))⟩ : api_Token)).toArray,.nilIface]) (.ca 2 75 (hS103.blk 0 rfl) (.tm 3 .nil)) Tryz.func68 ?_
    cases Option.some.inj hp97
    exact hR _ _ ⟨.nilIface,.nilIface,Z,(Zm.Le.refl _),rfl,hS108,(RepE.of_nil),(RepE.of_nil)⟩
   cases t74
   ·have hp110:=ite_f hv80 rfl
    refine sR 5 (.inRegion (opsOf (cd68 [1,1,1,1,1,1,1,0,1,0,1,1,0,0])) [1,2]::.code p68_33::td125) ?_
    obtain ⟨t111,hr112,hp113⟩:=bind_some' hp110
    refine rC (lexis_digit.ok hr112 hS78) ?_
    rintro _ w114 ⟨rfl,hS115⟩
    refine ⟨_,rfl,?_⟩
    refine sR 2 (.code p68_33::td125) ?_
    obtain ⟨v116,hv117,hp118⟩:=bind_some' hp113
    have J122 : ∀ (t119 : Bool) (he124 : t119 = v116) (l123 : List Value) (w120 : World) (hS121 : St w0 Z (xblk ba0 193 ([.string y0,.int .i64 t11,.int .i64 t12,.int .i64 t13,.nilIface])::xblk b1 75 (enc_api_Token (⟨0,(⟨#[]⟩ : ByteArray),0,0,0,0,0⟩ : api_Token))::xblk b46 75 (enc_api_Token (⟨0,(⟨#[]⟩ : ByteArray),0,t12,t13,t11,t11⟩ : api_Token))::fs) w120),Runs Tryz.prog (fx 68) td125 (fill (mk 214 [(0,.pointer (some ⟨ba0,0,none⟩)),(2,.pointer (some ⟨b1,0,none⟩)),(6,.pointer (some ⟨b46,0,none⟩)),(7,.string (y0.extract t11.toNat y0.size)),(8,.int .i64 1),(9,.int .u8 (byt (y0.extract t11.toNat y0.size) (0 : Int))),(117,.bool t119)]) l123) w120 R:=by
     intro t119 he124 l123 w120 hS121
     subst he124
     try dsimp only at hp118
     cases t119
     ·have hp125:=ite_f hp118 rfl
      refine sI 5 (.inRegion (opsOf (cd68 [1,1,1,1,1,1,1,0,1,0,1,1,1,1,0])) [2]::.code (cd68 [1,1,1,1,1,1,1,0,1,0,1,1,1,1,1])::td124) 174 hp125 (fun hp128 => ?_) fun hp207 => ?_
      ·refine sR 6 (.inRegion (opsOf (cd68 [1,1,1,1,1,1,1,0,1,0,1,1,1,1,1,0,0])) [1,2,3]::.code (cd68 [1,1,1,1,1,1,1,0,1,0,1,1,1,1,1,0,1])::td124) ?_
       obtain ⟨g129,hp130⟩:=ite_some hp128
       refine rV (.slice 9 (.tmp 175) (some (.const (.int .i64 1))) none none) (.string ((y0.extract t11.toNat y0.size).extract (1 : Int).toNat (y0.extract t11.toNat y0.size).size)) (fun o ho _ => x_cutStr_sn (k:=.i64) (by kernel_rfl) (by kernel_rfl) (by kernel_rfl) g129 ho) ?_
       obtain ⟨t131,hr132,hp133⟩:=bind_some' hp130
       refine rC (strings_IndexAny.ok hr132 hS121) ?_
       rintro _ w134 ⟨rfl,hS135⟩
       refine ⟨_,rfl,?_⟩
       refine sI 7 (.inRegion (opsOf (cd68 [1,1,1,1,1,1,1,0,1,0,1,1,1,1,1,0,1,0,0])) []::.code (cd68 [1,1,1,1,1,1,1,0,1,0,1,1,1,1,1,0,1,0,1])::td126) 179 hp133 (fun hp138 => ?_) fun hp164 => ?_
       ·refine sR 7 (iR p68_42 3 5::td127) ?_
        obtain ⟨⟨t139,t140,t141,t142,t143,t144⟩,hr147,hp148⟩:=bind_some' hp138
        try dsimp only at hp148
        refine rC (lexis_Lexer__fail_2.ok rec_lexis_Lexer__Next hrec_lexis_Lexer__Next hr147 hS135) ?_
        rintro _ w151 ⟨Q145,Q146,Z153,hz154,rfl,hS152,hs155,hs156⟩
        refine ⟨_,rfl,?_⟩
        refine sR 2 (.inRegion (opsOf p68_42) [6,7]::td127) ?_
        have hS157:=hS152.pick1
        refine rSA 75 (.tmp 2) (.tmp 184) (enc_api_Token t139) hS157 (one_api_Token _) ?_
        intro w158 hS159
        refine sR 2 td127 ?_
        refine r_isret (c:=p68_43) (by kernel_rfl) ?_
        have hS160:=hS159.drop
        have hS161:=hS160.pick1
        have hS162:=hS161.drop
        refine rRc (.tuple #[.agg (enc_api_Token t139).toArray,Q145]) (.ca 2 75 (hS159.blk 0 rfl) (.tm 3 .nil)) Tryz.func68 ?_
        cases hq86 _ (Option.some.inj hp148)
        exact hR _ _ ⟨Q145,Q146,Z153,hz154,rfl,hS162,hs155,hs156⟩
       refine sR 9 (.inRegion (opsOf p68_44) [3,4]::.code p68_45::td128) ?_
       obtain ⟨g165,hp166⟩:=ite_some hp164
       refine rV (.index 9 (.tmp 186) (.tmp 188)) (.int .u8 (byt (y0.extract t11.toNat y0.size) (IntKind.i64.wrap (1 + t131)))) (fun o ho _ => x_indexStr (kk:=.i64) (by kernel_rfl) (by kernel_rfl) (by kernel_rfl) g165.1 g165.2 ho) ?_
       refine sI 1 (.inRegion (opsOf p68_44) []::.code p68_45::td128) 190 hp166 (fun hp169 => ?_) fun hp195 => ?_
       ·refine sR 7 (iR p68_47 3 5::td129) ?_
        obtain ⟨⟨t170,t171,t172,t173,t174,t175⟩,hr178,hp179⟩:=bind_some' hp169
        try dsimp only at hp179
        refine rC (lexis_Lexer__fail_2.ok rec_lexis_Lexer__Next hrec_lexis_Lexer__Next hr178 hS135) ?_
        rintro _ w182 ⟨Q176,Q177,Z184,hz185,rfl,hS183,hs186,hs187⟩
        refine ⟨_,rfl,?_⟩
        refine sR 2 (.inRegion (opsOf p68_47) [6,7]::td129) ?_
        have hS188:=hS183.pick1
        refine rSA 75 (.tmp 2) (.tmp 195) (enc_api_Token t170) hS188 (one_api_Token _) ?_
        intro w189 hS190
        refine sR 2 td129 ?_
        refine r_isret (c:=p68_48) (by kernel_rfl) ?_
        have hS191:=hS190.drop
        have hS192:=hS191.pick1
        have hS193:=hS192.drop
        refine rRc (.tuple #[.agg (enc_api_Token t170).toArray,Q176]) (.ca 2 75 (hS190.blk 0 rfl) (.tm 3 .nil)) Tryz.func68 ?_
        cases hq86 _ (Option.some.inj hp179)
        exact hR _ _ ⟨Q176,Q177,Z184,hz185,rfl,hS193,hs186,hs187⟩
       refine sR 9 (.code (cd68 [1,1,1,1,1,1,1,0,1,0,1,1,1,1,1,0,1,1,1,1])::td124) ?_
       have hS196:=hS135.pick2
       generalize hg198 : (xblk ba0 193 ([.string y0,.int .i64 t11,.int .i64 t12,.int .i64 t13,.nilIface])::xblk b1 75 (enc_api_Token (⟨0,(⟨#[]⟩ : ByteArray),0,0,0,0,0⟩ : api_Token))::fs) = gs197 at hS196
       obtain ⟨g199,hp200⟩:=ite_some hp195
       refine rT 40 [enc_api_Token (⟨0,(⟨#[]⟩ : ByteArray),0,t12,t13,t11,t11⟩ : api_Token),enc_api_Token (⟨3,(⟨#[]⟩ : ByteArray),0,t12,t13,t11,t11⟩ : api_Token),enc_api_Token (⟨3,((y0.extract t11.toNat y0.size).extract (1 : Int).toNat (IntKind.i64.wrap (1 + t131)).toNat),0,t12,t13,t11,t11⟩ : api_Token)] [.string (y0.extract t11.toNat y0.size),.int .i64 t131,.int .i64 (IntKind.i64.wrap (1 + t131)),.string ((y0.extract t11.toNat y0.size).extract (1 : Int).toNat (IntKind.i64.wrap (1 + t131)).toNat),.pointer (some ⟨b46,0,none⟩),undef,.pointer (some ⟨b46,1,none⟩),undef] 5 8 [5,7] [0,0,0,0,0,0,1,1] [1,1,1,1,0,1,1,2] [] [0,1,2,4,6] [3] hS196 ⟨fun _ => x_cutStr_ss (t:=9) (x:=(.tmp 199)) (lo:=(.const (.int .i64 1))) (hi:=(.tmp 201)) (k:=.i64) (k':=.i64) (by kernel_rfl) (by kernel_rfl) (by kernel_rfl) (by kernel_rfl) g199 (by kernel_rfl),trivial⟩ ⟨sT 3 (.tmp 203) (.const (.int .i64 3)) 0 (.int .i64 3) [.int .i64 3],sT 9 (.tmp 204) (.tmp 202) 1 (.string ((y0.extract t11.toNat y0.size).extract (1 : Int).toNat (IntKind.i64.wrap (1 + t131)).toNat)) [.string ((y0.extract t11.toNat y0.size).extract (1 : Int).toNat (IntKind.i64.wrap (1 + t131)).toNat)],trivial⟩ ?_
       intro w203 hS204
       change St w0 Z (xblk b46 75 (enc_api_Token (⟨3,((y0.extract t11.toNat y0.size).extract (1 : Int).toNat (IntKind.i64.wrap (1 + t131)).toNat),0,t12,t13,t11,t11⟩ : api_Token))::_) w203 at hS204
       subst hg198
       refine sR 1 td123 ?_
       have hS205:=hS204.pick2
       have hS206:=hS205.pick2
       exact rF _ (J87 (IntKind.i64.wrap (t131 + 2)) (⟨3,((y0.extract t11.toNat y0.size).extract (1 : Int).toNat (IntKind.i64.wrap (1 + t131)).toNat),0,t12,t13,t11,t11⟩ : api_Token) (Option.some.inj hp200) _ _ hS206)
      refine sR 6 (.inRegion (opsOf (cd68 [1,1,1,1,1,1,1,0,1,0,1,1,1,1,1,1,0])) [1,2]::.code (cd68 [1,1,1,1,1,1,1,0,1,0,1,1,1,1,1,1,1])::td124) ?_
      obtain ⟨t208,hr209,hp210⟩:=bind_some' hp207
      refine rC (lexis_sign.ok hr209 hS121) ?_
      rintro _ w211 ⟨rfl,hS212⟩
      refine ⟨_,rfl,?_⟩
      refine sI 7 (.inRegion (opsOf (cd68 [1,1,1,1,1,1,1,0,1,0,1,1,1,1,1,1,1,0,0])) []::.code (cd68 [1,1,1,1,1,1,1,0,1,0,1,1,1,1,1,1,1,0,1])::td130) 91 hp210 (fun hp215 => ?_) fun hp241 => ?_
      ·refine sR 5 (iR p68_55 1 5::td131) ?_
       obtain ⟨⟨t216,t217,t218,t219,t220,t221⟩,hr224,hp225⟩:=bind_some' hp215
       try dsimp only at hp225
       refine rC (lexis_Lexer__fail_2.ok rec_lexis_Lexer__Next hrec_lexis_Lexer__Next hr224 hS212) ?_
       rintro _ w228 ⟨Q222,Q223,Z230,hz231,rfl,hS229,hs232,hs233⟩
       refine ⟨_,rfl,?_⟩
       refine sR 2 (.inRegion (opsOf p68_55) [4,5]::td131) ?_
       have hS234:=hS229.pick1
       refine rSA 75 (.tmp 2) (.tmp 94) (enc_api_Token t216) hS234 (one_api_Token _) ?_
       intro w235 hS236
       refine sR 2 td131 ?_
       refine r_isret (c:=p68_56) (by kernel_rfl) ?_
       have hS237:=hS236.drop
       have hS238:=hS237.pick1
       have hS239:=hS238.drop
       refine rRc (.tuple #[.agg (enc_api_Token t216).toArray,Q222]) (.ca 2 75 (hS236.blk 0 rfl) (.tm 3 .nil)) Tryz.func68 ?_
       cases hq86 _ (Option.some.inj hp225)
       exact hR _ _ ⟨Q222,Q223,Z230,hz231,rfl,hS239,hs232,hs233⟩
      refine sR 3 td130 ?_
      have hS242:=hS212.pick2
      generalize hg244 : (xblk ba0 193 ([.string y0,.int .i64 t11,.int .i64 t12,.int .i64 t13,.nilIface])::xblk b1 75 (enc_api_Token (⟨0,(⟨#[]⟩ : ByteArray),0,0,0,0,0⟩ : api_Token))::fs) = gs243 at hS242
      obtain ⟨g245,hp246⟩:=ite_some hp241
      refine rT 19 [enc_api_Token (⟨0,(⟨#[]⟩ : ByteArray),0,t12,t13,t11,t11⟩ : api_Token),enc_api_Token (⟨4,(⟨#[]⟩ : ByteArray),0,t12,t13,t11,t11⟩ : api_Token),enc_api_Token (⟨4,((y0.extract t11.toNat y0.size).extract 0 t208.toNat),0,t12,t13,t11,t11⟩ : api_Token)] [.string (y0.extract t11.toNat y0.size),.int .i64 t208,.string ((y0.extract t11.toNat y0.size).extract 0 t208.toNat),.pointer (some ⟨b46,0,none⟩),undef,.pointer (some ⟨b46,1,none⟩),undef] 4 7 [4,6] [0,0,0,0,0,1,1] [1,1,1,0,1,1,2] [] [0,1,3,5] [2] hS242 ⟨fun _ => x_cutStr_ns (t:=9) (x:=(.tmp 96)) (hi:=(.tmp 97)) (k:=.i64) (by kernel_rfl) (by kernel_rfl) (by kernel_rfl) g245 (by kernel_rfl),trivial⟩ ⟨sT 3 (.tmp 99) (.const (.int .i64 4)) 0 (.int .i64 4) [.int .i64 4],sT 9 (.tmp 100) (.tmp 98) 1 (.string ((y0.extract t11.toNat y0.size).extract 0 t208.toNat)) [.string ((y0.extract t11.toNat y0.size).extract 0 t208.toNat)],trivial⟩ ?_
      intro w249 hS250
      change St w0 Z (xblk b46 75 (enc_api_Token (⟨4,((y0.extract t11.toNat y0.size).extract 0 t208.toNat),0,t12,t13,t11,t11⟩ : api_Token))::_) w249 at hS250
      subst hg244
      refine sR 1 td123 ?_
      have hS251:=hS250.pick2
      have hS252:=hS251.pick2
      exact rF _ (J87 t208 (⟨4,((y0.extract t11.toNat y0.size).extract 0 t208.toNat),0,t12,t13,t11,t11⟩ : api_Token) (Option.some.inj hp246) _ _ hS252)
     have hp253:=ite_t hp118 rfl
     refine sR 4 td135 ?_
     obtain ⟨v254,hv255,hp256⟩:=bind_some' hp253
     have J260 : ∀ (t257 : Int) (he262 : t257 = v254) (l261 : List Value) (w258 : World) (hS259 : St w0 Z (xblk ba0 193 ([.string y0,.int .i64 t11,.int .i64 t12,.int .i64 t13,.nilIface])::xblk b1 75 (enc_api_Token (⟨0,(⟨#[]⟩ : ByteArray),0,0,0,0,0⟩ : api_Token))::xblk b46 75 (enc_api_Token (⟨0,(⟨#[]⟩ : ByteArray),0,t12,t13,t11,t11⟩ : api_Token))::fs) w258),Runs Tryz.prog (fx 68) td132 (fill (mk 214 [(0,.pointer (some ⟨ba0,0,none⟩)),(2,.pointer (some ⟨b1,0,none⟩)),(6,.pointer (some ⟨b46,0,none⟩)),(7,.string (y0.extract t11.toNat y0.size)),(8,.int .i64 t257)]) l261) w258 R:=by
      intro t257 he262 l261 w258 hS259
      subst he262
      try dsimp only at hp256
      refine sR 4 (iR (cd68 [1,1,1,1,1,1,1,0,1,0,1,1,1,0,1,0]) 2 7::.code (cd68 [1,1,1,1,1,1,1,0,1,0,1,1,1,0,1,1])::td124) ?_
      obtain ⟨g263,hp264⟩:=ite_some hp256
      refine rV (.slice 9 (.tmp 152) none (some (.tmp 153)) none) (.string ((y0.extract t11.toNat y0.size).extract 0 t257.toNat)) (fun o ho _ => x_cutStr_ns (k:=.i64) (by kernel_rfl) (by kernel_rfl) (by kernel_rfl) g263 ho) ?_
      obtain ⟨⟨t265,t266⟩,hr267,hp268⟩:=bind_some' hp264
      try dsimp only at hp268
      refine rC (word_Parse.ok hr267 hS259) ?_
      rintro _ w269 ⟨rfl,hS270⟩
      refine ⟨_,rfl,?_⟩
      refine sI 11 (.inRegion (opsOf (cd68 [1,1,1,1,1,1,1,0,1,0,1,1,1,0,1,1,0,0])) []::.code (cd68 [1,1,1,1,1,1,1,0,1,0,1,1,1,0,1,1,0,1])::td136) 159 hp268 (fun hp273 => ?_) fun hp299 => ?_
      ·refine sR 6 (iR p68_64 2 5::td137) ?_
       obtain ⟨⟨t274,t275,t276,t277,t278,t279⟩,hr282,hp283⟩:=bind_some' hp273
       try dsimp only at hp283
       refine rC (lexis_Lexer__fail_2.ok rec_lexis_Lexer__Next hrec_lexis_Lexer__Next hr282 hS270) ?_
       rintro _ w286 ⟨Q280,Q281,Z288,hz289,rfl,hS287,hs290,hs291⟩
       refine ⟨_,rfl,?_⟩
       refine sR 2 (.inRegion (opsOf p68_64) [5,6]::td137) ?_
       have hS292:=hS287.pick1
       refine rSA 75 (.tmp 2) (.tmp 163) (enc_api_Token t274) hS292 (one_api_Token _) ?_
       intro w293 hS294
       refine sR 2 td137 ?_
       refine r_isret (c:=p68_65) (by kernel_rfl) ?_
       have hS295:=hS294.drop
       have hS296:=hS295.pick1
       have hS297:=hS296.drop
       refine rRc (.tuple #[.agg (enc_api_Token t274).toArray,Q280]) (.ca 2 75 (hS294.blk 0 rfl) (.tm 3 .nil)) Tryz.func68 ?_
       cases hq86 _ (Option.some.inj hp283)
       exact hR _ _ ⟨Q280,Q281,Z288,hz289,rfl,hS297,hs290,hs291⟩
      refine sR 3 td136 ?_
      have hS300:=hS270.pick2
      generalize hg302 : (xblk ba0 193 ([.string y0,.int .i64 t11,.int .i64 t12,.int .i64 t13,.nilIface])::xblk b1 75 (enc_api_Token (⟨0,(⟨#[]⟩ : ByteArray),0,0,0,0,0⟩ : api_Token))::fs) = gs301 at hS300
      obtain ⟨g303,hp304⟩:=ite_some hp299
      refine rT 32 [enc_api_Token (⟨0,(⟨#[]⟩ : ByteArray),0,t12,t13,t11,t11⟩ : api_Token),enc_api_Token (⟨2,(⟨#[]⟩ : ByteArray),0,t12,t13,t11,t11⟩ : api_Token),enc_api_Token (⟨2,((y0.extract t11.toNat y0.size).extract 0 t257.toNat),0,t12,t13,t11,t11⟩ : api_Token),enc_api_Token (⟨2,((y0.extract t11.toNat y0.size).extract 0 t257.toNat),t265,t12,t13,t11,t11⟩ : api_Token)] [.string (y0.extract t11.toNat y0.size),.int .i64 t257,.string ((y0.extract t11.toNat y0.size).extract 0 t257.toNat),.int .i64 t265,.pointer (some ⟨b46,0,none⟩),undef,.pointer (some ⟨b46,1,none⟩),undef,.pointer (some ⟨b46,2,none⟩),undef] 5 10 [5,7,9] [0,0,0,0,0,0,1,1,2,2] [1,1,1,2,0,1,1,2,2,3] [] [0,1,3,4,6,8] [2] hS300 ⟨fun _ => x_cutStr_ns (t:=9) (x:=(.tmp 165)) (hi:=(.tmp 166)) (k:=.i64) (by kernel_rfl) (by kernel_rfl) (by kernel_rfl) g303 (by kernel_rfl),trivial⟩ ⟨sT 3 (.tmp 169) (.const (.int .i64 2)) 0 (.int .i64 2) [.int .i64 2],sT 9 (.tmp 170) (.tmp 167) 1 (.string ((y0.extract t11.toNat y0.size).extract 0 t257.toNat)) [.string ((y0.extract t11.toNat y0.size).extract 0 t257.toNat)],sT 2 (.tmp 171) (.tmp 168) 2 (.int .i64 t265) [.int .i64 t265],trivial⟩ ?_
      intro w308 hS309
      change St w0 Z (xblk b46 75 (enc_api_Token (⟨2,((y0.extract t11.toNat y0.size).extract 0 t257.toNat),t265,t12,t13,t11,t11⟩ : api_Token))::_) w308 at hS309
      subst hg302
      refine sR 1 td123 ?_
      have hS310:=hS309.pick2
      have hS311:=hS310.pick2
      exact rF _ (J87 t257 (⟨2,((y0.extract t11.toNat y0.size).extract 0 t257.toNat),t265,t12,t13,t11,t11⟩ : api_Token) (Option.some.inj hp304) _ _ hS311)
     have L321 : ∀ (t312 e316 : Int),lexis_Lexer__Next.l0 y0 t11 t312 = some e316 → e316 = v254 → ∀ (l315 : List Value) (w313 : World) (hS314 : St w0 Z (xblk ba0 193 ([.string y0,.int .i64 t11,.int .i64 t12,.int .i64 t13,.nilIface])::xblk b1 75 (enc_api_Token (⟨0,(⟨#[]⟩ : ByteArray),0,0,0,0,0⟩ : api_Token))::xblk b46 75 (enc_api_Token (⟨0,(⟨#[]⟩ : ByteArray),0,t12,t13,t11,t11⟩ : api_Token))::fs) w313),Runs Tryz.prog (fx 68) td135 (fill (mk 214 [(0,.pointer (some ⟨ba0,0,none⟩)),(2,.pointer (some ⟨b1,0,none⟩)),(6,.pointer (some ⟨b46,0,none⟩)),(7,.string (y0.extract t11.toNat y0.size)),(8,.int .i64 t312)]) l315) w313 R:=by
      refine lexis_Lexer__Next.l0.partial_correctness y0 t11 (fun t312 e316 => e316 = v254 → ∀ (l315 : List Value) (w313 : World) (hS314 : St w0 Z (xblk ba0 193 ([.string y0,.int .i64 t11,.int .i64 t12,.int .i64 t13,.nilIface])::xblk b1 75 (enc_api_Token (⟨0,(⟨#[]⟩ : ByteArray),0,0,0,0,0⟩ : api_Token))::xblk b46 75 (enc_api_Token (⟨0,(⟨#[]⟩ : ByteArray),0,t12,t13,t11,t11⟩ : api_Token))::fs) w313),Runs Tryz.prog (fx 68) td135 (fill (mk 214 [(0,.pointer (some ⟨ba0,0,none⟩)),(2,.pointer (some ⟨b1,0,none⟩)),(6,.pointer (some ⟨b46,0,none⟩)),(7,.string (y0.extract t11.toNat y0.size)),(8,.int .i64 t312)]) l315) w313 R) ?_
      intro rec320 ih319 t312 e316 hb318 he317 l315 w313 hS314
      obtain ⟨v322,hv323,hp324⟩:=bind_some' hb318
      have hq327 : ∀ x,Sum.inr x = v322 → x = e316:=by intro x hx; subst hx; simpa using hp324
      have J328 : ∀ (he330 : Sum.inl () = v322) (l329 : List Value) (w325 : World) (hS326 : St w0 Z (xblk ba0 193 ([.string y0,.int .i64 t11,.int .i64 t12,.int .i64 t13,.nilIface])::xblk b1 75 (enc_api_Token (⟨0,(⟨#[]⟩ : ByteArray),0,0,0,0,0⟩ : api_Token))::xblk b46 75 (enc_api_Token (⟨0,(⟨#[]⟩ : ByteArray),0,t12,t13,t11,t11⟩ : api_Token))::fs) w325),Runs Tryz.prog (fx 68) td138 (fill (mk 214 [(0,.pointer (some ⟨ba0,0,none⟩)),(2,.pointer (some ⟨b1,0,none⟩)),(6,.pointer (some ⟨b46,0,none⟩)),(7,.string (y0.extract t11.toNat y0.size)),(8,.int .i64 t312)]) l329) w325 R:=by
       intro he330 l329 w325 hS326
       subst he330
       try dsimp only at hp324
       refine sR 7 td134 ?_
       refine sR 1 td135 ?_
       exact rF _ (ih319 (IntKind.i64.wrap (t312 + 1)) _ hp324 he317 _ _ hS326)
      refine sI 7 (iR p68_67 4 18::td139) 130 hv323 (fun hp333 => ?_) fun hp358 => ?_
      ·refine sR 3 (iR p68_67 7 15::td139) ?_
       obtain ⟨g334,hp335⟩:=ite_some hp333
       refine rV (.index 9 (.tmp 132) (.tmp 133)) (.int .u8 (byt (y0.extract t11.toNat y0.size) t312)) (fun o ho _ => x_indexStr (kk:=.i64) (by kernel_rfl) (by kernel_rfl) (by kernel_rfl) g334.1 g334.2 ho) ?_
       obtain ⟨t336,hr337,hp338⟩:=bind_some' hp335
       refine rC (lexis_letter.ok hr337 hS314) ?_
       rintro _ w339 ⟨rfl,hS340⟩
       refine ⟨_,rfl,?_⟩
       refine sR 1 (iR p68_67 10 12::td139) ?_
       cases t336
       ·have hp341:=ite_f hp338 rfl
        refine sR 2 (iR p68_67 12 10::td139) ?_
        obtain ⟨g342,hp343⟩:=ite_some hp341
        refine rV (.index 9 (.tmp 137) (.tmp 138)) (.int .u8 (byt (y0.extract t11.toNat y0.size) t312)) (fun o ho _ => x_indexStr (kk:=.i64) (by kernel_rfl) (by kernel_rfl) (by kernel_rfl) g342.1 g342.2 ho) ?_
        obtain ⟨t344,hr345,hp346⟩:=bind_some' hp343
        refine rC (lexis_digit.ok hr345 hS340) ?_
        rintro _ w347 ⟨rfl,hS348⟩
        refine ⟨_,rfl,?_⟩
        refine sR 2 (iR p68_67 16 6::td139) ?_
        cases t344
        ·have hp349:=ite_f hp346 rfl
         refine sR 2 (iR p68_67 18 4::td139) ?_
         obtain ⟨g350,hp351⟩:=ite_some hp349
         refine rV (.index 9 (.tmp 143) (.tmp 144)) (.int .u8 (byt (y0.extract t11.toNat y0.size) t312)) (fun o ho _ => x_indexStr (kk:=.i64) (by kernel_rfl) (by kernel_rfl) (by kernel_rfl) g350.1 g350.2 ho) ?_
         refine sI 1 (.inRegion (opsOf p68_67) [20,21]::td139) 146 hp351 (fun hp354 => ?_) fun hp355 => ?_
         ·refine sR 5 td138 ?_
          exact rF _ (J328 (Option.some.inj hp354) _ _ hS348)
         refine sR 5 td132 ?_
         exact rF _ (J260 t312 ((hq327 _ (Option.some.inj hp355)).trans he317) _ _ hS348)
        have hp356:=ite_t hp346 rfl
        refine sR 9 td138 ?_
        exact rF _ (J328 (Option.some.inj hp356) _ _ hS348)
       have hp357:=ite_t hp338 rfl
       refine sR 15 td138 ?_
       exact rF _ (J328 (Option.some.inj hp357) _ _ hS340)
      refine sR 21 td132 ?_
      exact rF _ (J260 t312 ((hq327 _ (Option.some.inj hp358)).trans he317) _ _ hS314)
     exact rF _ (L321 1 _ hv255 rfl _ _ hS121)
    cases t111
    ·have hp359:=ite_f hv117 rfl
     refine sI 4 (iR p68_69 2 6::td125) 121 hp359 (fun hp362 => ?_) fun hp375 => ?_
     ·refine sR 2 (iR p68_69 4 4::td125) ?_
      obtain ⟨t363,hr364,hp365⟩:=bind_some' hp362
      refine rC (lexis_byteAt.ok hr364 hS115) ?_
      rintro _ w366 ⟨rfl,hS367⟩
      refine ⟨_,rfl,?_⟩
      obtain ⟨t368,hr369,hp370⟩:=bind_some' hp365
      refine rC (lexis_digit.ok hr369 hS367) ?_
      rintro _ w371 ⟨rfl,hS372⟩
      refine ⟨_,rfl,?_⟩
      refine sR 3 td125 ?_
      have hS373:=hS372.pick2
      have hS374:=hS373.pick2
      exact rF _ (J122 t368 (Option.some.inj hp370) _ _ hS374)
     refine sR 7 td125 ?_
     have hS376:=hS115.pick2
     have hS377:=hS376.pick2
     exact rF _ (J122 false (Option.some.inj hp375) _ _ hS377)
    have hp378:=ite_t hv117 rfl
    refine sR 2 td125 ?_
    have hS379:=hS115.pick2
    have hS380:=hS379.pick2
    exact rF _ (J122 true (Option.some.inj hp378) _ _ hS380)
   have hp381:=ite_t hv80 rfl
   refine sR 4 (.inRegion (opsOf (cd68 [1,1,1,1,1,1,1,0,1,0,1,0,0])) [1,2]::.code (cd68 [1,1,1,1,1,1,1,0,1,0,1,0,1])::td124) ?_
   obtain ⟨t382,hr383,hp384⟩:=bind_some' hp381
   refine rC (lexis_name.ok hr383 hS78) ?_
   rintro _ w385 ⟨rfl,hS386⟩
   refine ⟨_,rfl,?_⟩
   refine sI 7 (.inRegion (opsOf (cd68 [1,1,1,1,1,1,1,0,1,0,1,0,1,0,0])) []::.code (cd68 [1,1,1,1,1,1,1,0,1,0,1,0,1,0,1])::td140) 107 hp384 (fun hp389 => ?_) fun hp416 => ?_
   ·refine sR 5 (iR p68_75 1 5::td141) ?_
    obtain ⟨⟨t390,t391,t392,t393,t394,t395⟩,hr398,hp399⟩:=bind_some' hp389
    try dsimp only at hp399
    have hS402:=hS386.pick1
    refine rC (lexis_Lexer__fail_2.ok rec_lexis_Lexer__Next hrec_lexis_Lexer__Next hr398 hS402) ?_
    rintro _ w403 ⟨Q396,Q397,Z405,hz406,rfl,hS404,hs407,hs408⟩
    refine ⟨_,rfl,?_⟩
    refine sR 2 (.inRegion (opsOf p68_75) [4,5]::td141) ?_
    have hS409:=hS404.pick2
    refine rSA 75 (.tmp 2) (.tmp 110) (enc_api_Token t390) hS409 (one_api_Token _) ?_
    intro w410 hS411
    refine sR 2 td141 ?_
    refine r_isret (c:=p68_76) (by kernel_rfl) ?_
    have hS412:=hS411.drop
    have hS413:=hS412.pick1
    have hS414:=hS413.drop
    refine rRc (.tuple #[.agg (enc_api_Token t390).toArray,Q396]) (.ca 2 75 (hS411.blk 0 rfl) (.tm 3 .nil)) Tryz.func68 ?_
    cases hq86 _ (Option.some.inj hp399)
    exact hR _ _ ⟨Q396,Q397,Z405,hz406,rfl,hS414,hs407,hs408⟩
   refine sR 3 td140 ?_
   generalize hg418 : (xblk ba0 193 ([.string y0,.int .i64 t11,.int .i64 t12,.int .i64 t13,.nilIface])::xblk b1 75 (enc_api_Token (⟨0,(⟨#[]⟩ : ByteArray),0,0,0,0,0⟩ : api_Token))::fs) = gs417 at hS386
   obtain ⟨g419,hp420⟩:=ite_some hp416
   refine rT 24 [enc_api_Token (⟨0,(⟨#[]⟩ : ByteArray),0,t12,t13,t11,t11⟩ : api_Token),enc_api_Token (⟨1,(⟨#[]⟩ : ByteArray),0,t12,t13,t11,t11⟩ : api_Token),enc_api_Token (⟨1,((y0.extract t11.toNat y0.size).extract 0 t382.toNat),0,t12,t13,t11,t11⟩ : api_Token)] [.string (y0.extract t11.toNat y0.size),.int .i64 t382,.string ((y0.extract t11.toNat y0.size).extract 0 t382.toNat),.pointer (some ⟨b46,0,none⟩),undef,.pointer (some ⟨b46,1,none⟩),undef] 4 7 [4,6] [0,0,0,0,0,1,1] [1,1,1,0,1,1,2] [] [0,1,3,5] [2] hS386 ⟨fun _ => x_cutStr_ns (t:=9) (x:=(.tmp 112)) (hi:=(.tmp 113)) (k:=.i64) (by kernel_rfl) (by kernel_rfl) (by kernel_rfl) g419 (by kernel_rfl),trivial⟩ ⟨sT 3 (.tmp 115) (.const (.int .i64 1)) 0 (.int .i64 1) [.int .i64 1],sT 9 (.tmp 116) (.tmp 114) 1 (.string ((y0.extract t11.toNat y0.size).extract 0 t382.toNat)) [.string ((y0.extract t11.toNat y0.size).extract 0 t382.toNat)],trivial⟩ ?_
   intro w423 hS424
   change St w0 Z (xblk b46 75 (enc_api_Token (⟨1,((y0.extract t11.toNat y0.size).extract 0 t382.toNat),0,t12,t13,t11,t11⟩ : api_Token))::_) w423 at hS424
   subst hg418
   refine sR 1 td123 ?_
   have hS425:=hS424.pick2
   have hS426:=hS425.pick2
   exact rF _ (J87 t382 (⟨1,((y0.extract t11.toNat y0.size).extract 0 t382.toNat),0,t12,t13,t11,t11⟩ : api_Token) (Option.some.inj hp420) _ _ hS426)
  ·have hp427:=cas_num hp0
   have y6 : y5 = .iface 37 (.int .i64 n5):=y6
   subst y6
   refine sR 21 (.inRegion (opsOf (cd68 [1,0,1,0,1,1,1,0,1,0])) [3,4]::.code p68_78::td121) ?_
   refine rSA 75 (.tmp 2) (.tmp 39) (enc_api_Token (⟨0,(⟨#[]⟩ : ByteArray),0,0,0,0,0⟩ : api_Token)) hS3 (one_api_Token _) ?_
   intro w428 hS429
   refine sR 2 (.code p68_78::td121) ?_
   have hS432:=hS429.drop
   refine rRc (.tuple #[.agg (enc_api_Token (⟨0,(⟨#[]⟩ : ByteArray),0,0,0,0,0⟩ : api_Token)).toArray,.iface 37 (.int .i64 n5)]) (.ca 2 75 (hS429.blk 0 rfl) (.tm 3 .nil)) Tryz.func68 ?_
   cases Option.some.inj hp427
   exact hR _ _ ⟨(.iface 37 (.int .i64 n5)),(.iface 37 (.int .i64 n5)),Z,(Zm.Le.refl _),rfl,hS432,(RepE.of_num),(RepE.of_num)⟩
  have hp434:=cas_pos hp0
  obtain ⟨b435,y6,hs436⟩:=y6
  subst y6
  refine sR 10 (.code (cd68 [1,0,1,0,1,0,1,0])::.code (cd68 [1,0,1,0,1,0,1,1])::td121) ?_
  generalize hg439 : (xblk ba0 193 ([.string y0,.int .i64 y1,.int .i64 y2,.int .i64 y3,.iface 78 (.pointer (some ⟨b435,0,none⟩))])::fs) = gs438 at hS3
  refine r_drawnP (S:=Option Nat × Option Unit) (dn:=(fun (st : Option Nat × Option Unit) k => [st.1.isSome,st.2.isSome].getD k true)) (C:=(fun st w' => match st with | (none,none) => St w0 Z (xblk b1 75 (enc_api_Token (⟨0,(⟨#[]⟩ : ByteArray),0,0,0,0,0⟩ : api_Token))::gs438) w' | (none,some _) => St w0 Z (xblk b1 75 (enc_api_Token (⟨0,(⟨#[]⟩ : ByteArray),0,0,0,0,0⟩ : api_Token))::gs438) w' | (some b440,none) => St w0 Z (xblk b440 80 ([.int .i64 n6,.int .i64 n7,.iface 37 (.int .i64 n8)])::xblk b1 75 (enc_api_Token (⟨0,(⟨#[]⟩ : ByteArray),0,0,0,0,0⟩ : api_Token))::gs438) w' | (some b440,some _) => St w0 Z (xblk b1 75 (enc_api_Token (⟨0,(⟨#[]⟩ : ByteArray),0,0,0,0,0⟩ : api_Token))::xblk b440 80 ([.int .i64 n6,.int .i64 n7,.iface 37 (.int .i64 n8)])::gs438) w')) (v:=(fun st => match st with | (none,none) => [.agg (enc_api_Token (⟨0,(⟨#[]⟩ : ByteArray),0,0,0,0,0⟩ : api_Token)).toArray,.pointer (some ⟨b435,0,none⟩),.pointer (some ⟨b435,0,none⟩),.pointer (some ⟨b435,0,none⟩),.int .i64 n6,.pointer (some ⟨b435,0,none⟩),.pointer (some ⟨b435,0,none⟩),.pointer (some ⟨b435,1,none⟩),.int .i64 n7,.pointer (some ⟨b435,0,none⟩),.pointer (some ⟨b435,0,none⟩),.pointer (some ⟨b435,2,none⟩),.iface 37 (.int .i64 n8),.agg #[.int .i64 n6,.int .i64 n7,.iface 37 (.int .i64 n8)],undef,undef,undef,undef] | (none,some _) => [.agg (enc_api_Token (⟨0,(⟨#[]⟩ : ByteArray),0,0,0,0,0⟩ : api_Token)).toArray,.pointer (some ⟨b435,0,none⟩),.pointer (some ⟨b435,0,none⟩),.pointer (some ⟨b435,0,none⟩),.int .i64 n6,.pointer (some ⟨b435,0,none⟩),.pointer (some ⟨b435,0,none⟩),.pointer (some ⟨b435,1,none⟩),.int .i64 n7,.pointer (some ⟨b435,0,none⟩),.pointer (some ⟨b435,0,none⟩),.pointer (some ⟨b435,2,none⟩),.iface 37 (.int .i64 n8),.agg #[.int .i64 n6,.int .i64 n7,.iface 37 (.int .i64 n8)],undef,undef,undef,undef] | (some b440,none) => [.agg (enc_api_Token (⟨0,(⟨#[]⟩ : ByteArray),0,0,0,0,0⟩ : api_Token)).toArray,.pointer (some ⟨b435,0,none⟩),.pointer (some ⟨b435,0,none⟩),.pointer (some ⟨b435,0,none⟩),.int .i64 n6,.pointer (some ⟨b435,0,none⟩),.pointer (some ⟨b435,0,none⟩),.pointer (some ⟨b435,1,none⟩),.int .i64 n7,.pointer (some ⟨b435,0,none⟩),.pointer (some ⟨b435,0,none⟩),.pointer (some ⟨b435,2,none⟩),.iface 37 (.int .i64 n8),.agg #[.int .i64 n6,.int .i64 n7,.iface 37 (.int .i64 n8)],.pointer (some ⟨b440,0,none⟩),.iface 78 (.pointer (some ⟨b440,0,none⟩)),undef,undef] | (some b440,some _) => [.agg (enc_api_Token (⟨0,(⟨#[]⟩ : ByteArray),0,0,0,0,0⟩ : api_Token)).toArray,.pointer (some ⟨b435,0,none⟩),.pointer (some ⟨b435,0,none⟩),.pointer (some ⟨b435,0,none⟩),.int .i64 n6,.pointer (some ⟨b435,0,none⟩),.pointer (some ⟨b435,0,none⟩),.pointer (some ⟨b435,1,none⟩),.int .i64 n7,.pointer (some ⟨b435,0,none⟩),.pointer (some ⟨b435,0,none⟩),.pointer (some ⟨b435,2,none⟩),.iface 37 (.int .i64 n8),.agg #[.int .i64 n6,.int .i64 n7,.iface 37 (.int .i64 n8)],.pointer (some ⟨b440,0,none⟩),.iface 78 (.pointer (some ⟨b440,0,none⟩)),undef,.iface 78 (.pointer (some ⟨b440,0,none⟩))])) (c:=(cd68 [1,0,1,0,1,0,1,0])) (id:=4) (none,none) 16 18 [14,16] [[],[],[],[],[],[],[],[],[],[],[],[],[],[],[],[0],[],[0,1]] [[1],[],[],[],[],[],[],[],[],[],[],[],[],[0],[],[],[],[]] [] [true,true,true,true,true,true,true,true,true,true,true,true,true,true,true,true,true,true] (by kernel_rfl) (by kernel_rfl) (by kernel_rfl) (by kernel_rfl) (by kernel_rfl) (by kernel_rfl) (by kernel_rfl) (by kernel_rfl) (by kernel_rfl) (fun k hk => match k,hk with | 0,_ => rfl | 1,_ => rfl | k + 2,hk => absurd hk (by simp)) hS3.drew ?_ (fun k hk => match k,hk with | 0,_ => rfl | 1,_ => rfl | k + 2,hk => absurd hk (by simp)) ?_ ?_ ?_
  ·intro i hi st w hC hd
   match i,hi with
   | 0,_ => (show _ = _; kernel_rfl)
   | 1,_ => (show _ = _; kernel_rfl)
   | 2,_ => (show _ = _; kernel_rfl)
   | 3,_ => (show _ = _; kernel_rfl)
   | 4,_ => (show _ = _; kernel_rfl)
   | 5,_ => (show _ = _; kernel_rfl)
   | 6,_ => (show _ = _; kernel_rfl)
   | 7,_ => (show _ = _; kernel_rfl)
   | 8,_ => (show _ = _; kernel_rfl)
   | 9,_ => (show _ = _; kernel_rfl)
   | 10,_ => (show _ = _; kernel_rfl)
   | 11,_ => (show _ = _; kernel_rfl)
   | 12,_ => (show _ = _; kernel_rfl)
   | 13,_ => (show _ = _; kernel_rfl)
   | 14,_ => (show _ = _; kernel_rfl)
   | 15,_ => (show _ = _; kernel_rfl)
   | 16,_ => (show _ = _; kernel_rfl)
   | 17,_ => (show _ = _; kernel_rfl)
   | i + 18,hi => exact absurd hi (by omega)
  ·intro i hi he st w hC hd hu
   match i,hi,he with
   | 0,_,_ =>
    rcases st with ⟨_ | b440,_ | _⟩
    ·dsimp only at hC
     exact dG (.agg (enc_api_Token (⟨0,(⟨#[]⟩ : ByteArray),0,0,0,0,0⟩ : api_Token)).toArray) hC
    ·exact Bool.noConfusion (hu 1 (by decide))
    ·dsimp only at hC
     exact dG (.agg (enc_api_Token (⟨0,(⟨#[]⟩ : ByteArray),0,0,0,0,0⟩ : api_Token)).toArray) hC
    ·exact Bool.noConfusion (hu 1 (by decide))
   | 1,_,_ =>
    rcases st with ⟨_ | b440,_ | _⟩
    ·dsimp only at hC
     exact dG (.pointer (some ⟨b435,0,none⟩)) hC
    ·dsimp only at hC
     exact dG (.pointer (some ⟨b435,0,none⟩)) hC
    ·dsimp only at hC
     exact dG (.pointer (some ⟨b435,0,none⟩)) hC
    ·dsimp only at hC
     exact dG (.pointer (some ⟨b435,0,none⟩)) hC
   | 2,_,_ =>
    rcases st with ⟨_ | b440,_ | _⟩
    ·dsimp only at hC
     exact dG (.pointer (some ⟨b435,0,none⟩)) hC
    ·dsimp only at hC
     exact dG (.pointer (some ⟨b435,0,none⟩)) hC
    ·dsimp only at hC
     exact dG (.pointer (some ⟨b435,0,none⟩)) hC
    ·dsimp only at hC
     exact dG (.pointer (some ⟨b435,0,none⟩)) hC
   | 3,_,_ =>
    rcases st with ⟨_ | b440,_ | _⟩
    ·dsimp only at hC
     exact dG (.pointer (some ⟨b435,0,none⟩)) hC
    ·dsimp only at hC
     exact dG (.pointer (some ⟨b435,0,none⟩)) hC
    ·dsimp only at hC
     exact dG (.pointer (some ⟨b435,0,none⟩)) hC
    ·dsimp only at hC
     exact dG (.pointer (some ⟨b435,0,none⟩)) hC
   | 4,_,_ =>
    rcases st with ⟨_ | b440,_ | _⟩
    ·dsimp only at hC
     exact ⟨fun _ => does_run (x_load (t:=3) (x:=(.tmp 23)) (p:=⟨b435,0,none⟩) (v:=.int .i64 n6) (by kernel_rfl) (loads_at 0 (hs436.cells hC) (by kernel_rfl) (by kernel_rfl)) (by kernel_rfl)) rfl hC,fun h => absurd h (by decide)⟩
    ·dsimp only at hC
     exact ⟨fun _ => does_run (x_load (t:=3) (x:=(.tmp 23)) (p:=⟨b435,0,none⟩) (v:=.int .i64 n6) (by kernel_rfl) (loads_at 0 (hs436.cells hC) (by kernel_rfl) (by kernel_rfl)) (by kernel_rfl)) rfl hC,fun h => absurd h (by decide)⟩
    ·dsimp only at hC
     exact ⟨fun _ => does_run (x_load (t:=3) (x:=(.tmp 23)) (p:=⟨b435,0,none⟩) (v:=.int .i64 n6) (by kernel_rfl) (loads_at 0 (hs436.cells hC) (by kernel_rfl) (by kernel_rfl)) (by kernel_rfl)) rfl hC,fun h => absurd h (by decide)⟩
    ·dsimp only at hC
     exact ⟨fun _ => does_run (x_load (t:=3) (x:=(.tmp 23)) (p:=⟨b435,0,none⟩) (v:=.int .i64 n6) (by kernel_rfl) (loads_at 0 (hs436.cells hC) (by kernel_rfl) (by kernel_rfl)) (by kernel_rfl)) rfl hC,fun h => absurd h (by decide)⟩
   | 5,_,_ =>
    rcases st with ⟨_ | b440,_ | _⟩
    ·dsimp only at hC
     exact dG (.pointer (some ⟨b435,0,none⟩)) hC
    ·dsimp only at hC
     exact dG (.pointer (some ⟨b435,0,none⟩)) hC
    ·dsimp only at hC
     exact dG (.pointer (some ⟨b435,0,none⟩)) hC
    ·dsimp only at hC
     exact dG (.pointer (some ⟨b435,0,none⟩)) hC
   | 6,_,_ =>
    rcases st with ⟨_ | b440,_ | _⟩
    ·dsimp only at hC
     exact dG (.pointer (some ⟨b435,0,none⟩)) hC
    ·dsimp only at hC
     exact dG (.pointer (some ⟨b435,0,none⟩)) hC
    ·dsimp only at hC
     exact dG (.pointer (some ⟨b435,0,none⟩)) hC
    ·dsimp only at hC
     exact dG (.pointer (some ⟨b435,0,none⟩)) hC
   | 7,_,_ =>
    rcases st with ⟨_ | b440,_ | _⟩
    ·dsimp only at hC
     exact dG (.pointer (some ⟨b435,1,none⟩)) hC
    ·dsimp only at hC
     exact dG (.pointer (some ⟨b435,1,none⟩)) hC
    ·dsimp only at hC
     exact dG (.pointer (some ⟨b435,1,none⟩)) hC
    ·dsimp only at hC
     exact dG (.pointer (some ⟨b435,1,none⟩)) hC
   | 8,_,_ =>
    rcases st with ⟨_ | b440,_ | _⟩
    ·dsimp only at hC
     exact ⟨fun _ => does_run (x_load (t:=3) (x:=(.tmp 27)) (p:=⟨b435,1,none⟩) (v:=.int .i64 n7) (by kernel_rfl) (loads_at 1 (hs436.cells hC) (by kernel_rfl) (by kernel_rfl)) (by kernel_rfl)) rfl hC,fun h => absurd h (by decide)⟩
    ·dsimp only at hC
     exact ⟨fun _ => does_run (x_load (t:=3) (x:=(.tmp 27)) (p:=⟨b435,1,none⟩) (v:=.int .i64 n7) (by kernel_rfl) (loads_at 1 (hs436.cells hC) (by kernel_rfl) (by kernel_rfl)) (by kernel_rfl)) rfl hC,fun h => absurd h (by decide)⟩
    ·dsimp only at hC
     exact ⟨fun _ => does_run (x_load (t:=3) (x:=(.tmp 27)) (p:=⟨b435,1,none⟩) (v:=.int .i64 n7) (by kernel_rfl) (loads_at 1 (hs436.cells hC) (by kernel_rfl) (by kernel_rfl)) (by kernel_rfl)) rfl hC,fun h => absurd h (by decide)⟩
    ·dsimp only at hC
     exact ⟨fun _ => does_run (x_load (t:=3) (x:=(.tmp 27)) (p:=⟨b435,1,none⟩) (v:=.int .i64 n7) (by kernel_rfl) (loads_at 1 (hs436.cells hC) (by kernel_rfl) (by kernel_rfl)) (by kernel_rfl)) rfl hC,fun h => absurd h (by decide)⟩
   | 9,_,_ =>
    rcases st with ⟨_ | b440,_ | _⟩
    ·dsimp only at hC
     exact dG (.pointer (some ⟨b435,0,none⟩)) hC
    ·dsimp only at hC
     exact dG (.pointer (some ⟨b435,0,none⟩)) hC
    ·dsimp only at hC
     exact dG (.pointer (some ⟨b435,0,none⟩)) hC
    ·dsimp only at hC
     exact dG (.pointer (some ⟨b435,0,none⟩)) hC
   | 10,_,_ =>
    rcases st with ⟨_ | b440,_ | _⟩
    ·dsimp only at hC
     exact dG (.pointer (some ⟨b435,0,none⟩)) hC
    ·dsimp only at hC
     exact dG (.pointer (some ⟨b435,0,none⟩)) hC
    ·dsimp only at hC
     exact dG (.pointer (some ⟨b435,0,none⟩)) hC
    ·dsimp only at hC
     exact dG (.pointer (some ⟨b435,0,none⟩)) hC
   | 11,_,_ =>
    rcases st with ⟨_ | b440,_ | _⟩
    ·dsimp only at hC
     exact dG (.pointer (some ⟨b435,2,none⟩)) hC
    ·dsimp only at hC
     exact dG (.pointer (some ⟨b435,2,none⟩)) hC
    ·dsimp only at hC
     exact dG (.pointer (some ⟨b435,2,none⟩)) hC
    ·dsimp only at hC
     exact dG (.pointer (some ⟨b435,2,none⟩)) hC
   | 12,_,_ =>
    rcases st with ⟨_ | b440,_ | _⟩
    ·dsimp only at hC
     exact ⟨fun _ => does_run (x_load (t:=25) (x:=(.tmp 31)) (p:=⟨b435,2,none⟩) (v:=.iface 37 (.int .i64 n8)) (by kernel_rfl) (loads_at 2 (hs436.cells hC) (by kernel_rfl) (by kernel_rfl)) (by kernel_rfl)) rfl hC,fun h => absurd h (by decide)⟩
    ·dsimp only at hC
     exact ⟨fun _ => does_run (x_load (t:=25) (x:=(.tmp 31)) (p:=⟨b435,2,none⟩) (v:=.iface 37 (.int .i64 n8)) (by kernel_rfl) (loads_at 2 (hs436.cells hC) (by kernel_rfl) (by kernel_rfl)) (by kernel_rfl)) rfl hC,fun h => absurd h (by decide)⟩
    ·dsimp only at hC
     exact ⟨fun _ => does_run (x_load (t:=25) (x:=(.tmp 31)) (p:=⟨b435,2,none⟩) (v:=.iface 37 (.int .i64 n8)) (by kernel_rfl) (loads_at 2 (hs436.cells hC) (by kernel_rfl) (by kernel_rfl)) (by kernel_rfl)) rfl hC,fun h => absurd h (by decide)⟩
    ·dsimp only at hC
     exact ⟨fun _ => does_run (x_load (t:=25) (x:=(.tmp 31)) (p:=⟨b435,2,none⟩) (v:=.iface 37 (.int .i64 n8)) (by kernel_rfl) (loads_at 2 (hs436.cells hC) (by kernel_rfl) (by kernel_rfl)) (by kernel_rfl)) rfl hC,fun h => absurd h (by decide)⟩
   | 13,_,_ =>
    rcases st with ⟨_ | b440,_ | _⟩
    ·dsimp only at hC
     exact dG (.agg #[.int .i64 n6,.int .i64 n7,.iface 37 (.int .i64 n8)]) hC
    ·dsimp only at hC
     exact dG (.agg #[.int .i64 n6,.int .i64 n7,.iface 37 (.int .i64 n8)]) hC
    ·exact Bool.noConfusion (hu 0 (by decide))
    ·exact Bool.noConfusion (hu 0 (by decide))
   | 14,_,he => exact absurd he (by decide)
   | 15,_,_ =>
    rcases st with ⟨_ | b440,_ | _⟩
    ·exact Bool.noConfusion (hd 0 (by decide))
    ·exact Bool.noConfusion (hd 0 (by decide))
    ·dsimp only at hC
     exact dG (.iface 78 (.pointer (some ⟨b440,0,none⟩))) hC
    ·dsimp only at hC
     exact dG (.iface 78 (.pointer (some ⟨b440,0,none⟩))) hC
   | 16,_,he => exact absurd he (by decide)
   | 17,_,_ =>
    rcases st with ⟨_ | b440,_ | _⟩
    ·exact Bool.noConfusion (hd 0 (by decide))
    ·exact Bool.noConfusion (hd 0 (by decide))
    ·exact Bool.noConfusion (hd 1 (by decide))
    ·dsimp only at hC
     exact dG (.iface 78 (.pointer (some ⟨b440,0,none⟩))) hC
   | i + 18,hi,_ => exact absurd hi (by omega)
  ·intro k hk st w hC hr hm
   match k,hk with
   | 0,_ =>
    rcases st with ⟨_ | b440,_ | _⟩
    ·dsimp only at hC
     refine does_box (t:=80) (x:=(.tmp 33)) (v:=.agg #[.int .i64 n6,.int .i64 n7,.iface 37 (.int .i64 n8)]) (cs:=[.int .i64 n6,.int .i64 n7,.iface 37 (.int .i64 n8)]) hC (by kernel_rfl) (by kernel_rfl) (by kernel_rfl) ?_
     intro b440 w2 h2
     have h2:=h2.pick1
     have h2:=h2.pick1
     refine ⟨(some b440,none),rfl,?_,?_,.inr rfl,h2⟩
     ·intro m hne; match m,hne with
      | 0,hne => exact absurd rfl hne
      | 1,hne => exact rfl
      | m + 2,_ => exact rfl
     ·intro j hj; match j,hj with
      | 0,hj => exact rfl
      | 1,hj => exact rfl
      | 2,hj => exact rfl
      | 3,hj => exact rfl
      | 4,hj => exact rfl
      | 5,hj => exact rfl
      | 6,hj => exact rfl
      | 7,hj => exact rfl
      | 8,hj => exact rfl
      | 9,hj => exact rfl
      | 10,hj => exact rfl
      | 11,hj => exact rfl
      | 12,hj => exact rfl
      | 13,hj => exact rfl
      | 14,hj => exact absurd (by decide) hj
      | 15,hj => exact absurd (by decide) hj
      | 16,hj => exact rfl
      | 17,hj => exact absurd (by decide) hj
      | j + 18,_ => exact rfl
    ·dsimp only at hC
     refine does_box (t:=80) (x:=(.tmp 33)) (v:=.agg #[.int .i64 n6,.int .i64 n7,.iface 37 (.int .i64 n8)]) (cs:=[.int .i64 n6,.int .i64 n7,.iface 37 (.int .i64 n8)]) hC (by kernel_rfl) (by kernel_rfl) (by kernel_rfl) ?_
     intro b440 w2 h2
     have h2:=h2.pick1
     refine ⟨(some b440,some ()),rfl,?_,?_,.inr rfl,h2⟩
     ·intro m hne; match m,hne with
      | 0,hne => exact absurd rfl hne
      | 1,hne => exact rfl
      | m + 2,_ => exact rfl
     ·intro j hj; match j,hj with
      | 0,hj => exact rfl
      | 1,hj => exact rfl
      | 2,hj => exact rfl
      | 3,hj => exact rfl
      | 4,hj => exact rfl
      | 5,hj => exact rfl
      | 6,hj => exact rfl
      | 7,hj => exact rfl
      | 8,hj => exact rfl
      | 9,hj => exact rfl
      | 10,hj => exact rfl
      | 11,hj => exact rfl
      | 12,hj => exact rfl
      | 13,hj => exact rfl
      | 14,hj => exact absurd (by decide) hj
      | 15,hj => exact absurd (by decide) hj
      | 16,hj => exact rfl
      | 17,hj => exact absurd (by decide) hj
      | j + 18,_ => exact rfl
    ·exact Bool.noConfusion hr
    ·exact Bool.noConfusion hr
   | 1,_ =>
    rcases st with ⟨_ | b440,_ | _⟩
    ·dsimp only at hC
     refine dSG 75 (.tmp 2) (.tmp 20) 0 (.agg (enc_api_Token (⟨0,(⟨#[]⟩ : ByteArray),0,0,0,0,0⟩ : api_Token)).toArray) (enc_api_Token (⟨0,(⟨#[]⟩ : ByteArray),0,0,0,0,0⟩ : api_Token)) (enc_api_Token (⟨0,(⟨#[]⟩ : ByteArray),0,0,0,0,0⟩ : api_Token)) hC (one_api_Token _) ?_
     intro w2 h2
     refine ⟨(none,some ()),rfl,?_,?_,.inl rfl,h2⟩
     ·intro m hne; match m,hne with
      | 0,hne => exact rfl
      | 1,hne => exact absurd rfl hne
      | m + 2,_ => exact rfl
     ·intro j hj; match j,hj with
      | 0,hj => exact rfl
      | 1,hj => exact rfl
      | 2,hj => exact rfl
      | 3,hj => exact rfl
      | 4,hj => exact rfl
      | 5,hj => exact rfl
      | 6,hj => exact rfl
      | 7,hj => exact rfl
      | 8,hj => exact rfl
      | 9,hj => exact rfl
      | 10,hj => exact rfl
      | 11,hj => exact rfl
      | 12,hj => exact rfl
      | 13,hj => exact rfl
      | 14,hj => exact rfl
      | 15,hj => exact rfl
      | 16,hj => exact absurd (by decide) hj
      | 17,hj => exact absurd (by decide) hj
      | j + 18,_ => exact rfl
    ·exact Bool.noConfusion hr
    ·dsimp only at hC
     have hC:=hC.pick1
     refine dSG 75 (.tmp 2) (.tmp 20) 0 (.agg (enc_api_Token (⟨0,(⟨#[]⟩ : ByteArray),0,0,0,0,0⟩ : api_Token)).toArray) (enc_api_Token (⟨0,(⟨#[]⟩ : ByteArray),0,0,0,0,0⟩ : api_Token)) (enc_api_Token (⟨0,(⟨#[]⟩ : ByteArray),0,0,0,0,0⟩ : api_Token)) hC (one_api_Token _) ?_
     intro w2 h2
     have h2:=h2.pick1
     have h2:=h2.pick1
     refine ⟨(some b440,some ()),rfl,?_,?_,.inl rfl,h2⟩
     ·intro m hne; match m,hne with
      | 0,hne => exact rfl
      | 1,hne => exact absurd rfl hne
      | m + 2,_ => exact rfl
     ·intro j hj; match j,hj with
      | 0,hj => exact rfl
      | 1,hj => exact rfl
      | 2,hj => exact rfl
      | 3,hj => exact rfl
      | 4,hj => exact rfl
      | 5,hj => exact rfl
      | 6,hj => exact rfl
      | 7,hj => exact rfl
      | 8,hj => exact rfl
      | 9,hj => exact rfl
      | 10,hj => exact rfl
      | 11,hj => exact rfl
      | 12,hj => exact rfl
      | 13,hj => exact rfl
      | 14,hj => exact rfl
      | 15,hj => exact rfl
      | 16,hj => exact absurd (by decide) hj
      | 17,hj => exact absurd (by decide) hj
      | j + 18,_ => exact rfl
    ·exact Bool.noConfusion hr
   | k + 2,hk => exact absurd hk (by simp)
  intro st445 w442 hS443 hr444
  rcases st445 with ⟨_ | b440,_ | _⟩
  ·exact Bool.noConfusion (hr444 0 (Nat.lt_of_sub_eq_succ rfl))
  ·exact Bool.noConfusion (hr444 0 (Nat.lt_of_sub_eq_succ rfl))
  ·exact Bool.noConfusion (hr444 1 (Nat.lt_of_sub_eq_succ rfl))
  replace hS443 : St w0 Z (xblk b1 75 (enc_api_Token (⟨0,(⟨#[]⟩ : ByteArray),0,0,0,0,0⟩ : api_Token))::xblk b440 80 ([.int .i64 n6,.int .i64 n7,.iface 37 (.int .i64 n8)])::gs438) w442:=hS443
  subst hg439
  have hS447:=hS443.pick1
  obtain ⟨Z448,hz449,hS450,hs451,-⟩:=hS447.lendblk
  have hS453:=hS450.drop
  refine rRc (.tuple #[.agg (enc_api_Token (⟨0,(⟨#[]⟩ : ByteArray),0,0,0,0,0⟩ : api_Token)).toArray,.iface 78 (.pointer (some ⟨b440,0,none⟩))]) (.ca 2 75 (hS443.blk 0 rfl) (.tm 3 .nil)) Tryz.func68 ?_
  cases Option.some.inj hp434
  exact hR _ _ ⟨(.iface 78 (.pointer (some ⟨b440,0,none⟩))),(.iface 78 (.pointer (some ⟨b435,0,none⟩))),Z448,hz449,rfl,hS453,(RepE.of_pos hs451),((RepE.of_pos hs436).mono hz449)⟩
def lexis_Lexer__Next.f : Nat → ByteArray → Int → Int → Int → PErr → Option (api_Token × PErr × Int × Int × Int × PErr)
  | 0 => fun _ _ _ _ _ => none
  | n + 1 => lexis_Lexer__Next.body (lexis_Lexer__Next.f n)
theorem lexis_Lexer__Next.all : ∀ n,lexis_Lexer__Next.Spec (lexis_Lexer__Next.f n)
  | 0 => by
    intro y0 y1 y2 y3 y4 ba0 y5 w0 Z fs w hS0 y6 q0 q1 q2 q3 q4 q5 hp0
    cases hp0
  | n + 1 => lexis_Lexer__Next.bok (lexis_Lexer__Next.f n) (lexis_Lexer__Next.all n)
theorem lexis_Lexer__Next.ok : lexis_Lexer__Next.Spec (lexis_Lexer__Next.f fuelN):=lexis_Lexer__Next.all fuelN

noncomputable def cd25 (p : List Nat) : Code := sub (bodyOf Tryz.f25) p
abbrev p25_0:=cd25 [1,1,0,1,0,0]
abbrev p25_1:=cd25 [1,1,0,1,0,1]
abbrev p25_2:=cd25 [1,1,0,1,0,1,0,0,1,0,1]
abbrev p25_7:=cd25 [1,1,0,1,0,1,0,1]
abbrev p25_8:=cd25 [1,1,0,1,0,1,0,0,1,0,0]
abbrev td142:List Item:=[.code p25_7,.inBlock 1]
def lexis_All_r.f (a0 : api_Token) (a1 : PErr) : Option (Int × PErr × (List api_Token)) :=
  (if (!(PErr.isNil a1)) = true then some ((1,a1,[])) else (if (([] : List api_Token).length + ([a0] : List api_Token).length) * 64 ≤ 140737488355328 then some ((0,.nil,(([] : List api_Token) ++ ([a0] : List api_Token)))) else none))
theorem lexis_All_r.ok (a0 : api_Token) (a1 : PErr) (va1 : Value) (La2 Da2 : Nat) (la2 : List Value) (ba2v2 ba2v3 ba2v4 : Nat) (hS0 : St w0 Z (xlp La2 25 (fill (mk 19 [(2,.pointer (some ⟨ba2v2,0,none⟩)),(3,.pointer (some ⟨ba2v3,0,none⟩)),(4,.pointer (some ⟨ba2v4,0,none⟩))]) la2) #[9,10] p25_0 p25_1 Da2 [p25_2] 0::xblk ba2v2 53 ([.slice none 0 0])::xblk ba2v3 25 ([.nilIface])::xblk ba2v4 53 ([.slice none 0 0])::fs) w) (hea1 : RepE 37 78 Z va1 a1) {q0 : Int} {q1 : PErr} {q2 : List api_Token} (hp0 : lexis_All_r.f a0 a1 = some (q0,q1,q2)) :
    Rounds Tryz.prog La2 25 (fill (mk 19 [(2,.pointer (some ⟨ba2v2,0,none⟩)),(3,.pointer (some ⟨ba2v3,0,none⟩)),(4,.pointer (some ⟨ba2v4,0,none⟩)),(9,.agg (enc_api_Token a0).toArray),(10,va1)]) la2).toArray p25_0 p25_1 w (fun e w' => ∃ (Qv0 : Value) (QA1 : Option Addr) (Qc1 : Nat),e = .returned (.bool (decide (q0 = 0))) ∧ St w0 Z (xrow QA1 Qc1 75 7 (q2.flatMap enc_api_Token)::xlp La2 25 (fill (mk 19 [(2,.pointer (some ⟨ba2v2,0,none⟩)),(3,.pointer (some ⟨ba2v3,0,none⟩)),(4,.pointer (some ⟨ba2v4,0,none⟩))]) la2) #[9,10] p25_0 p25_1 Da2 [p25_2] q0::xblk ba2v2 53 ([.slice none 0 0])::xblk ba2v3 25 ([Qv0])::xblk ba2v4 53 ([.slice QA1 q2.length Qc1])::fs) w' ∧ RepE 37 78 Z Qv0 q1):=by
  refine rounds_abs ?_; intro R hR
  unfold lexis_All_r.f at hp0
  refine rounds_of_runs ?_
  refine sR 2 [.inRegion (opsOf (cd25 [1,1,0,1,0,0,0])) [0,1],.code (cd25 [1,1,0,1,0,0,1]),.beginRound,.code p25_1] ?_
  refine rA 75 (.agg (enc_api_Token (⟨0,(⟨#[]⟩ : ByteArray),0,0,0,0,0⟩ : api_Token)).toArray) (enc_api_Token (⟨0,(⟨#[]⟩ : ByteArray),0,0,0,0,0⟩ : api_Token)) hS0 ?_
  intro b1 w2 hS3
  refine rSA 75 (.tmp 5) (.tmp 9) (enc_api_Token a0) hS3 (one_api_Token _) ?_
  intro w5 hS6
  refine sR 4 [.beginRound,.code p25_1] ?_
  have hS7:=hS6.pick1
  refine r_begin hS7 ?_
  intro w8 hS9
  refine sR 5 (.inRegion (opsOf (cd25 [1,1,0,1,0,1,0,0,0])) [1]::.code (cd25 [1,1,0,1,0,1,0,0,1])::td142) ?_
  refine rV (.binOp .neq 25 (.tmp 11) (.const (.nilIface)) 25) (.bool (!(PErr.isNil a1))) (fun o ho _ => x_errNil (neg:=true) hea1 (by kernel_rfl) (by kernel_rfl) (fun _ _ => (by kernel_rfl)) ho) ?_
  refine r_split (!(PErr.isNil a1)) (fun h10 => ?_) (fun h11 => ?_)
  ·have hp12:=ite_t hp0 h10
   refine sR 5 (.inRegion (opsOf p25_8) [1,2]::.code p25_2::td142) ?_
   have hS13:=hS9.pick2
   refine rS 53 (.tmp 2) (.const (.slice none 0 0)) 0 (.slice none 0 0) [.slice none 0 0] [.slice none 0 0] hS13 ?_
   intro w14 hS15
   have hS16:=hS15.pick3
   refine r_store (c:=p25_8) (i:=2) (d:=none) (ty:=0) (t:=25) (x:=(.tmp 3)) (y:=(.tmp 13)) (b:=ba2v3) (o:=0) (e:=25) (cs:=[.nilIface]) (v:=va1) (vs:=[va1]) (cs':=[va1]) hS16 (by kernel_rfl) (by kernel_rfl) (by kernel_rfl) (by kernel_rfl) (RepE.cells hea1) (by kernel_rfl) (RepE.one hea1) (Nat.le_of_ble_eq_true (by kernel_rfl)) (by kernel_rfl) ?_
   intro w17 hS18
   refine sR 1 (.code p25_2::td142) ?_
   have hS19:=hS18.pick2
   refine r_rret hS19 [p25_2] 0 (by kernel_rfl) ?_
   intro w20 hS21
   have hS22 : St w0 Z (xlp La2 25 (fill (mk 19 [(2,.pointer (some ⟨ba2v2,0,none⟩)),(3,.pointer (some ⟨ba2v3,0,none⟩)),(4,.pointer (some ⟨ba2v4,0,none⟩))]) la2) #[9,10] p25_0 p25_1 Da2 [p25_2] 1::xblk ba2v3 25 ([va1])::xblk ba2v2 53 ([.slice none 0 0])::xblk b1 75 (enc_api_Token a0)::xblk ba2v4 53 ([.slice none 0 0])::fs) w20:=hS21
   have hS24:=hS22.nilrow none 75 7
   have hS25:=hS24.pick4
   have hS26:=hS25.drop
   have hS27:=hS26.pick4
   have hS28:=hS27.pick3
   have hS29:=hS28.pick4
   have hS30:=hS29.pick4
   have hS31:=hS30.pick4
   cases Option.some.inj hp12
   exact hR _ _ ⟨va1,none,0,rfl,hS31,hea1⟩
  have hp33:=ite_f hp0 h11
  refine sR 4 [iR p25_7 0 5,.inBlock 1] ?_
  refine rL1 53 (.tmp 4) 0 (hS9.blk 4 rfl) ?_
  refine rLa 75 (.tmp 5) (hS9.blk 1 rfl) ?_
  refine r_lit (c:=p25_7) (i:=2) (d:=(some 16)) (ty:=53) (t:=53) (e:=75) (sz:=7) (n:=1) (parts:=#[(0,(.tmp 15))]) (vs:=[(0,.agg (enc_api_Token a0).toArray)]) (z:=zeroOf Tryz.prog 75) (cs':=([a0] : List api_Token).flatMap enc_api_Token) hS9 (by kernel_rfl) (by kernel_rfl) (by kernel_rfl) (by kernel_rfl) (by kernel_rfl) (by decide) (by decide) (by kernel_rfl) rfl (Parts.cons (c:=enc_api_Token a0) (by kernel_rfl) (len_api_Token _) Parts.nil) rfl ?_
  intro b35 w36 hS37
  have hS39:=hS37.nilrow none 75 7
  obtain ⟨g40,hp41⟩:=ite_some hp33
  refine r_append (c:=p25_7) (i:=3) (d:=(some 17)) (ty:=53) (enc:=enc_api_Token) (e:=75) (u:=75) (t:=53) (t2:=53) (sz:=7) (cp:=0) (A:=none) (bytes:=64) (xs:=([] : List api_Token)) (ys:=([a0] : List api_Token)) (s:=(.tmp 14)) (x:=(.tmp 16)) (xv:=.slice (some ⟨b35,0,none⟩) ([a0] : List api_Token).length 1) (info:=infoOf Tryz.prog 75) (z:=zeroOf Tryz.prog 75) (ycs:=([a0] : List api_Token).flatMap enc_api_Token) hS39 (by kernel_rfl) (by kernel_rfl) (by kernel_rfl) (by kernel_rfl) (by kernel_rfl) (.inl (by kernel_rfl)) (by kernel_rfl) (by kernel_rfl) (by kernel_rfl) (by kernel_rfl) (by kernel_rfl) (by omega) len_api_Token one_api_Token (src_row (hS39.row 1 rfl) (by omega) len_api_Token) rfl g40 (by omega) ?_
  intro A42 c43 w44 hS45
  have hS47:=hS45.pick6
  refine rS 53 (.tmp 4) (.tmp 17) 0 (.slice A42 (([] : List api_Token) ++ ([a0] : List api_Token)).length c43) [.slice A42 (([] : List api_Token) ++ ([a0] : List api_Token)).length c43] [.slice A42 (([] : List api_Token) ++ ([a0] : List api_Token)).length c43] hS47 ?_
  intro w48 hS49
  refine sR 2 [] ?_
  have hS50:=hS49.pick3
  refine r_rend hS50 [p25_2] ?_
  intro w51 hS52
  have hS53 : St w0 Z (xlp La2 25 (fill (mk 19 [(2,.pointer (some ⟨ba2v2,0,none⟩)),(3,.pointer (some ⟨ba2v3,0,none⟩)),(4,.pointer (some ⟨ba2v4,0,none⟩))]) la2) #[9,10] p25_0 p25_1 Da2 [p25_2] 0::xblk ba2v4 53 ([.slice A42 (([] : List api_Token) ++ ([a0] : List api_Token)).length c43])::xrow A42 c43 75 7 ((([] : List api_Token) ++ ([a0] : List api_Token)).flatMap enc_api_Token)::xrow (some ⟨b35,0,none⟩) 1 75 7 (([a0] : List api_Token).flatMap enc_api_Token)::xblk b1 75 (enc_api_Token a0)::xblk ba2v2 53 ([.slice none 0 0])::xblk ba2v3 25 ([.nilIface])::fs) w51:=hS52
  have hS55:=hS53.pick3
  have hS56:=hS55.drop
  have hS57:=hS56.pick3
  have hS58:=hS57.drop
  have hS59:=hS58.pick1
  have hS60:=hS59.pick4
  have hS61:=hS60.pick4
  have hS62:=hS61.pick3
  have hS63:=hS62.pick4
  cases Option.some.inj hp41
  exact hR _ _ ⟨.nilIface,A42,c43,rfl,hS63,(RepE.of_nil)⟩

abbrev td143:List Item:=[.code p25_7,.inBlock 1]
def lexis_All_r_1.f (a0 : api_Token) (a1 a2v3v : PErr) (a2v4v : List api_Token) : Option (Int × PErr × (List api_Token)) :=
  (if (!(PErr.isNil a1)) = true then some ((1,a1,a2v4v)) else (if (a2v4v.length + ([a0] : List api_Token).length) * 64 ≤ 140737488355328 then some ((0,a2v3v,(a2v4v ++ ([a0] : List api_Token)))) else none))
theorem lexis_All_r_1.ok (a0 : api_Token) (a1 a2v3v : PErr) (a2v4v : List api_Token) (va1 : Value) (La2 Da2 : Nat) (la2 : List Value) (ba2v2 ba2v3 : Nat) (va2v3v : Value) (ba2v4 : Nat) (Aa2v4v : Option Addr) (ca2v4v : Nat) (hS0 : St w0 Z (xlp La2 25 (fill (mk 19 [(2,.pointer (some ⟨ba2v2,0,none⟩)),(3,.pointer (some ⟨ba2v3,0,none⟩)),(4,.pointer (some ⟨ba2v4,0,none⟩))]) la2) #[9,10] p25_0 p25_1 Da2 [p25_2] 0::xblk ba2v2 53 ([.slice none 0 0])::xblk ba2v3 25 ([va2v3v])::xblk ba2v4 53 ([.slice Aa2v4v a2v4v.length ca2v4v])::xrow Aa2v4v ca2v4v 75 7 (a2v4v.flatMap enc_api_Token)::fs) w) (hea1 : RepE 37 78 Z va1 a1) (hea2v3v : RepE 37 78 Z va2v3v a2v3v) {q0 : Int} {q1 : PErr} {q2 : List api_Token} (hp0 : lexis_All_r_1.f a0 a1 a2v3v a2v4v = some (q0,q1,q2)) :
    Rounds Tryz.prog La2 25 (fill (mk 19 [(2,.pointer (some ⟨ba2v2,0,none⟩)),(3,.pointer (some ⟨ba2v3,0,none⟩)),(4,.pointer (some ⟨ba2v4,0,none⟩)),(9,.agg (enc_api_Token a0).toArray),(10,va1)]) la2).toArray p25_0 p25_1 w (fun e w' => ∃ (Qv0 : Value) (QA1 : Option Addr) (Qc1 : Nat),e = .returned (.bool (decide (q0 = 0))) ∧ St w0 Z (xrow QA1 Qc1 75 7 (q2.flatMap enc_api_Token)::xlp La2 25 (fill (mk 19 [(2,.pointer (some ⟨ba2v2,0,none⟩)),(3,.pointer (some ⟨ba2v3,0,none⟩)),(4,.pointer (some ⟨ba2v4,0,none⟩))]) la2) #[9,10] p25_0 p25_1 Da2 [p25_2] q0::xblk ba2v2 53 ([.slice none 0 0])::xblk ba2v3 25 ([Qv0])::xblk ba2v4 53 ([.slice QA1 q2.length Qc1])::fs) w' ∧ RepE 37 78 Z Qv0 q1):=by
  refine rounds_abs ?_; intro R hR
  unfold lexis_All_r_1.f at hp0
  refine rounds_of_runs ?_
  refine sR 2 [.inRegion (opsOf (cd25 [1,1,0,1,0,0,0])) [0,1],.code (cd25 [1,1,0,1,0,0,1]),.beginRound,.code p25_1] ?_
  refine rA 75 (.agg (enc_api_Token (⟨0,(⟨#[]⟩ : ByteArray),0,0,0,0,0⟩ : api_Token)).toArray) (enc_api_Token (⟨0,(⟨#[]⟩ : ByteArray),0,0,0,0,0⟩ : api_Token)) hS0 ?_
  intro b1 w2 hS3
  refine rSA 75 (.tmp 5) (.tmp 9) (enc_api_Token a0) hS3 (one_api_Token _) ?_
  intro w5 hS6
  refine sR 4 [.beginRound,.code p25_1] ?_
  have hS7:=hS6.pick1
  refine r_begin hS7 ?_
  intro w8 hS9
  refine sR 5 (.inRegion (opsOf (cd25 [1,1,0,1,0,1,0,0,0])) [1]::.code (cd25 [1,1,0,1,0,1,0,0,1])::td143) ?_
  refine rV (.binOp .neq 25 (.tmp 11) (.const (.nilIface)) 25) (.bool (!(PErr.isNil a1))) (fun o ho _ => x_errNil (neg:=true) hea1 (by kernel_rfl) (by kernel_rfl) (fun _ _ => (by kernel_rfl)) ho) ?_
  refine r_split (!(PErr.isNil a1)) (fun h10 => ?_) (fun h11 => ?_)
  ·have hp12:=ite_t hp0 h10
   refine sR 5 (.inRegion (opsOf p25_8) [1,2]::.code p25_2::td143) ?_
   have hS13:=hS9.pick2
   refine rS 53 (.tmp 2) (.const (.slice none 0 0)) 0 (.slice none 0 0) [.slice none 0 0] [.slice none 0 0] hS13 ?_
   intro w14 hS15
   have hS16:=hS15.pick3
   refine r_store (c:=p25_8) (i:=2) (d:=none) (ty:=0) (t:=25) (x:=(.tmp 3)) (y:=(.tmp 13)) (b:=ba2v3) (o:=0) (e:=25) (cs:=[va2v3v]) (v:=va1) (vs:=[va1]) (cs':=[va1]) hS16 (by kernel_rfl) (by kernel_rfl) (by kernel_rfl) (by kernel_rfl) (RepE.cells hea1) (by kernel_rfl) (RepE.one hea1) (Nat.le_of_ble_eq_true (by kernel_rfl)) (by kernel_rfl) ?_
   intro w17 hS18
   refine sR 1 (.code p25_2::td143) ?_
   have hS19:=hS18.pick2
   refine r_rret hS19 [p25_2] 0 (by kernel_rfl) ?_
   intro w20 hS21
   have hS22 : St w0 Z (xlp La2 25 (fill (mk 19 [(2,.pointer (some ⟨ba2v2,0,none⟩)),(3,.pointer (some ⟨ba2v3,0,none⟩)),(4,.pointer (some ⟨ba2v4,0,none⟩))]) la2) #[9,10] p25_0 p25_1 Da2 [p25_2] 1::xblk ba2v3 25 ([va1])::xblk ba2v2 53 ([.slice none 0 0])::xblk b1 75 (enc_api_Token a0)::xblk ba2v4 53 ([.slice Aa2v4v a2v4v.length ca2v4v])::xrow Aa2v4v ca2v4v 75 7 (a2v4v.flatMap enc_api_Token)::fs) w20:=hS21
   have hS23:=hS22.pick3
   have hS24:=hS23.drop
   have hS25:=hS24.pick3
   have hS26:=hS25.pick2
   have hS27:=hS26.pick3
   have hS28:=hS27.pick3
   have hS29:=hS28.pick4
   cases Option.some.inj hp12
   exact hR _ _ ⟨va1,Aa2v4v,ca2v4v,rfl,hS29,hea1⟩
  have hp31:=ite_f hp0 h11
  refine sR 4 [iR p25_7 0 5,.inBlock 1] ?_
  refine rL1 53 (.tmp 4) 0 (hS9.blk 4 rfl) ?_
  refine rLa 75 (.tmp 5) (hS9.blk 1 rfl) ?_
  refine r_lit (c:=p25_7) (i:=2) (d:=(some 16)) (ty:=53) (t:=53) (e:=75) (sz:=7) (n:=1) (parts:=#[(0,(.tmp 15))]) (vs:=[(0,.agg (enc_api_Token a0).toArray)]) (z:=zeroOf Tryz.prog 75) (cs':=([a0] : List api_Token).flatMap enc_api_Token) hS9 (by kernel_rfl) (by kernel_rfl) (by kernel_rfl) (by kernel_rfl) (by kernel_rfl) (by decide) (by decide) (by kernel_rfl) rfl (Parts.cons (c:=enc_api_Token a0) (by kernel_rfl) (len_api_Token _) Parts.nil) rfl ?_
  intro b33 w34 hS35
  have hS36:=hS35.pick6
  obtain ⟨g37,hp38⟩:=ite_some hp31
  refine r_append (c:=p25_7) (i:=3) (d:=(some 17)) (ty:=53) (enc:=enc_api_Token) (e:=75) (u:=75) (t:=53) (t2:=53) (sz:=7) (cp:=ca2v4v) (A:=Aa2v4v) (bytes:=64) (xs:=a2v4v) (ys:=([a0] : List api_Token)) (s:=(.tmp 14)) (x:=(.tmp 16)) (xv:=.slice (some ⟨b33,0,none⟩) ([a0] : List api_Token).length 1) (info:=infoOf Tryz.prog 75) (z:=zeroOf Tryz.prog 75) (ycs:=([a0] : List api_Token).flatMap enc_api_Token) hS36 (by kernel_rfl) (by kernel_rfl) (by kernel_rfl) (by kernel_rfl) (by kernel_rfl) (.inl (by kernel_rfl)) (by kernel_rfl) (by kernel_rfl) (by kernel_rfl) (by kernel_rfl) (by kernel_rfl) (by omega) len_api_Token one_api_Token (src_row (hS36.row 1 rfl) (by omega) len_api_Token) rfl g37 (by omega) ?_
  intro A39 c40 w41 hS42
  have hS44:=hS42.pick6
  refine rS 53 (.tmp 4) (.tmp 17) 0 (.slice A39 (a2v4v ++ ([a0] : List api_Token)).length c40) [.slice A39 (a2v4v ++ ([a0] : List api_Token)).length c40] [.slice A39 (a2v4v ++ ([a0] : List api_Token)).length c40] hS44 ?_
  intro w45 hS46
  refine sR 2 [] ?_
  have hS47:=hS46.pick3
  refine r_rend hS47 [p25_2] ?_
  intro w48 hS49
  have hS50 : St w0 Z (xlp La2 25 (fill (mk 19 [(2,.pointer (some ⟨ba2v2,0,none⟩)),(3,.pointer (some ⟨ba2v3,0,none⟩)),(4,.pointer (some ⟨ba2v4,0,none⟩))]) la2) #[9,10] p25_0 p25_1 Da2 [p25_2] 0::xblk ba2v4 53 ([.slice A39 (a2v4v ++ ([a0] : List api_Token)).length c40])::xrow A39 c40 75 7 ((a2v4v ++ ([a0] : List api_Token)).flatMap enc_api_Token)::xrow (some ⟨b33,0,none⟩) 1 75 7 (([a0] : List api_Token).flatMap enc_api_Token)::xblk b1 75 (enc_api_Token a0)::xblk ba2v2 53 ([.slice none 0 0])::xblk ba2v3 25 ([va2v3v])::fs) w48:=hS49
  have hS51:=hS50.pick3
  have hS52:=hS51.drop
  have hS53:=hS52.pick3
  have hS54:=hS53.drop
  have hS55:=hS54.pick1
  have hS56:=hS55.pick4
  have hS57:=hS56.pick4
  have hS58:=hS57.pick3
  have hS59:=hS58.pick4
  cases Option.some.inj hp38
  exact hR _ _ ⟨va2v3v,A39,c40,rfl,hS59,hea2v3v⟩

abbrev td144:List Item:=[.code p25_7,.inBlock 1]
def lexis_All_r_2.f (a0 : api_Token) (a1 : PErr) (a2v4v : List api_Token) : Option (Int × PErr × (List api_Token)) :=
  (if (!(PErr.isNil a1)) = true then some ((1,a1,a2v4v)) else (if (a2v4v.length + ([a0] : List api_Token).length) * 64 ≤ 140737488355328 then some ((0,.nil,(a2v4v ++ ([a0] : List api_Token)))) else none))
theorem lexis_All_r_2.ok (a0 : api_Token) (a1 : PErr) (a2v4v : List api_Token) (va1 : Value) (La2 Da2 : Nat) (la2 : List Value) (ba2v2 ba2v3 ba2v4 : Nat) (Aa2v4v : Option Addr) (ca2v4v : Nat) (hS0 : St w0 Z (xlp La2 25 (fill (mk 19 [(2,.pointer (some ⟨ba2v2,0,none⟩)),(3,.pointer (some ⟨ba2v3,0,none⟩)),(4,.pointer (some ⟨ba2v4,0,none⟩))]) la2) #[9,10] p25_0 p25_1 Da2 [p25_2] 0::xblk ba2v2 53 ([.slice none 0 0])::xblk ba2v3 25 ([.nilIface])::xblk ba2v4 53 ([.slice Aa2v4v a2v4v.length ca2v4v])::xrow Aa2v4v ca2v4v 75 7 (a2v4v.flatMap enc_api_Token)::fs) w) (hea1 : RepE 37 78 Z va1 a1) {q0 : Int} {q1 : PErr} {q2 : List api_Token} (hp0 : lexis_All_r_2.f a0 a1 a2v4v = some (q0,q1,q2)) :
    Rounds Tryz.prog La2 25 (fill (mk 19 [(2,.pointer (some ⟨ba2v2,0,none⟩)),(3,.pointer (some ⟨ba2v3,0,none⟩)),(4,.pointer (some ⟨ba2v4,0,none⟩)),(9,.agg (enc_api_Token a0).toArray),(10,va1)]) la2).toArray p25_0 p25_1 w (fun e w' => ∃ (Qv0 : Value) (QA1 : Option Addr) (Qc1 : Nat),e = .returned (.bool (decide (q0 = 0))) ∧ St w0 Z (xrow QA1 Qc1 75 7 (q2.flatMap enc_api_Token)::xlp La2 25 (fill (mk 19 [(2,.pointer (some ⟨ba2v2,0,none⟩)),(3,.pointer (some ⟨ba2v3,0,none⟩)),(4,.pointer (some ⟨ba2v4,0,none⟩))]) la2) #[9,10] p25_0 p25_1 Da2 [p25_2] q0::xblk ba2v2 53 ([.slice none 0 0])::xblk ba2v3 25 ([Qv0])::xblk ba2v4 53 ([.slice QA1 q2.length Qc1])::fs) w' ∧ RepE 37 78 Z Qv0 q1):=by
  refine rounds_abs ?_; intro R hR
  unfold lexis_All_r_2.f at hp0
  refine rounds_of_runs ?_
  refine sR 2 [.inRegion (opsOf (cd25 [1,1,0,1,0,0,0])) [0,1],.code (cd25 [1,1,0,1,0,0,1]),.beginRound,.code p25_1] ?_
  refine rA 75 (.agg (enc_api_Token (⟨0,(⟨#[]⟩ : ByteArray),0,0,0,0,0⟩ : api_Token)).toArray) (enc_api_Token (⟨0,(⟨#[]⟩ : ByteArray),0,0,0,0,0⟩ : api_Token)) hS0 ?_
  intro b1 w2 hS3
  refine rSA 75 (.tmp 5) (.tmp 9) (enc_api_Token a0) hS3 (one_api_Token _) ?_
  intro w5 hS6
  refine sR 4 [.beginRound,.code p25_1] ?_
  have hS7:=hS6.pick1
  refine r_begin hS7 ?_
  intro w8 hS9
  refine sR 5 (.inRegion (opsOf (cd25 [1,1,0,1,0,1,0,0,0])) [1]::.code (cd25 [1,1,0,1,0,1,0,0,1])::td144) ?_
  refine rV (.binOp .neq 25 (.tmp 11) (.const (.nilIface)) 25) (.bool (!(PErr.isNil a1))) (fun o ho _ => x_errNil (neg:=true) hea1 (by kernel_rfl) (by kernel_rfl) (fun _ _ => (by kernel_rfl)) ho) ?_
  refine r_split (!(PErr.isNil a1)) (fun h10 => ?_) (fun h11 => ?_)
  ·have hp12:=ite_t hp0 h10
   refine sR 5 (.inRegion (opsOf p25_8) [1,2]::.code p25_2::td144) ?_
   have hS13:=hS9.pick2
   refine rS 53 (.tmp 2) (.const (.slice none 0 0)) 0 (.slice none 0 0) [.slice none 0 0] [.slice none 0 0] hS13 ?_
   intro w14 hS15
   have hS16:=hS15.pick3
   refine r_store (c:=p25_8) (i:=2) (d:=none) (ty:=0) (t:=25) (x:=(.tmp 3)) (y:=(.tmp 13)) (b:=ba2v3) (o:=0) (e:=25) (cs:=[.nilIface]) (v:=va1) (vs:=[va1]) (cs':=[va1]) hS16 (by kernel_rfl) (by kernel_rfl) (by kernel_rfl) (by kernel_rfl) (RepE.cells hea1) (by kernel_rfl) (RepE.one hea1) (Nat.le_of_ble_eq_true (by kernel_rfl)) (by kernel_rfl) ?_
   intro w17 hS18
   refine sR 1 (.code p25_2::td144) ?_
   have hS19:=hS18.pick2
   refine r_rret hS19 [p25_2] 0 (by kernel_rfl) ?_
   intro w20 hS21
   have hS22 : St w0 Z (xlp La2 25 (fill (mk 19 [(2,.pointer (some ⟨ba2v2,0,none⟩)),(3,.pointer (some ⟨ba2v3,0,none⟩)),(4,.pointer (some ⟨ba2v4,0,none⟩))]) la2) #[9,10] p25_0 p25_1 Da2 [p25_2] 1::xblk ba2v3 25 ([va1])::xblk ba2v2 53 ([.slice none 0 0])::xblk b1 75 (enc_api_Token a0)::xblk ba2v4 53 ([.slice Aa2v4v a2v4v.length ca2v4v])::xrow Aa2v4v ca2v4v 75 7 (a2v4v.flatMap enc_api_Token)::fs) w20:=hS21
   have hS23:=hS22.pick3
   have hS24:=hS23.drop
   have hS25:=hS24.pick3
   have hS26:=hS25.pick2
   have hS27:=hS26.pick3
   have hS28:=hS27.pick3
   have hS29:=hS28.pick4
   cases Option.some.inj hp12
   exact hR _ _ ⟨va1,Aa2v4v,ca2v4v,rfl,hS29,hea1⟩
  have hp31:=ite_f hp0 h11
  refine sR 4 [iR p25_7 0 5,.inBlock 1] ?_
  refine rL1 53 (.tmp 4) 0 (hS9.blk 4 rfl) ?_
  refine rLa 75 (.tmp 5) (hS9.blk 1 rfl) ?_
  refine r_lit (c:=p25_7) (i:=2) (d:=(some 16)) (ty:=53) (t:=53) (e:=75) (sz:=7) (n:=1) (parts:=#[(0,(.tmp 15))]) (vs:=[(0,.agg (enc_api_Token a0).toArray)]) (z:=zeroOf Tryz.prog 75) (cs':=([a0] : List api_Token).flatMap enc_api_Token) hS9 (by kernel_rfl) (by kernel_rfl) (by kernel_rfl) (by kernel_rfl) (by kernel_rfl) (by decide) (by decide) (by kernel_rfl) rfl (Parts.cons (c:=enc_api_Token a0) (by kernel_rfl) (len_api_Token _) Parts.nil) rfl ?_
  intro b33 w34 hS35
  have hS36:=hS35.pick6
  obtain ⟨g37,hp38⟩:=ite_some hp31
  refine r_append (c:=p25_7) (i:=3) (d:=(some 17)) (ty:=53) (enc:=enc_api_Token) (e:=75) (u:=75) (t:=53) (t2:=53) (sz:=7) (cp:=ca2v4v) (A:=Aa2v4v) (bytes:=64) (xs:=a2v4v) (ys:=([a0] : List api_Token)) (s:=(.tmp 14)) (x:=(.tmp 16)) (xv:=.slice (some ⟨b33,0,none⟩) ([a0] : List api_Token).length 1) (info:=infoOf Tryz.prog 75) (z:=zeroOf Tryz.prog 75) (ycs:=([a0] : List api_Token).flatMap enc_api_Token) hS36 (by kernel_rfl) (by kernel_rfl) (by kernel_rfl) (by kernel_rfl) (by kernel_rfl) (.inl (by kernel_rfl)) (by kernel_rfl) (by kernel_rfl) (by kernel_rfl) (by kernel_rfl) (by kernel_rfl) (by omega) len_api_Token one_api_Token (src_row (hS36.row 1 rfl) (by omega) len_api_Token) rfl g37 (by omega) ?_
  intro A39 c40 w41 hS42
  have hS44:=hS42.pick6
  refine rS 53 (.tmp 4) (.tmp 17) 0 (.slice A39 (a2v4v ++ ([a0] : List api_Token)).length c40) [.slice A39 (a2v4v ++ ([a0] : List api_Token)).length c40] [.slice A39 (a2v4v ++ ([a0] : List api_Token)).length c40] hS44 ?_
  intro w45 hS46
  refine sR 2 [] ?_
  have hS47:=hS46.pick3
  refine r_rend hS47 [p25_2] ?_
  intro w48 hS49
  have hS50 : St w0 Z (xlp La2 25 (fill (mk 19 [(2,.pointer (some ⟨ba2v2,0,none⟩)),(3,.pointer (some ⟨ba2v3,0,none⟩)),(4,.pointer (some ⟨ba2v4,0,none⟩))]) la2) #[9,10] p25_0 p25_1 Da2 [p25_2] 0::xblk ba2v4 53 ([.slice A39 (a2v4v ++ ([a0] : List api_Token)).length c40])::xrow A39 c40 75 7 ((a2v4v ++ ([a0] : List api_Token)).flatMap enc_api_Token)::xrow (some ⟨b33,0,none⟩) 1 75 7 (([a0] : List api_Token).flatMap enc_api_Token)::xblk b1 75 (enc_api_Token a0)::xblk ba2v2 53 ([.slice none 0 0])::xblk ba2v3 25 ([.nilIface])::fs) w48:=hS49
  have hS52:=hS50.pick3
  have hS53:=hS52.drop
  have hS54:=hS53.pick3
  have hS55:=hS54.drop
  have hS56:=hS55.pick1
  have hS57:=hS56.pick4
  have hS58:=hS57.pick4
  have hS59:=hS58.pick3
  have hS60:=hS59.pick4
  cases Option.some.inj hp38
  exact hR _ _ ⟨.nilIface,A39,c40,rfl,hS60,(RepE.of_nil)⟩

noncomputable def cd66 (p : List Nat) : Code := sub (bodyOf Tryz.f66) p
abbrev p66_5:=cd66 [1,0,0,0,1,0]
abbrev td145:List Item:=[.inBlock 0]
abbrev td146:List Item:=.inLoop (cd66 [1,0,0])::td145
abbrev td147:List Item:=.code (cd66 [1,0,0])::td146
abbrev td148:List Item:=.inBlock 1::td146
abbrev td149:List Item:=.code (cd66 [1,0,0,0,1,1])::td148
abbrev td150:List Item:=.code (cd66 [1,0,0,0,1,1,0])::td148
def lexis_Tokens_1.l0 (t1 : ByteArray) (t21 : PErr) (t25 : List api_Token) (t29 t30 t31 : Int) (t32 : PErr) : Option (Int × PErr × (List api_Token)) :=
  (lexis_Lexer__Next.f fuelN t1 t29 t30 t31 t32 >>= (fun (t46,t47,t48,t49,t50,t51) => (if (PErr.isNil t47) = true then (if (t46.Kind == 0) = true then some ((0,t21,t25)) else (lexis_All_r_1.f t46 t47 t21 t25 >>= (fun (t87,t88,t89) => (if decide (t87 = 0) = true then (if (!(PErr.isNil t47)) = true then some ((0,t88,t89)) else (lexis_Tokens_1.l0 t1 t88 t89 t48 t49 t50 t51)) else some ((t87,t88,t89)))))) else (lexis_All_r_1.f t46 t47 t21 t25 >>= (fun (t133,t134,t135) => (if decide (t133 = 0) = true then (if (!(PErr.isNil t47)) = true then some ((0,t134,t135)) else (lexis_Tokens_1.l0 t1 t134 t135 t48 t49 t50 t51)) else some ((t133,t134,t135))))))))
 partial_fixpoint
def lexis_Tokens_1.f (a1v : ByteArray) : Option (Int × PErr × (List api_Token)) :=
  (lexis_New.f a1v >>= (fun (t1,t2,t3,t4,t5) => (lexis_Tokens_1.l0 t1 .nil [] t2 t3 t4 t5 >>= fun e => some e)))
theorem lexis_Tokens_1.ok {a1v : ByteArray} {La0c0 Da0c0 : Nat} {la0c0 : List Value} {ba0c0v2 ba0c0v3 : Nat} {ba0c0v4 ba1 : Nat} {q0 : Int} {q1 : PErr} {q2 : List api_Token} (hp0 : lexis_Tokens_1.f a1v = some (q0,q1,q2)) (hS0 : St w0 Z (xlp La0c0 25 (fill (mk 19 [(2,.pointer (some ⟨ba0c0v2,0,none⟩)),(3,.pointer (some ⟨ba0c0v3,0,none⟩)),(4,.pointer (some ⟨ba0c0v4,0,none⟩))]) la0c0) #[9,10] p25_0 p25_1 Da0c0 [p25_2] 0::xblk ba0c0v2 53 ([.slice none 0 0])::xblk ba0c0v3 25 ([.nilIface])::xblk ba0c0v4 53 ([.slice none 0 0])::xblk ba1 9 ([.string a1v])::fs) w) :
    Calls Tryz.prog 66 #[.func (.yield La0c0) #[] #[],.pointer (some ⟨ba1,0,none⟩)] w (fun e w' => ∃ (Qv0 : Value) (QA1 : Option Addr) (Qc1 : Nat) (Z' : Zm),Zm.Le Z Z' ∧ e = .returned (.tuple #[]) ∧ St w0 Z' (xrow QA1 Qc1 75 7 (q2.flatMap enc_api_Token)::xlp La0c0 25 (fill (mk 19 [(2,.pointer (some ⟨ba0c0v2,0,none⟩)),(3,.pointer (some ⟨ba0c0v3,0,none⟩)),(4,.pointer (some ⟨ba0c0v4,0,none⟩))]) la0c0) #[9,10] p25_0 p25_1 Da0c0 [p25_2] q0::xblk ba0c0v2 53 ([.slice none 0 0])::xblk ba0c0v3 25 ([Qv0])::xblk ba0c0v4 53 ([.slice QA1 q2.length Qc1])::xblk ba1 9 ([.string a1v])::fs) w' ∧ RepE 37 78 Z' Qv0 q1):=by
  refine calls_abs ?_; intro R hR
  unfold lexis_Tokens_1.f at hp0
  refine calls_of_runs (fn:=Tryz.f66) (c:=cd66 []) Tryz.func66 (by kernel_rfl) (al:=[.func (.yield La0c0) #[] #[],.pointer (some ⟨ba1,0,none⟩)]) rfl (n:=29) rfl ?_
  refine sR 2 [.inRegion (opsOf (cd66 [0])) [0,1,2],.code (cd66 [1])] ?_
  refine rL1 9 (.tmp 1) 0 (hS0.blk 4 rfl) ?_
  obtain ⟨⟨t1,t2,t3,t4,t5⟩,hr8,hp9⟩:=bind_some' hp0
  try dsimp only at hp9
  refine rC (lexis_New.ok hr8 hS0) ?_
  rintro _ w12 ⟨Q6,Q7,rfl,hS13,hs14⟩
  refine ⟨_,rfl,?_⟩
  refine sR 4 td147 ?_
  obtain ⟨v15,hv16,hp17⟩:=bind_some' hp9
  have hq18 : ∀ x,x = v15 → x = (q0,q1,q2):=by intro x hx; subst hx; simpa using hp17
  have L44 : ∀ (t21 : PErr) (t25 : List api_Token) (t29 t30 t31 : Int) (t32 : PErr) (e39 : (Int × PErr × (List api_Token))),lexis_Tokens_1.l0 t1 t21 t25 t29 t30 t31 t32 = some e39 → e39 = v15 → ∀ (l38 : List Value) (Z19 : Zm) (v22 : Value) (A26 : Option Addr) (c27 : Nat) (v33 : Value) (w36 : World) (hz20 : Zm.Le Z Z19) (hS37 : St w0 Z19 (xlp La0c0 25 (fill (mk 19 [(2,.pointer (some ⟨ba0c0v2,0,none⟩)),(3,.pointer (some ⟨ba0c0v3,0,none⟩)),(4,.pointer (some ⟨ba0c0v4,0,none⟩))]) la0c0) #[9,10] p25_0 p25_1 Da0c0 [p25_2] 0::xblk ba0c0v2 53 ([.slice none 0 0])::xblk ba0c0v3 25 ([v22])::xblk ba0c0v4 53 ([.slice A26 t25.length c27])::xrow A26 c27 75 7 (t25.flatMap enc_api_Token)::xblk Q6 193 ([.string t1,.int .i64 t29,.int .i64 t30,.int .i64 t31,v33])::xblk ba1 9 ([.string a1v])::fs) w36) (he23 : RepE 37 78 Z19 v22 t21) (he34 : RepE 37 78 Z19 v33 t32),Runs Tryz.prog (fx 66) td147 (fill (mk 31 [(0,.func (.yield La0c0) #[] #[]),(3,.pointer (some ⟨Q6,0,none⟩))]) l38) w36 R:=by
   refine lexis_Tokens_1.l0.partial_correctness t1 (fun t21 t25 t29 t30 t31 t32 e39 => e39 = v15 → ∀ (l38 : List Value) (Z19 : Zm) (v22 : Value) (A26 : Option Addr) (c27 : Nat) (v33 : Value) (w36 : World) (hz20 : Zm.Le Z Z19) (hS37 : St w0 Z19 (xlp La0c0 25 (fill (mk 19 [(2,.pointer (some ⟨ba0c0v2,0,none⟩)),(3,.pointer (some ⟨ba0c0v3,0,none⟩)),(4,.pointer (some ⟨ba0c0v4,0,none⟩))]) la0c0) #[9,10] p25_0 p25_1 Da0c0 [p25_2] 0::xblk ba0c0v2 53 ([.slice none 0 0])::xblk ba0c0v3 25 ([v22])::xblk ba0c0v4 53 ([.slice A26 t25.length c27])::xrow A26 c27 75 7 (t25.flatMap enc_api_Token)::xblk Q6 193 ([.string t1,.int .i64 t29,.int .i64 t30,.int .i64 t31,v33])::xblk ba1 9 ([.string a1v])::fs) w36) (he23 : RepE 37 78 Z19 v22 t21) (he34 : RepE 37 78 Z19 v33 t32),Runs Tryz.prog (fx 66) td147 (fill (mk 31 [(0,.func (.yield La0c0) #[] #[]),(3,.pointer (some ⟨Q6,0,none⟩))]) l38) w36 R) ?_
   intro rec43 ih42 t21 t25 t29 t30 t31 t32 e39 hb41 he40 l38 Z19 v22 A26 c27 v33 w36 hz20 hS37 he23 he34
   have hq45 : ∀ x,id x = e39 → x = (q0,q1,q2):=fun x hx => hq18 x (hx.trans he40)
   refine sR 4 (iR (cd66 [1,0,0,0,0]) 1 7::.code (cd66 [1,0,0,0,1])::td148) ?_
   obtain ⟨⟨t46,t47,t48,t49,t50,t51⟩,hr54,hp55⟩:=bind_some' hb41
   try dsimp only at hp55
   have hS58:=hS37.pick5
   refine rC (lexis_Lexer__Next.ok t1 t29 t30 t31 t32 Q6 v33 hS58 he34 hr54) ?_
   rintro _ w59 ⟨Q52,Q53,Z61,hz62,rfl,hS60,hs63,hs64⟩
   refine ⟨_,rfl,?_⟩
   refine sR 3 (.inRegion (opsOf (cd66 [1,0,0,0,0])) [5,6,7]::.code (cd66 [1,0,0,0,1])::td148) ?_
   refine rA 75 (.agg (enc_api_Token (⟨0,(⟨#[]⟩ : ByteArray),0,0,0,0,0⟩ : api_Token)).toArray) (enc_api_Token (⟨0,(⟨#[]⟩ : ByteArray),0,0,0,0,0⟩ : api_Token)) hS60 ?_
   intro b65 w66 hS67
   refine rSA 75 (.tmp 4) (.tmp 11) (enc_api_Token t46) hS67 (one_api_Token _) ?_
   intro w69 hS70
   refine sR 5 (iR p66_5 1 17::td149) ?_
   refine rV (.binOp .eql 25 (.tmp 13) (.const (.nilIface)) 25) (.bool (PErr.isNil t47)) (fun o ho _ => x_errNil (neg:=false) hs63 (by kernel_rfl) (by kernel_rfl) (fun _ _ => (by kernel_rfl)) ho) ?_
   refine r_split (PErr.isNil t47) (fun h71 => ?_) (fun h72 => ?_)
   ·have hp73:=ite_t hp55 h71
    refine sR 2 (iR p66_5 4 14::td149) ?_
    refine rL1 3 (.tmp 16) 0 (hS70.blk 0 rfl) ?_
    refine sI 1 (iR p66_5 6 12::td149) 18 hp73 (fun hp76 => ?_) fun hp86 => ?_
    ·refine sR 14 td150 ?_
     have hS77:=hS70.drop
     have hS78:=hS77.drop
     have hS79:=hS78.pick5
     have hS80:=hS79.pick4
     have hS81:=hS80.pick4
     have hS82:=hS81.pick4
     have hS83:=hS82.pick4
     have hS84:=hS83.pick5
     refine rR (.tuple #[]) Tryz.func66 ?_
     cases hq45 _ (Option.some.inj hp76)
     exact hR _ _ ⟨v22,A26,c27,Z61,(Zm.Le.trans hz20 hz62),rfl,hS84,(he23.mono hz62)⟩
    refine sR 3 (iR p66_5 9 9::td149) ?_
    refine rLa 75 (.tmp 4) (hS70.blk 0 rfl) ?_
    refine sR 1 (iR p66_5 11 7::td149) ?_
    obtain ⟨⟨t87,t88,t89⟩,hr93,hp94⟩:=bind_some' hp86
    try dsimp only at hp94
    have hS97:=hS70.pick6
    have hS98:=hS97.pick6
    have hS99:=hS98.pick6
    have hS100:=hS99.pick6
    have hS101:=hS100.pick6
    refine r_yield (c:=p66_5) (i:=11) (d:=(some 24)) (args:=#[.agg (enc_api_Token t46).toArray,Q52]) (hS101.lp 0 rfl) (by kernel_rfl) (by kernel_rfl) (by kernel_rfl) (by kernel_rfl) (lexis_All_r_1.ok t46 t47 t21 t25 Q52 La0c0 Da0c0 la0c0 ba0c0v2 ba0c0v3 v22 ba0c0v4 A26 c27 hS101 hs63 (he23.mono hz62) hr93) rfl (by kernel_rfl) ?_
    rintro _ w102 ⟨Q90,Q91,Q92,rfl,hS103,hs104⟩
    refine ⟨_,rfl,?_⟩
    refine r_split (decide (t87 = 0)) (fun h105 => ?_) (fun h106 => ?_)
    ·have hp107:=ite_t hp94 h105
     obtain rfl:=of_decide_eq_true h105
     refine sR 4 (.inRegion (opsOf p66_5) [16,17]::td149) ?_
     refine rV (.binOp .neq 25 (.tmp 28) (.const (.nilIface)) 25) (.bool (!(PErr.isNil t47))) (fun o ho _ => x_errNil (neg:=true) hs63 (by kernel_rfl) (by kernel_rfl) (fun _ _ => (by kernel_rfl)) ho) ?_
     refine r_split (!(PErr.isNil t47)) (fun h108 => ?_) (fun h109 => ?_)
     ·have hp110:=ite_t hp107 h108
      refine sR 3 td150 ?_
      have hS111:=hS103.pick5
      have hS112:=hS111.drop
      have hS113:=hS112.pick5
      have hS114:=hS113.drop
      refine rR (.tuple #[]) Tryz.func66 ?_
      cases hq45 _ (Option.some.inj hp110)
      exact hR _ _ ⟨Q90,Q91,Q92,Z61,(Zm.Le.trans hz20 hz62),rfl,hS114,hs104⟩
     have hp116:=ite_f hp107 h109
     refine sR 5 td146 ?_
     have hS117:=hS103.pick5
     have hS118:=hS117.drop
     have hS119:=hS118.pick6
     have hS120:=hS119.pick6
     have hS121:=hS120.pick2
     have hS122:=hS121.pick6
     have hS123:=hS122.pick6
     have hS124:=hS123.pick6
     have hS125:=hS124.pick6
     refine sR 1 td147 ?_
     exact rF _ (ih42 t88 t89 t48 t49 t50 t51 _ hp116 he40 _ Z61 Q90 Q91 Q92 Q53 _ (Zm.Le.trans hz20 hz62) hS125 hs104 hs64)
    have hp126:=ite_f hp94 h106
    refine sR 8 td150 ?_
    have hS127:=hS103.pick5
    have hS128:=hS127.drop
    have hS129:=hS128.pick5
    have hS130:=hS129.drop
    refine rR (.tuple #[]) Tryz.func66 ?_
    cases hq45 _ (Option.some.inj hp126)
    exact hR _ _ ⟨Q90,Q91,Q92,Z61,(Zm.Le.trans hz20 hz62),rfl,hS130,hs104⟩
   have hp132:=ite_f hp55 h72
   refine sR 7 (iR p66_5 9 9::td149) ?_
   refine rLa 75 (.tmp 4) (hS70.blk 0 rfl) ?_
   refine sR 1 (iR p66_5 11 7::td149) ?_
   obtain ⟨⟨t133,t134,t135⟩,hr139,hp140⟩:=bind_some' hp132
   try dsimp only at hp140
   have hS143:=hS70.pick6
   have hS144:=hS143.pick6
   have hS145:=hS144.pick6
   have hS146:=hS145.pick6
   have hS147:=hS146.pick6
   refine r_yield (c:=p66_5) (i:=11) (d:=(some 24)) (args:=#[.agg (enc_api_Token t46).toArray,Q52]) (hS147.lp 0 rfl) (by kernel_rfl) (by kernel_rfl) (by kernel_rfl) (by kernel_rfl) (lexis_All_r_1.ok t46 t47 t21 t25 Q52 La0c0 Da0c0 la0c0 ba0c0v2 ba0c0v3 v22 ba0c0v4 A26 c27 hS147 hs63 (he23.mono hz62) hr139) rfl (by kernel_rfl) ?_
   rintro _ w148 ⟨Q136,Q137,Q138,rfl,hS149,hs150⟩
   refine ⟨_,rfl,?_⟩
   refine r_split (decide (t133 = 0)) (fun h151 => ?_) (fun h152 => ?_)
   ·have hp153:=ite_t hp140 h151
    obtain rfl:=of_decide_eq_true h151
    refine sR 4 (.inRegion (opsOf p66_5) [16,17]::td149) ?_
    refine rV (.binOp .neq 25 (.tmp 28) (.const (.nilIface)) 25) (.bool (!(PErr.isNil t47))) (fun o ho _ => x_errNil (neg:=true) hs63 (by kernel_rfl) (by kernel_rfl) (fun _ _ => (by kernel_rfl)) ho) ?_
    refine r_split (!(PErr.isNil t47)) (fun h154 => ?_) (fun h155 => ?_)
    ·have hp156:=ite_t hp153 h154
     refine sR 3 td150 ?_
     have hS157:=hS149.pick5
     have hS158:=hS157.drop
     have hS159:=hS158.pick5
     have hS160:=hS159.drop
     refine rR (.tuple #[]) Tryz.func66 ?_
     cases hq45 _ (Option.some.inj hp156)
     exact hR _ _ ⟨Q136,Q137,Q138,Z61,(Zm.Le.trans hz20 hz62),rfl,hS160,hs150⟩
    have hp162:=ite_f hp153 h155
    refine sR 5 td146 ?_
    have hS163:=hS149.pick5
    have hS164:=hS163.drop
    have hS165:=hS164.pick6
    have hS166:=hS165.pick6
    have hS167:=hS166.pick2
    have hS168:=hS167.pick6
    have hS169:=hS168.pick6
    have hS170:=hS169.pick6
    have hS171:=hS170.pick6
    refine sR 1 td147 ?_
    exact rF _ (ih42 t134 t135 t48 t49 t50 t51 _ hp162 he40 _ Z61 Q136 Q137 Q138 Q53 _ (Zm.Le.trans hz20 hz62) hS171 hs150 hs64)
   have hp172:=ite_f hp140 h152
   refine sR 8 td150 ?_
   have hS173:=hS149.pick5
   have hS174:=hS173.drop
   have hS175:=hS174.pick5
   have hS176:=hS175.drop
   refine rR (.tuple #[]) Tryz.func66 ?_
   cases hq45 _ (Option.some.inj hp172)
   exact hR _ _ ⟨Q136,Q137,Q138,Z61,(Zm.Le.trans hz20 hz62),rfl,hS176,hs150⟩
  have hS180:=hS13.nilrow none 75 7
  have hS181:=hS180.pick6
  have hS182:=hS181.pick2
  have hS183:=hS182.pick2
  have hS184:=hS183.pick6
  have hS185:=hS184.pick6
  have hS186:=hS185.pick6
  have hS187:=hS186.pick6
  exact rF _ (L44 .nil [] t2 t3 t4 t5 _ hv16 rfl _ Z .nilIface none 0 Q7 _ (Zm.Le.refl _) hS187 (RepE.of_nil) hs14)

def lexis_All.f (a0 : ByteArray) : Option ((List api_Token) × PErr) :=
  (lexis_Tokens.f a0 >>= (fun t13 => (lexis_Tokens_1.f t13 >>= (fun (t28,t29,t30) => (if decide (t28 = 0) = true then some ((t30,.nil)) else (if t28 = 1 then some (([],t29)) else none))))))
theorem lexis_All.ok {a0 : ByteArray} {q0 : List api_Token} {q1 : PErr} (hp0 : lexis_All.f a0 = some (q0,q1)) (hS0 : St w0 Z (fs) w) :
    Calls Tryz.prog 25 #[.string a0] w (fun e w' => ∃ (QA0 : Option Addr) (Qc0 : Nat) (Qv2 : Value) (Z' : Zm),Zm.Le Z Z' ∧ e = .returned (.tuple #[.slice QA0 q0.length Qc0,Qv2]) ∧ St w0 Z' (xrow QA0 Qc0 75 7 (q0.flatMap enc_api_Token)::fs) w' ∧ RepE 37 78 Z' Qv2 q1):=by
  refine calls_abs ?_; intro R hR
  unfold lexis_All.f at hp0
  refine calls_of_runs (fn:=Tryz.f25) (c:=cd25 []) Tryz.func25 (by kernel_rfl) (al:=[.string a0]) rfl (n:=18) rfl ?_
  refine sR 2 [.inRegion (opsOf (cd25 [0])) [0,1],.code (cd25 [1])] ?_
  refine rA 53 (.slice none 0 0) [.slice none 0 0] hS0 ?_
  intro b1 w2 hS3
  refine rA 25 .nilIface [.nilIface] hS3 ?_
  intro b5 w6 hS7
  refine sR 3 [.inRegion (opsOf (cd25 [1,0])) [0],.code (cd25 [1,1])] ?_
  refine rA 53 (.slice none 0 0) [.slice none 0 0] hS7 ?_
  intro b9 w10 hS11
  refine sR 5 [.inRegion (opsOf (cd25 [1,1,0,0])) [1],.code (cd25 [1,1,0,1]),.code (cd25 [1,1,1])] ?_
  obtain ⟨t13,hr15,hp16⟩:=bind_some' hp0
  refine rC (lexis_Tokens.ok hr15 hS11) ?_
  rintro _ w18 ⟨Q14,rfl,hS19⟩
  refine ⟨_,rfl,?_⟩
  refine sR 2 [.code (cd25 [1,1,0,1,0]),.inBlock 0,.code (cd25 [1,1,1])] ?_
  refine Runs.fillG (m:=(mk 19 [(2,.pointer (some ⟨b1,0,none⟩)),(3,.pointer (some ⟨b5,0,none⟩)),(4,.pointer (some ⟨b9,0,none⟩)),(8,.func (.func 66) #[] #[.pointer (some ⟨Q14,0,none⟩)])])) (by kernel_rfl) ?_
  intro l20
  refine r_rangeF (c:=(cd25 [1,1,0,1,0])) (g:=(.tmp 8)) (ps:=#[9,10]) (am:=p25_0) (bd:=p25_1) (gf:=66) (caps:=#[.pointer (some ⟨Q14,0,none⟩)]) (args:=fun L => #[.func (.yield L) #[] #[],.pointer (some ⟨Q14,0,none⟩)]) [p25_2] hS19 (by kernel_rfl) (by kernel_rfl) (fun _ => (by kernel_rfl)) ?_
  intro D22 L21 w23 hS24
  have hS27 : St w0 Z (xlp L21 25 (fill (mk 19 [(2,.pointer (some ⟨b1,0,none⟩)),(3,.pointer (some ⟨b5,0,none⟩)),(4,.pointer (some ⟨b9,0,none⟩))]) (fill (mk 19 [(2,.pointer (some ⟨b1,0,none⟩)),(3,.pointer (some ⟨b5,0,none⟩)),(4,.pointer (some ⟨b9,0,none⟩)),(8,.func (.func 66) #[] #[.pointer (some ⟨Q14,0,none⟩)])]) l20)) #[9,10] p25_0 p25_1 D22 [p25_2] 0::xdef D22::xblk Q14 9 ([.string t13])::xblk b9 53 ([.slice none 0 0])::xblk b5 25 ([.nilIface])::xblk b1 53 ([.slice none 0 0])::fs) w23:=hS24
  obtain ⟨⟨t28,t29,t30⟩,hr34,hp35⟩:=bind_some' hp16
  try dsimp only at hp35
  have hS38:=hS27.pick2
  have hS39:=hS38.pick3
  have hS40:=hS39.pick4
  have hS41:=hS40.pick5
  have hS42:=hS41.pick4
  refine ⟨_,(lexis_Tokens_1.ok hr34 hS42),?_⟩
  rintro _ w43 ⟨Q31,Q32,Q33,Z45,hz46,rfl,hS44,hs47⟩
  refine ⟨⟨_,rfl⟩,?_⟩
  have hS48:=hS44.pick1
  rcases Bool.eq_false_or_eq_true (decide (t28 = 0)) with h49 | h50
  ·have hp51:=ite_t hp35 h49
   have hS52 : St w0 Z45 (xlp L21 25 (fill (mk 19 [(2,.pointer (some ⟨b1,0,none⟩)),(3,.pointer (some ⟨b5,0,none⟩)),(4,.pointer (some ⟨b9,0,none⟩))]) (fill (mk 19 [(2,.pointer (some ⟨b1,0,none⟩)),(3,.pointer (some ⟨b5,0,none⟩)),(4,.pointer (some ⟨b9,0,none⟩)),(8,.func (.func 66) #[] #[.pointer (some ⟨Q14,0,none⟩)])]) l20)) #[9,10] p25_0 p25_1 D22 [p25_2] 0::xrow Q32 Q33 75 7 (t30.flatMap enc_api_Token)::xblk b1 53 ([.slice none 0 0])::xblk b5 25 ([Q31])::xblk b9 53 ([.slice Q32 t30.length Q33])::xblk Q14 9 ([.string t13])::xdef D22::fs) w43:=by have h:=hS48; rw [of_decide_eq_true h49] at h; exact h
   refine r_endF0 hS52 ?_
   intro w53 hS54
   refine sR 3 [.inRegion (opsOf (cd25 [1,1,1,0])) [0,1,2],.code (cd25 [1,1,1,1])] ?_
   refine rL1 53 (.tmp 4) 0 (hS54.blk 3 rfl) ?_
   have hS55:=hS54.pick1
   refine rS 53 (.tmp 2) (.tmp 18) 0 (.slice Q32 t30.length Q33) [.slice Q32 t30.length Q33] [.slice Q32 t30.length Q33] hS55 ?_
   intro w56 hS57
   have hS58:=hS57.pick2
   refine rS 25 (.tmp 3) (.const (.nilIface)) 0 .nilIface [.nilIface] [.nilIface] hS58 ?_
   intro w59 hS60
   refine sR 1 [.code (cd25 [1,1,1,1])] ?_
   refine runsC_ret (fn:=Tryz.f25) Tryz.func25 ?_
   have hS61:=hS60.pick5
   refine leavesC_cons hS61 ?_
   intro w62 hS63
   have hS65:=hS63.drop
   have hS66:=hS65.drop
   have hS67:=hS66.pick1
   have hS68:=hS67.drop
   have hS69:=hS68.pick1
   have hS70:=hS69.drop
   refine leavesC_nil (v:=.tuple #[.slice Q32 t30.length Q33,.nilIface]) (resl_run (fn:=Tryz.f25) (by kernel_rfl) (.cell (t:=2) (ty:=53) (by kernel_rfl) (loads_at 0 (hS63.blk 1 rfl) (by kernel_rfl) (by kernel_rfl)) (.cell (t:=3) (ty:=25) (by kernel_rfl) (loads_at 0 (hS63.blk 0 rfl) (by kernel_rfl) (by kernel_rfl)) .nil))) ?_
   cases Option.some.inj hp51
   exact hR _ _ ⟨Q32,Q33,.nilIface,Z45,hz46,rfl,hS70,(RepE.of_nil)⟩
  have hp72:=ite_f hp35 h50
  obtain ⟨g73,hp74⟩:=ite_some hp72
  have hS75 : St w0 Z45 (xlp L21 25 (fill (mk 19 [(2,.pointer (some ⟨b1,0,none⟩)),(3,.pointer (some ⟨b5,0,none⟩)),(4,.pointer (some ⟨b9,0,none⟩))]) (fill (mk 19 [(2,.pointer (some ⟨b1,0,none⟩)),(3,.pointer (some ⟨b5,0,none⟩)),(4,.pointer (some ⟨b9,0,none⟩)),(8,.func (.func 66) #[] #[.pointer (some ⟨Q14,0,none⟩)])]) l20)) #[9,10] p25_0 p25_1 D22 [p25_2] 1::xrow Q32 Q33 75 7 (t30.flatMap enc_api_Token)::xblk b1 53 ([.slice none 0 0])::xblk b5 25 ([Q31])::xblk b9 53 ([.slice Q32 t30.length Q33])::xblk Q14 9 ([.string t13])::xdef D22::fs) w43:=by have h:=hS48; rw [g73] at h; exact h
  refine r_endFj 0 (cj:=p25_2) (by kernel_rfl) hS75 ?_
  intro w76 hS77
  refine runsC_ret (fn:=Tryz.f25) Tryz.func25 ?_
  have hS78:=hS77.pick5
  refine leavesC_cons hS78 ?_
  intro w79 hS80
  have hS82:=hS80.nilrow none 75 7
  have hS83:=hS82.pick1
  have hS84:=hS83.drop
  have hS85:=hS84.pick1
  have hS86:=hS85.drop
  have hS87:=hS86.pick1
  have hS88:=hS87.drop
  have hS89:=hS88.pick1
  have hS90:=hS89.drop
  have hS91:=hS90.pick1
  have hS92:=hS91.drop
  refine leavesC_nil (v:=.tuple #[.slice none 0 0,Q31]) (resl_run (fn:=Tryz.f25) (by kernel_rfl) (.cell (t:=2) (ty:=53) (by kernel_rfl) (loads_at 0 (hS80.blk 1 rfl) (by kernel_rfl) (by kernel_rfl)) (.cell (t:=3) (ty:=25) (by kernel_rfl) (loads_at 0 (hS80.blk 2 rfl) (by kernel_rfl) (by kernel_rfl)) .nil))) ?_
  cases Option.some.inj hp74
  exact hR _ _ ⟨none,0,Q31,Z45,hz46,rfl,hS92,hs47⟩

noncomputable def cd111 (p : List Nat) : Code := sub (bodyOf Tryz.f111) p
abbrev p111_0:=cd111 [1,0]
def cond_reader__sees.f (a0v : cond_reader) (a1 a2 : Int) (a3 : ByteArray) : Option Bool :=
  (if (decide ((IntKind.i64.wrap (a0v.at_ + a1)) < (a0v.l.length : Int))) = true then (if 0 ≤ (IntKind.i64.wrap (a0v.at_ + a1)) ∧ (IntKind.i64.wrap (a0v.at_ + a1)) < (a0v.l.length : Int) then (if (((gt a0v.l (IntKind.i64.wrap (a0v.at_ + a1))).Kind) == a2) = true then (if 0 ≤ (IntKind.i64.wrap (a0v.at_ + a1)) ∧ (IntKind.i64.wrap (a0v.at_ + a1)) < (a0v.l.length : Int) then (if (seq ((gt a0v.l (IntKind.i64.wrap (a0v.at_ + a1))).Text) a3) = true then some (true) else some (false)) else none) else some (false)) else none) else some (false))
theorem cond_reader__sees.ok {a0v : cond_reader} {a1 a2 : Int} {a3 : ByteArray} {ba0 : Nat} {y7 : Option Addr} {y8 : Nat} {y9 : Option Addr} {y10 : Nat} {q0 : Bool} (hp0 : cond_reader__sees.f a0v a1 a2 a3 = some q0) (hS0 : St w0 Z (xblk ba0 114 ([.slice y7 a0v.l.length y8,.int .i64 a0v.at_] ++ (enc_api_Token a0v.last) ++ [.int .i64 a0v.depth,.slice y9 a0v.c.length y10])::fs) w) (y11 : SlZ (flat enc_api_Token) 7 Z y7 y8 a0v.l) (y12 : SlZ (flat enc_api_Node) 6 Z y9 y10 a0v.c) :
    Calls Tryz.prog 111 #[.pointer (some ⟨ba0,0,none⟩),.int .i64 a1,.int .i64 a2,.string a3] w (fun e w' => e = .returned (.bool q0) ∧ St w0 Z (xblk ba0 114 ([.slice y7 a0v.l.length y8,.int .i64 a0v.at_] ++ (enc_api_Token a0v.last) ++ [.int .i64 a0v.depth,.slice y9 a0v.c.length y10])::fs) w'):=by
  refine calls_abs ?_; intro R hR
  unfold cond_reader__sees.f at hp0
  refine calls_of_runs (fn:=Tryz.f111) (c:=cd111 []) Tryz.func111 (by kernel_rfl) (al:=[.pointer (some ⟨ba0,0,none⟩),.int .i64 a1,.int .i64 a2,.string a3]) rfl (n:=51) rfl ?_
  refine sR 5 [.code p111_0,.code (cd111 [1,1])] ?_
  refine r_quiet hS0 (c:=p111_0) (id:=1) (by kernel_rfl) (by kernel_rfl) (by kernel_rfl) (is:=[0,1,2,3,4,5,6,7,8,9,10,11,12,13,14,15,16,17,18,19,20,21,22,23,24,25,26,27,28,29,30,31,32,33,34,35,36,37,38,39,40,41,42,43,44,45,46]) (by kernel_rfl) ?_
  refine qR 3 (rg 3 44) ?_
  refine qL1 3 (.tmp 11) 1 (fun w hC => (hC.blk 0 rfl)) ?_
  refine qR 5 (rg 9 38) ?_
  refine qL1 53 (.tmp 17) 0 (fun w hC => (hC.blk 0 rfl)) ?_
  refine qI 2 (rg 12 35) 20 hp0 (fun hp3 => ?_) fun hp33 => ?_
  ·refine qR 4 (rg 16 31) ?_
   refine qL1 53 (.tmp 24) 0 (fun w hC => (hC.blk 0 rfl)) ?_
   refine qR 3 (rg 20 27) ?_
   refine qL1 3 (.tmp 28) 1 (fun w hC => (hC.blk 0 rfl)) ?_
   refine qR 2 (rg 23 24) ?_
   obtain ⟨g4,hp5⟩:=ite_some hp3
   obtain ⟨b6,p7,hA8,hc9⟩:=y11.atF g4.1 g4.2
   refine q_indexAddr (c:=p111_0) (i:=23) (d:=(some 32)) (ty:=0) (t:=53) (e:=75) (n:=a0v.l.length) (cp:=y8) (sz:=7) (kk:=.i64) (x:=(.tmp 25)) (y:=(.tmp 31)) (b:=b6) (o':=p7) (j:=(IntKind.i64.wrap (a0v.at_ + a1))) (by kernel_rfl) (by kernel_rfl) (slv (by kernel_rfl) hA8) (by kernel_rfl) (by kernel_rfl) (by kernel_rfl) g4.1 g4.2 ?_
   refine qR 1 (rg 25 22) ?_
   refine qL1 3 (.tmp 33) 0 (fun w hC => (hc9.cells hC)) ?_
   refine qI 2 (rg 28 19) 36 hp5 (fun hp12 => ?_) fun hp29 => ?_
   ·refine qR 5 (rg 33 14) ?_
    refine qL1 53 (.tmp 41) 0 (fun w hC => (hC.blk 0 rfl)) ?_
    refine qR 3 (rg 37 10) ?_
    refine qL1 3 (.tmp 45) 1 (fun w hC => (hC.blk 0 rfl)) ?_
    refine qR 2 (rg 40 7) ?_
    obtain ⟨g13,hp14⟩:=ite_some hp12
    obtain ⟨b15,p16,hA17,hc18⟩:=y11.atF g13.1 g13.2
    refine q_indexAddr (c:=p111_0) (i:=40) (d:=(some 49)) (ty:=0) (t:=53) (e:=75) (n:=a0v.l.length) (cp:=y8) (sz:=7) (kk:=.i64) (x:=(.tmp 42)) (y:=(.tmp 48)) (b:=b15) (o':=p16) (j:=(IntKind.i64.wrap (a0v.at_ + a1))) (by kernel_rfl) (by kernel_rfl) (slv (by kernel_rfl) hA17) (by kernel_rfl) (by kernel_rfl) (by kernel_rfl) g13.1 g13.2 ?_
    refine qR 1 (rg 42 5) ?_
    refine qL1 9 (.tmp 50) 1 (fun w hC => (hc18.cells hC)) ?_
    refine qI 2 [45,46] 53 hp14 (fun hp21 => ?_) fun hp25 => ?_
    ·refine qR 2 [] ?_
     refine Qs.nil ?_
     intro w22 hS23
     refine rR (.bool true) Tryz.func111 ?_
     cases Option.some.inj hp21
     exact hR _ _ ⟨rfl,hS23⟩
    refine qR 2 [] ?_
    refine Qs.nil ?_
    intro w26 hS27
    refine rR (.bool false) Tryz.func111 ?_
    cases Option.some.inj hp25
    exact hR _ _ ⟨rfl,hS27⟩
   refine qR 19 [] ?_
   refine Qs.nil ?_
   intro w30 hS31
   refine rR (.bool false) Tryz.func111 ?_
   cases Option.some.inj hp29
   exact hR _ _ ⟨rfl,hS31⟩
  refine qR 35 [] ?_
  refine Qs.nil ?_
  intro w34 hS35
  refine rR (.bool false) Tryz.func111 ?_
  cases Option.some.inj hp33
  exact hR _ _ ⟨rfl,hS35⟩

noncomputable def cd112 (p : List Nat) : Code := sub (bodyOf Tryz.f112) p
def cond_reader__take.f (a0v : cond_reader) : Option (api_Token × Int × api_Token) :=
  (if 0 ≤ a0v.at_ ∧ a0v.at_ < (a0v.l.length : Int) then some (((gt a0v.l a0v.at_),(IntKind.i64.wrap (a0v.at_ + 1)),(gt a0v.l a0v.at_))) else none)
theorem cond_reader__take.ok {a0v : cond_reader} {ba0 : Nat} {y7 : Option Addr} {y8 : Nat} {y9 : Option Addr} {y10 : Nat} {q0 : api_Token} {q1 : Int} {q2 : api_Token} (hp0 : cond_reader__take.f a0v = some (q0,q1,q2)) (hS0 : St w0 Z (xblk ba0 114 ([.slice y7 a0v.l.length y8,.int .i64 a0v.at_] ++ (enc_api_Token a0v.last) ++ [.int .i64 a0v.depth,.slice y9 a0v.c.length y10])::fs) w) (y11 : SlZ (flat enc_api_Token) 7 Z y7 y8 a0v.l) (y12 : SlZ (flat enc_api_Node) 6 Z y9 y10 a0v.c) :
    Calls Tryz.prog 112 #[.pointer (some ⟨ba0,0,none⟩)] w (fun e w' => e = .returned (.agg (enc_api_Token q0).toArray) ∧ St w0 Z (xblk ba0 114 ([.slice y7 a0v.l.length y8,.int .i64 q1] ++ (enc_api_Token q2) ++ [.int .i64 a0v.depth,.slice y9 a0v.c.length y10])::fs) w'):=by
  refine calls_abs ?_; intro R hR
  unfold cond_reader__take.f at hp0
  refine calls_of_runs (fn:=Tryz.f112) (c:=cd112 []) Tryz.func112 (by kernel_rfl) (al:=[.pointer (some ⟨ba0,0,none⟩)]) rfl (n:=26) rfl ?_
  refine sR 2 [.inRegion (opsOf (cd112 [0])) [0],.code (cd112 [1])] ?_
  refine rA 75 (.agg (enc_api_Token (⟨0,(⟨#[]⟩ : ByteArray),0,0,0,0,0⟩ : api_Token)).toArray) (enc_api_Token (⟨0,(⟨#[]⟩ : ByteArray),0,0,0,0,0⟩ : api_Token)) hS0 ?_
  intro b1 w2 hS3
  refine sR 2 [.code (cd112 [1,0]),.code (cd112 [1,1])] ?_
  refine r_drawn3 (C:=St w0 Z (xblk b1 75 (enc_api_Token (⟨0,(⟨#[]⟩ : ByteArray),0,0,0,0,0⟩ : api_Token))::xblk ba0 114 ([.slice y7 a0v.l.length y8,.int .i64 a0v.at_] ++ (enc_api_Token a0v.last) ++ [.int .i64 a0v.depth,.slice y9 a0v.c.length y10])::fs)) (c:=(cd112 [1,0])) (id:=1) (by kernel_rfl) (by kernel_rfl) 13 (Nat.le_of_ble_eq_true (by kernel_rfl)) (by kernel_rfl) (by kernel_rfl) (by kernel_rfl) (is:=[0,1,2,3,4,5,6,7,8,9,10,11,12]) (rest:=[13]) (by kernel_rfl) (by kernel_rfl) hS3.drew ?_
  refine qR 4 (rg 4 9) ?_
  refine qL1 53 (.tmp 6) 0 (fun w hC => (hC.blk 1 rfl)) ?_
  refine qR 3 (rg 8 5) ?_
  refine qL1 3 (.tmp 10) 1 (fun w hC => (hC.blk 1 rfl)) ?_
  obtain ⟨g5,hp6⟩:=ite_some hp0
  obtain ⟨b7,p8,hA9,hc10⟩:=y11.atF g5.1 g5.2
  refine q_indexAddr (c:=(hd (cd112 [1,0]) 13)) (i:=9) (d:=(some 12)) (ty:=0) (t:=53) (e:=75) (n:=a0v.l.length) (cp:=y8) (sz:=7) (kk:=.i64) (x:=(.tmp 7)) (y:=(.tmp 11)) (b:=b7) (o':=p8) (j:=a0v.at_) (by kernel_rfl) (by kernel_rfl) (slv (by kernel_rfl) hA9) (by kernel_rfl) (by kernel_rfl) (by kernel_rfl) g5.1 g5.2 ?_
  refine qLa 75 (.tmp 12) (fun w hC => (hc10.cells hC)) ?_
  refine qR 2 [] ?_
  refine Qs.nil ?_
  intro w11 hS12
  have hS13:=hS12.pick1
  refine rSG 75 (.tmp 15) (.tmp 13) 2 (.agg (enc_api_Token (gt a0v.l a0v.at_)).toArray) (enc_api_Token (gt a0v.l a0v.at_)) ([.slice y7 a0v.l.length y8,.int .i64 a0v.at_] ++ (enc_api_Token (gt a0v.l a0v.at_)) ++ [.int .i64 a0v.depth,.slice y9 a0v.c.length y10]) hS13 (one_api_Token _) ?_
  intro w14 hS15
  refine sR 6 [iR (cd112 [1,1,0]) 3 5,.code (cd112 [1,1,1])] ?_
  refine rL1 3 (.tmp 18) 1 (hS15.blk 0 rfl) ?_
  refine sR 3 [.inRegion (opsOf (cd112 [1,1,0])) [7],.code (cd112 [1,1,1])] ?_
  refine rS 3 (.tmp 22) (.tmp 20) 1 (.int .i64 (IntKind.i64.wrap (a0v.at_ + 1))) [.int .i64 (IntKind.i64.wrap (a0v.at_ + 1))] ([.slice y7 a0v.l.length y8,.int .i64 (IntKind.i64.wrap (a0v.at_ + 1))] ++ (enc_api_Token (gt a0v.l a0v.at_)) ++ [.int .i64 a0v.depth,.slice y9 a0v.c.length y10]) hS15 ?_
  intro w16 hS17
  refine sR 6 [.inRegion (opsOf (cd112 [1,1,1,0])) [3,4],.code (cd112 [1,1,1,1])] ?_
  refine rLa 75 (.tmp 25) (Cells.mid' (pre:=[.slice y7 a0v.l.length y8] ++ [.int .i64 (IntKind.i64.wrap (a0v.at_ + 1))]) (cs:=enc_api_Token (gt a0v.l a0v.at_)) (post:=[.int .i64 a0v.depth] ++ [.slice y9 a0v.c.length y10]) (off:=2) (hS17.blk 0 rfl) (by simp [len_api_Token]) (by simp)) ?_
  have hS18:=hS17.pick1
  refine rSA 75 (.tmp 2) (.tmp 26) (enc_api_Token (gt a0v.l a0v.at_)) hS18 (one_api_Token _) ?_
  intro w19 hS20
  refine sR 1 [.code (cd112 [1,1,1,1])] ?_
  have hS21:=hS20.drop
  refine rRc (.agg (enc_api_Token (gt a0v.l a0v.at_)).toArray) (.ca 2 75 (hS20.blk 0 rfl) .nil) Tryz.func112 ?_
  cases Option.some.inj hp6
  exact hR _ _ ⟨rfl,hS21⟩

noncomputable def cd144 (p : List Nat) : Code := sub (bodyOf Tryz.f144) p
abbrev p144_1:=cd144 [1]
def cond_reader__fail.f (a0v : cond_reader) (a1 : api_Token) (a2 : Int) : Option (Sum PErr Unit) :=
  some (.inl (.pos a1.Line a1.Col a2))
theorem cond_reader__fail.ok {a0v : cond_reader} {a1 : api_Token} {a2 : Int} {ba0 : Nat} {y7 : Option Addr} {y8 : Nat} {y9 : Option Addr} {y10 : Nat} {qr : Sum PErr Unit} (hp0 : cond_reader__fail.f a0v a1 a2 = some qr) (hS0 : St w0 Z (xblk ba0 114 ([.slice y7 a0v.l.length y8,.int .i64 a0v.at_] ++ (enc_api_Token a0v.last) ++ [.int .i64 a0v.depth,.slice y9 a0v.c.length y10])::fs) w) (y11 : SlZ (flat enc_api_Token) 7 Z y7 y8 a0v.l) (y12 : SlZ (flat enc_api_Node) 6 Z y9 y10 a0v.c) :
    Calls Tryz.prog 144 #[.pointer (some ⟨ba0,0,none⟩),.agg (enc_api_Token a1).toArray,.int .i64 a2] w (fun e w' => PanQ (fun p => ∃ (v : Value) (Z' : Zm),Zm.Le Z Z' ∧ e = .panicked [{ v:=v,recovered:=false }] ∧ St w0 Z' fs w' ∧ RepE 37 78 Z' v p) (fun q => False) qr):=by
  refine calls_abs ?_; intro R hR
  unfold cond_reader__fail.f at hp0
  refine calls_of_runs (fn:=Tryz.f144) (c:=cd144 []) Tryz.func144 (by kernel_rfl) (al:=[.pointer (some ⟨ba0,0,none⟩),.agg (enc_api_Token a1).toArray,.int .i64 a2]) rfl (n:=12) rfl ?_
  refine sR 2 [.inRegion (opsOf (cd144 [0])) [0],.code p144_1] ?_
  refine r_box (c:=(cd144 [0])) (i:=0) (d:=(some 4)) (ty:=0) (x:=(.tmp 1)) (v:=.agg (enc_api_Token a1).toArray) (t:=75) (cs:=enc_api_Token a1) hS0 (by kernel_rfl) (by kernel_rfl) (by kernel_rfl) (by kernel_rfl) ?_
  intro b1 w2 hS3
  refine sR 3 [iR p144_1 1 9] ?_
  refine rL1 3 (.tmp 6) 3 (hS3.blk 0 rfl) ?_
  refine sR 1 [iR p144_1 3 7] ?_
  refine rL1 3 (.tmp 8) 4 (hS3.blk 0 rfl) ?_
  refine sR 3 [.inRegion (opsOf p144_1) [7,8,9]] ?_
  refine r_box (c:=p144_1) (i:=7) (d:=(some 13)) (ty:=78) (x:=(.tmp 12)) (v:=.agg #[.int .i64 a1.Line,.int .i64 a1.Col,.iface 37 (.int .i64 a2)]) (t:=80) (cs:=[.int .i64 a1.Line,.int .i64 a1.Col,.iface 37 (.int .i64 a2)]) hS3 (by kernel_rfl) (by kernel_rfl) (by kernel_rfl) (by kernel_rfl) ?_
  intro b5 w6 hS7
  obtain ⟨Z9,hz10,hS11,hs12,-⟩:=hS7.lendblk
  refine sR 1 [.inRegion (opsOf p144_1) [9]] ?_
  refine r_panic (c:=p144_1) (i:=9) (d:=none) (ty:=0) (x:=(.tmp 14)) (t:=78) (v:=.pointer (some ⟨b5,0,none⟩)) (by kernel_rfl) (by kernel_rfl) (by kernel_rfl) ?_
  have hS14:=hS11.drop
  have hS15:=hS14.drop
  refine raised_fx Tryz.func144 ?_
  cases Option.some.inj hp0
  exact hR _ _ (panq_l ⟨(.iface 78 (.pointer (some ⟨b5,0,none⟩))),Z9,hz10,rfl,hS15,(RepE.of_pos hs12)⟩)

noncomputable def cd113 (p : List Nat) : Code := sub (bodyOf Tryz.f113) p
def cond_reader__node.f (a0v : cond_reader) (a1 : api_Node) : Option (Sum PErr (Int × (List api_Node))) :=
  (if ((a0v.c.length : Int) == 1024) = true then (cond_reader__fail.f a0v a0v.last 1 >>= (fun | .inl pe11 => some (.inl pe11) | .inr _ => none)) else (if (a0v.c.length + ([a1] : List api_Node).length) * 56 ≤ 140737488355328 then some (.inr ((IntKind.i64.wrap (((a0v.c ++ ([a1] : List api_Node)).length : Int) - 1)),(a0v.c ++ ([a1] : List api_Node)))) else none))
theorem cond_reader__node.ok {a0v : cond_reader} {a1 : api_Node} {ba0 : Nat} {y7 : Option Addr} {y8 : Nat} {y9 : Option Addr} {y10 : Nat} {qr : Sum PErr (Int × (List api_Node))} (hp0 : cond_reader__node.f a0v a1 = some qr) (hS0 : St w0 Z (xblk ba0 114 ([.slice y7 a0v.l.length y8,.int .i64 a0v.at_] ++ (enc_api_Token a0v.last) ++ [.int .i64 a0v.depth,.slice y9 a0v.c.length y10])::xrow y9 y10 68 6 (a0v.c.flatMap enc_api_Node)::fs) w) (y11 : SlZ (flat enc_api_Token) 7 Z y7 y8 a0v.l) :
    Calls Tryz.prog 113 #[.pointer (some ⟨ba0,0,none⟩),.agg (enc_api_Node a1).toArray] w (fun e w' => PanQ (fun p => ∃ (v : Value) (Z' : Zm),Zm.Le Z Z' ∧ e = .panicked [{ v:=v,recovered:=false }] ∧ St w0 Z' fs w' ∧ RepE 37 78 Z' v p) (fun q => ∃ (QA0 : Option Addr) (Qc0 : Nat),e = .returned (.int .i64 q.1) ∧ St w0 Z (xrow QA0 Qc0 68 6 (q.2.flatMap enc_api_Node)::xblk ba0 114 ([.slice y7 a0v.l.length y8,.int .i64 a0v.at_] ++ (enc_api_Token a0v.last) ++ [.int .i64 a0v.depth,.slice QA0 q.2.length Qc0])::fs) w') qr):=by
  refine calls_abs ?_; intro R hR
  unfold cond_reader__node.f at hp0
  refine calls_of_runs (fn:=Tryz.f113) (c:=cd113 []) Tryz.func113 (by kernel_rfl) (al:=[.pointer (some ⟨ba0,0,none⟩),.agg (enc_api_Node a1).toArray]) rfl (n:=31) rfl ?_
  refine sR 2 [.inRegion (opsOf (cd113 [0])) [0,1],.code (cd113 [1])] ?_
  refine r_box (c:=(cd113 [0])) (i:=0) (d:=(some 3)) (ty:=0) (x:=(.tmp 1)) (v:=.agg (enc_api_Node a1).toArray) (t:=68) (cs:=enc_api_Node a1) hS0 (by kernel_rfl) (by kernel_rfl) (by kernel_rfl) (by kernel_rfl) ?_
  intro b1 w2 hS3
  refine sR 8 [.inRegion (opsOf (cd113 [1,0,0])) [3,4,5],.code (cd113 [1,0,1]),.code (cd113 [1,1])] ?_
  refine rL1 23 (.tmp 7) 10 (hS3.blk 1 rfl) ?_
  refine sI 2 [.inRegion (opsOf (cd113 [1,0,0])) [],.code (cd113 [1,0,1]),.code (cd113 [1,1])] 10 hp0 (fun hp7 => ?_) fun hp28 => ?_
  ·refine sR 7 [.inRegion (opsOf (cd113 [1,0,1,0])) [4,5],.code (cd113 [1,1])] ?_
   refine rLa 75 (.tmp 14) (Cells.mid' (pre:=[.slice y7 a0v.l.length y8] ++ [.int .i64 a0v.at_]) (cs:=enc_api_Token a0v.last) (post:=[.int .i64 a0v.depth] ++ [.slice y9 a0v.c.length y10]) (off:=2) (hS3.blk 1 rfl) (by simp [len_api_Token]) (by simp)) ?_
   obtain ⟨q10,hr8,hp9⟩:=bind_some' hp7
   rcases q10 with pe11 | _
   ·try dsimp only at hp9
    have hS12:=hS3.pick2
    obtain ⟨Z13,hz14,hS15,hs16,hb17⟩:=hS12.lendrow len_api_Node (by omega)
    have hS18:=hS15.pick1
    refine rCX (cond_reader__fail.ok hr8 hS18 (y11.up hz14) hs16) ?_
    rintro _ w24 ⟨v19,Z20,hz21,rfl,hS22,he23⟩
    refine ⟨_,rfl,?_⟩
    have hS26:=hS22.drop
    refine raised_fx Tryz.func113 ?_
    cases Option.some.inj hp9
    exact hR _ _ (panq_l ⟨v19,Z20,(Zm.Le.trans hz14 hz21),rfl,hS26,he23⟩)
   try dsimp only at hp9
   cases hp9
  refine sR 4 [.code (cd113 [1,1,0]),.code (cd113 [1,1,1])] ?_
  obtain ⟨g31,hp32⟩:=ite_some hp28
  refine r_drawnG (S:=Option (Nat × Option ((Option Addr × Nat) × Option Unit))) (rank:=(fun st => match st with | none => 0 | some (b29,none) => 1 | some (b29,some (x36,none)) => 2 | some (b29,some (x36,some x37)) => 3)) (C:=(fun st w' => match st with | none => St w0 Z (xblk b1 68 (enc_api_Node a1)::xblk ba0 114 ([.slice y7 a0v.l.length y8,.int .i64 a0v.at_] ++ (enc_api_Token a0v.last) ++ [.int .i64 a0v.depth,.slice y9 a0v.c.length y10])::xrow y9 y10 68 6 (a0v.c.flatMap enc_api_Node)::fs) w' | some (b29,none) => St w0 Z (xrow (some ⟨b29,0,none⟩) 1 68 6 (([a1] : List api_Node).flatMap enc_api_Node)::xblk b1 68 (enc_api_Node a1)::xblk ba0 114 ([.slice y7 a0v.l.length y8,.int .i64 a0v.at_] ++ (enc_api_Token a0v.last) ++ [.int .i64 a0v.depth,.slice y9 a0v.c.length y10])::xrow y9 y10 68 6 (a0v.c.flatMap enc_api_Node)::fs) w' | some (b29,some (x36,none)) => St w0 Z (xrow x36.1 x36.2 68 6 ((a0v.c ++ ([a1] : List api_Node)).flatMap enc_api_Node)::xrow (some ⟨b29,0,none⟩) 1 68 6 (([a1] : List api_Node).flatMap enc_api_Node)::xblk b1 68 (enc_api_Node a1)::xblk ba0 114 ([.slice y7 a0v.l.length y8,.int .i64 a0v.at_] ++ (enc_api_Token a0v.last) ++ [.int .i64 a0v.depth,.slice y9 a0v.c.length y10])::fs) w' | some (b29,some (x36,some x37)) => St w0 Z (xblk ba0 114 ([.slice y7 a0v.l.length y8,.int .i64 a0v.at_] ++ (enc_api_Token a0v.last) ++ [.int .i64 a0v.depth,.slice x36.1 (a0v.c ++ ([a1] : List api_Node)).length x36.2])::xrow x36.1 x36.2 68 6 ((a0v.c ++ ([a1] : List api_Node)).flatMap enc_api_Node)::xrow (some ⟨b29,0,none⟩) 1 68 6 (([a1] : List api_Node).flatMap enc_api_Node)::xblk b1 68 (enc_api_Node a1)::fs) w')) (v:=(fun st => match st with | none => [.pointer (some ⟨ba0,0,none⟩),.pointer (some ⟨ba0,0,none⟩),.pointer (some ⟨ba0,0,none⟩),.pointer (some ⟨ba0,10,none⟩),.slice y9 a0v.c.length y10,.agg (enc_api_Node a1).toArray,undef,undef,undef,undef,undef] | some (b29,none) => [.pointer (some ⟨ba0,0,none⟩),.pointer (some ⟨ba0,0,none⟩),.pointer (some ⟨ba0,0,none⟩),.pointer (some ⟨ba0,10,none⟩),.slice y9 a0v.c.length y10,.agg (enc_api_Node a1).toArray,.slice (some ⟨b29,0,none⟩) ([a1] : List api_Node).length 1,undef,undef,undef,undef] | some (b29,some (x36,none)) => [.pointer (some ⟨ba0,0,none⟩),.pointer (some ⟨ba0,0,none⟩),.pointer (some ⟨ba0,0,none⟩),.pointer (some ⟨ba0,10,none⟩),.slice y9 a0v.c.length y10,.agg (enc_api_Node a1).toArray,.slice (some ⟨b29,0,none⟩) ([a1] : List api_Node).length 1,.slice x36.1 (a0v.c ++ ([a1] : List api_Node)).length x36.2,.pointer (some ⟨ba0,0,none⟩),.pointer (some ⟨ba0,10,none⟩),undef] | some (b29,some (x36,some x37)) => [.pointer (some ⟨ba0,0,none⟩),.pointer (some ⟨ba0,0,none⟩),.pointer (some ⟨ba0,0,none⟩),.pointer (some ⟨ba0,10,none⟩),.slice y9 a0v.c.length y10,.agg (enc_api_Node a1).toArray,.slice (some ⟨b29,0,none⟩) ([a1] : List api_Node).length 1,.slice x36.1 (a0v.c ++ ([a1] : List api_Node)).length x36.2,.pointer (some ⟨ba0,0,none⟩),.pointer (some ⟨ba0,10,none⟩),undef])) (c:=(cd113 [1,1,0])) (id:=3) none 10 11 [6,7,10] [0,0,0,0,0,0,0,1,2,2,2] [2,2,2,2,1,0,1,2,3,2,3] [] (by kernel_rfl) (by kernel_rfl) (by kernel_rfl) (by kernel_rfl) (by kernel_rfl) (by kernel_rfl) (by kernel_rfl) (by kernel_rfl) (by kernel_rfl) (by kernel_rfl) rfl hS3.drew ?_ ?_ ?_ ?_
  ·intro st w hC
   rcases st with _ | ⟨b29,_ | ⟨x36,_ | x37⟩⟩
   ·exact nbl rfl
   ·exact nbl rfl
   ·exact nbl rfl
   ·exact nbl rfl
  ·intro i hi he st w hC hr hu
   match i,hi,he with
   | 0,_,_ =>
    rcases st with _ | ⟨b29,_ | ⟨x36,_ | x37⟩⟩
    ·dsimp only at hC
     exact dP (.pointer (some ⟨ba0,0,none⟩)) hC
    ·dsimp only at hC
     exact dP (.pointer (some ⟨ba0,0,none⟩)) hC
    ·dsimp only at hC
     exact dP (.pointer (some ⟨ba0,0,none⟩)) hC
    ·exact absurd hu (nle rfl)
   | 1,_,_ =>
    rcases st with _ | ⟨b29,_ | ⟨x36,_ | x37⟩⟩
    ·dsimp only at hC
     exact dP (.pointer (some ⟨ba0,0,none⟩)) hC
    ·dsimp only at hC
     exact dP (.pointer (some ⟨ba0,0,none⟩)) hC
    ·dsimp only at hC
     exact dP (.pointer (some ⟨ba0,0,none⟩)) hC
    ·exact absurd hu (nle rfl)
   | 2,_,_ =>
    rcases st with _ | ⟨b29,_ | ⟨x36,_ | x37⟩⟩
    ·dsimp only at hC
     exact dP (.pointer (some ⟨ba0,0,none⟩)) hC
    ·dsimp only at hC
     exact dP (.pointer (some ⟨ba0,0,none⟩)) hC
    ·dsimp only at hC
     exact dP (.pointer (some ⟨ba0,0,none⟩)) hC
    ·exact absurd hu (nle rfl)
   | 3,_,_ =>
    rcases st with _ | ⟨b29,_ | ⟨x36,_ | x37⟩⟩
    ·dsimp only at hC
     exact dP (.pointer (some ⟨ba0,10,none⟩)) hC
    ·dsimp only at hC
     exact dP (.pointer (some ⟨ba0,10,none⟩)) hC
    ·dsimp only at hC
     exact dP (.pointer (some ⟨ba0,10,none⟩)) hC
    ·exact absurd hu (nle rfl)
   | 4,_,_ =>
    rcases st with _ | ⟨b29,_ | ⟨x36,_ | x37⟩⟩
    ·dsimp only at hC
     exact does_run (x_load (t:=23) (x:=(.tmp 20)) (p:=⟨ba0,10,none⟩) (v:=.slice y9 a0v.c.length y10) (by kernel_rfl) (loads_at 10 (hC.blk 1 rfl) (by kernel_rfl) (by kernel_rfl)) (by kernel_rfl)) rfl hC
    ·dsimp only at hC
     exact does_run (x_load (t:=23) (x:=(.tmp 20)) (p:=⟨ba0,10,none⟩) (v:=.slice y9 a0v.c.length y10) (by kernel_rfl) (loads_at 10 (hC.blk 2 rfl) (by kernel_rfl) (by kernel_rfl)) (by kernel_rfl)) rfl hC
    ·exact absurd hu (nle rfl)
    ·exact absurd hu (nle rfl)
   | 5,_,_ =>
    rcases st with _ | ⟨b29,_ | ⟨x36,_ | x37⟩⟩
    ·dsimp only at hC
     exact does_run (x_load (t:=68) (x:=(.tmp 3)) (p:=⟨b1,0,none⟩) (v:=.agg (enc_api_Node a1).toArray) (by kernel_rfl) (loads_agg (hC.blk 0 rfl) (by kernel_rfl) (by kernel_rfl)) (by kernel_rfl)) rfl hC
    ·exact absurd hu (nle rfl)
    ·exact absurd hu (nle rfl)
    ·exact absurd hu (nle rfl)
   | 6,_,he => exact absurd he (by decide)
   | 7,_,he => exact absurd he (by decide)
   | 8,_,_ =>
    rcases st with _ | ⟨b29,_ | ⟨x36,_ | x37⟩⟩
    ·exact absurd hr (nle rfl)
    ·exact absurd hr (nle rfl)
    ·dsimp only at hC
     exact dP (.pointer (some ⟨ba0,0,none⟩)) hC
    ·dsimp only at hC
     exact dP (.pointer (some ⟨ba0,0,none⟩)) hC
   | 9,_,_ =>
    rcases st with _ | ⟨b29,_ | ⟨x36,_ | x37⟩⟩
    ·exact absurd hr (nle rfl)
    ·exact absurd hr (nle rfl)
    ·dsimp only at hC
     exact dP (.pointer (some ⟨ba0,10,none⟩)) hC
    ·exact absurd hu (nle rfl)
   | 10,_,he => exact absurd he (by decide)
   | i + 11,hi,_ => exact absurd hi (by omega)
  ·intro k hk st w hC hr
   match k,hk with
   | 0,_ =>
    rcases st with _ | ⟨b29,_ | ⟨x36,_ | x37⟩⟩
    ·dsimp only at hC
     refine does_lit (t:=23) (e:=68) (sz:=6) (n:=1) (parts:=#[(0,(.tmp 22))]) (vs:=[(0,.agg (enc_api_Node a1).toArray)]) (z:=zeroOf Tryz.prog 68) (cs':=([a1] : List api_Node).flatMap enc_api_Node) hC (by kernel_rfl) (by kernel_rfl) (by kernel_rfl) (by kernel_rfl) (by decide) (by decide) (by kernel_rfl) rfl (Parts.cons (c:=enc_api_Node a1) (by kernel_rfl) (len_api_Node _) Parts.nil) rfl ?_
     intro b29 w2 h2
     refine ⟨some (b29,none),rfl,?_,.inr rfl,h2⟩
     intro j hj
     match j,hj with
     | 0,_ => exact rfl
     | 1,_ => exact rfl
     | 2,_ => exact rfl
     | 3,_ => exact rfl
     | 4,_ => exact rfl
     | 5,_ => exact rfl
     | 6,hj => exact absurd hj (by decide)
     | 7,hj => exact absurd hj (by decide)
     | 8,hj => exact absurd hj (by decide)
     | 9,hj => exact absurd hj (by decide)
     | 10,hj => exact absurd hj (by decide)
     | j + 11,_ => exact rfl
    ·exact absurd hr (Nat.ne_of_beq_eq_false rfl)
    ·exact absurd hr (Nat.ne_of_beq_eq_false rfl)
    ·exact absurd hr (Nat.ne_of_beq_eq_false rfl)
   | 1,_ =>
    rcases st with _ | ⟨b29,_ | ⟨x36,_ | x37⟩⟩
    ·exact absurd hr (Nat.ne_of_beq_eq_false rfl)
    ·dsimp only at hC
     have hC:=hC.pick3
     refine does_append (enc:=enc_api_Node) (e:=68) (u:=68) (t:=23) (t2:=23) (sz:=6) (cp:=y10) (A:=y9) (bytes:=56) (xs:=a0v.c) (ys:=([a1] : List api_Node)) (s:=(.tmp 21)) (x:=(.tmp 23)) (xv:=.slice (some ⟨b29,0,none⟩) ([a1] : List api_Node).length 1) (info:=infoOf Tryz.prog 68) (z:=zeroOf Tryz.prog 68) (ycs:=([a1] : List api_Node).flatMap enc_api_Node) hC (by kernel_rfl) (by kernel_rfl) (by kernel_rfl) (by kernel_rfl) (.inl (by kernel_rfl)) (by kernel_rfl) (by kernel_rfl) (by kernel_rfl) (by kernel_rfl) (by kernel_rfl) (by omega) len_api_Node one_api_Node (src_row (hC.row 1 rfl) (by omega) len_api_Node) rfl g31 (by omega) ?_
     intro A33 c34 w2 h2
     refine ⟨some (b29,some ((A33,c34),none)),rfl,?_,.inr rfl,h2⟩
     intro j hj
     match j,hj with
     | 0,_ => exact rfl
     | 1,_ => exact rfl
     | 2,_ => exact rfl
     | 3,_ => exact rfl
     | 4,_ => exact rfl
     | 5,_ => exact rfl
     | 6,_ => exact rfl
     | 7,hj => exact absurd hj (by decide)
     | 8,hj => exact absurd hj (by decide)
     | 9,hj => exact absurd hj (by decide)
     | 10,hj => exact absurd hj (by decide)
     | j + 11,_ => exact rfl
    ·exact absurd hr (Nat.ne_of_beq_eq_false rfl)
    ·exact absurd hr (Nat.ne_of_beq_eq_false rfl)
   | 2,_ =>
    rcases st with _ | ⟨b29,_ | ⟨x36,_ | x37⟩⟩
    ·exact absurd hr (Nat.ne_of_beq_eq_false rfl)
    ·exact absurd hr (Nat.ne_of_beq_eq_false rfl)
    ·dsimp only at hC
     have hC:=hC.pick3
     refine dS 23 (.tmp 26) (.tmp 24) 10 (.slice x36.1 (a0v.c ++ ([a1] : List api_Node)).length x36.2) [.slice x36.1 (a0v.c ++ ([a1] : List api_Node)).length x36.2] ([.slice y7 a0v.l.length y8,.int .i64 a0v.at_] ++ (enc_api_Token a0v.last) ++ [.int .i64 a0v.depth,.slice x36.1 (a0v.c ++ ([a1] : List api_Node)).length x36.2]) hC ?_
     intro w2 h2
     refine ⟨some (b29,some (x36,some ())),rfl,?_,.inl rfl,h2⟩
     intro j hj
     match j,hj with
     | 0,_ => exact rfl
     | 1,_ => exact rfl
     | 2,_ => exact rfl
     | 3,_ => exact rfl
     | 4,_ => exact rfl
     | 5,_ => exact rfl
     | 6,_ => exact rfl
     | 7,_ => exact rfl
     | 8,_ => exact rfl
     | 9,_ => exact rfl
     | 10,hj => exact absurd hj (by decide)
     | j + 11,_ => exact rfl
    ·exact absurd hr (Nat.ne_of_beq_eq_false rfl)
   | k + 3,hk => exact absurd hk (by simp)
  intro st41 w38 hS39 hr40
  rcases st41 with _ | ⟨b29,_ | ⟨x36,_ | x37⟩⟩
  ·exact absurd hr40 (nle rfl)
  ·exact absurd hr40 (nle rfl)
  ·exact absurd hr40 (nle rfl)
  replace hS39 : St w0 Z (xblk ba0 114 ([.slice y7 a0v.l.length y8,.int .i64 a0v.at_] ++ (enc_api_Token a0v.last) ++ [.int .i64 a0v.depth,.slice x36.1 (a0v.c ++ ([a1] : List api_Node)).length x36.2])::xrow x36.1 x36.2 68 6 ((a0v.c ++ ([a1] : List api_Node)).flatMap enc_api_Node)::xrow (some ⟨b29,0,none⟩) 1 68 6 (([a1] : List api_Node).flatMap enc_api_Node)::xblk b1 68 (enc_api_Node a1)::fs) w38:=hS39
  refine sR 5 [iR (cd113 [1,1,1,0]) 3 4,.code (cd113 [1,1,1,1])] ?_
  refine rL1 23 (.tmp 29) 10 (hS39.blk 0 rfl) ?_
  refine sR 4 [.code (cd113 [1,1,1,1])] ?_
  have hS42:=hS39.pick2
  have hS43:=hS42.drop
  have hS44:=hS43.pick2
  have hS45:=hS44.drop
  have hS46:=hS45.pick1
  refine rR (.int .i64 (IntKind.i64.wrap (((a0v.c ++ ([a1] : List api_Node)).length : Int) - 1))) Tryz.func113 ?_
  cases Option.some.inj hp32
  exact hR _ _ (panq_r ⟨x36.1,x36.2,rfl,hS46⟩)

noncomputable def cd145 (p : List Nat) : Code := sub (bodyOf Tryz.f145) p
def cond_reader__opens.f (a0v : cond_reader) : Option (Sum PErr (Int × api_Token × Int)) :=
  (if (a0v.depth == 64) = true then (if 0 ≤ a0v.at_ ∧ a0v.at_ < (a0v.l.length : Int) then (cond_reader__fail.f a0v (gt a0v.l a0v.at_) 2 >>= (fun | .inl pe15 => some (.inl pe15) | .inr _ => none)) else none) else (cond_reader__take.f (⟨a0v.l,a0v.at_,a0v.last,(IntKind.i64.wrap (a0v.depth + 1)),a0v.c⟩ : cond_reader) >>= (fun (t29,t30,t31) => some (.inr (t30,t31,(IntKind.i64.wrap (a0v.depth + 1)))))))
theorem cond_reader__opens.ok {a0v : cond_reader} {ba0 : Nat} {y7 : Option Addr} {y8 : Nat} {y9 : Option Addr} {y10 : Nat} {qr : Sum PErr (Int × api_Token × Int)} (hp0 : cond_reader__opens.f a0v = some qr) (hS0 : St w0 Z (xblk ba0 114 ([.slice y7 a0v.l.length y8,.int .i64 a0v.at_] ++ (enc_api_Token a0v.last) ++ [.int .i64 a0v.depth,.slice y9 a0v.c.length y10])::fs) w) (y11 : SlZ (flat enc_api_Token) 7 Z y7 y8 a0v.l) (y12 : SlZ (flat enc_api_Node) 6 Z y9 y10 a0v.c) :
    Calls Tryz.prog 145 #[.pointer (some ⟨ba0,0,none⟩)] w (fun e w' => PanQ (fun p => ∃ (v : Value) (Z' : Zm),Zm.Le Z Z' ∧ e = .panicked [{ v:=v,recovered:=false }] ∧ St w0 Z' fs w' ∧ RepE 37 78 Z' v p) (fun q => e = .returned (.tuple #[]) ∧ St w0 Z (xblk ba0 114 ([.slice y7 a0v.l.length y8,.int .i64 q.1] ++ (enc_api_Token q.2.1) ++ [.int .i64 q.2.2,.slice y9 a0v.c.length y10])::fs) w') qr):=by
  refine calls_abs ?_; intro R hR
  unfold cond_reader__opens.f at hp0
  refine calls_of_runs (fn:=Tryz.f145) (c:=cd145 []) Tryz.func145 (by kernel_rfl) (al:=[.pointer (some ⟨ba0,0,none⟩)]) rfl (n:=27) rfl ?_
  refine sR 6 [.inRegion (opsOf (cd145 [0,0])) [3,4],.code (cd145 [0,1]),.code (cd145 [1])] ?_
  refine rL1 3 (.tmp 4) 9 (hS0.blk 0 rfl) ?_
  refine sI 1 [.inRegion (opsOf (cd145 [0,0])) [],.code (cd145 [0,1]),.code (cd145 [1])] 6 hp0 (fun hp3 => ?_) fun hp26 => ?_
  ·refine sR 2 [.code (cd145 [0,1,0]),.code (cd145 [1])] ?_
   refine r_drawn3 (C:=St w0 Z (xblk ba0 114 ([.slice y7 a0v.l.length y8,.int .i64 a0v.at_] ++ (enc_api_Token a0v.last) ++ [.int .i64 a0v.depth,.slice y9 a0v.c.length y10])::fs)) (c:=(cd145 [0,1,0])) (id:=1) (by kernel_rfl) (by kernel_rfl) 11 (Nat.le_of_ble_eq_true (by kernel_rfl)) (by kernel_rfl) (by kernel_rfl) (by kernel_rfl) (is:=[0,1,2,3,4,5,6,7,8,9,10]) (rest:=[11]) (by kernel_rfl) (by kernel_rfl) hS0.drew ?_
   refine qR 4 (rg 4 7) ?_
   refine qL1 53 (.tmp 10) 0 (fun w hC => (hC.blk 0 rfl)) ?_
   refine qR 3 [8,9,10] ?_
   refine qL1 3 (.tmp 14) 1 (fun w hC => (hC.blk 0 rfl)) ?_
   obtain ⟨g4,hp5⟩:=ite_some hp3
   obtain ⟨b6,p7,hA8,hc9⟩:=y11.atF g4.1 g4.2
   refine q_indexAddr (c:=(hd (cd145 [0,1,0]) 11)) (i:=9) (d:=(some 16)) (ty:=0) (t:=53) (e:=75) (n:=a0v.l.length) (cp:=y8) (sz:=7) (kk:=.i64) (x:=(.tmp 11)) (y:=(.tmp 15)) (b:=b6) (o':=p7) (j:=a0v.at_) (by kernel_rfl) (by kernel_rfl) (slv (by kernel_rfl) hA8) (by kernel_rfl) (by kernel_rfl) (by kernel_rfl) g4.1 g4.2 ?_
   refine qLa 75 (.tmp 16) (fun w hC => (hc9.cells hC)) ?_
   refine Qs.nil ?_
   intro w10 hS11
   obtain ⟨q14,hr12,hp13⟩:=bind_some' hp5
   refine rCB (cond_reader__fail.ok hr12 hS11 y11 y12) ?_
   intro e18 w17 hQ16
   rcases q14 with pe15 | _
   all_goals try dsimp only at hp13
   ·obtain ⟨v19,Z20,hz21,rfl,hS22,he23⟩:=hQ16
    refine .inr ⟨_,rfl,?_⟩
    refine raised_fx Tryz.func145 ?_
    cases Option.some.inj hp13
    exact hR _ _ (panq_l ⟨v19,Z20,hz21,rfl,hS22,he23⟩)
   cases hp13
  refine sR 8 [iR (cd145 [1,0]) 3 5,.code (cd145 [1,1])] ?_
  refine rL1 3 (.tmp 21) 9 (hS0.blk 0 rfl) ?_
  refine sR 3 [.inRegion (opsOf (cd145 [1,0])) [7],.code (cd145 [1,1])] ?_
  refine rS 3 (.tmp 25) (.tmp 23) 9 (.int .i64 (IntKind.i64.wrap (a0v.depth + 1))) [.int .i64 (IntKind.i64.wrap (a0v.depth + 1))] ([.slice y7 a0v.l.length y8,.int .i64 a0v.at_] ++ (enc_api_Token a0v.last) ++ [.int .i64 (IntKind.i64.wrap (a0v.depth + 1)),.slice y9 a0v.c.length y10]) hS0 ?_
  intro w27 hS28
  refine sR 3 [.inRegion (opsOf (cd145 [1,1])) [1]] ?_
  obtain ⟨⟨t29,t30,t31⟩,hr32,hp33⟩:=bind_some' hp26
  try dsimp only at hp33
  refine rC (cond_reader__take.ok hr32 hS28 y11 y12) ?_
  rintro _ w34 ⟨rfl,hS35⟩
  refine ⟨_,rfl,?_⟩
  refine sR 1 [] ?_
  refine runs_end (fn:=Tryz.f145) (v:=.tuple #[]) Tryz.func145 (by kernel_rfl) ?_
  cases Option.some.inj hp33
  exact hR _ _ (panq_r ⟨rfl,hS35⟩)

noncomputable def cd169 (p : List Nat) : Code := sub (bodyOf Tryz.f169) p
abbrev p169_5:=cd169 [1,0,1,0,0]
def cond_reader__next.f (a0v : cond_reader) : Option (api_Token × Bool) :=
  (if (decide (a0v.at_ < (a0v.l.length : Int))) = true then (if 0 ≤ a0v.at_ ∧ a0v.at_ < (a0v.l.length : Int) then some (((gt a0v.l a0v.at_),true)) else none) else some (((⟨0,(⟨#[]⟩ : ByteArray),0,0,0,0,0⟩ : api_Token),false)))
theorem cond_reader__next.ok {a0v : cond_reader} {ba0 : Nat} {y7 : Option Addr} {y8 : Nat} {y9 : Option Addr} {y10 : Nat} {q0 : api_Token} {q1 : Bool} (hp0 : cond_reader__next.f a0v = some (q0,q1)) (hS0 : St w0 Z (xblk ba0 114 ([.slice y7 a0v.l.length y8,.int .i64 a0v.at_] ++ (enc_api_Token a0v.last) ++ [.int .i64 a0v.depth,.slice y9 a0v.c.length y10])::fs) w) (y11 : SlZ (flat enc_api_Token) 7 Z y7 y8 a0v.l) (y12 : SlZ (flat enc_api_Node) 6 Z y9 y10 a0v.c) :
    Calls Tryz.prog 169 #[.pointer (some ⟨ba0,0,none⟩)] w (fun e w' => e = .returned (.tuple #[.agg (enc_api_Token q0).toArray,.bool q1]) ∧ St w0 Z (xblk ba0 114 ([.slice y7 a0v.l.length y8,.int .i64 a0v.at_] ++ (enc_api_Token a0v.last) ++ [.int .i64 a0v.depth,.slice y9 a0v.c.length y10])::fs) w'):=by
  refine calls_abs ?_; intro R hR
  unfold cond_reader__next.f at hp0
  refine calls_of_runs (fn:=Tryz.f169) (c:=cd169 []) Tryz.func169 (by kernel_rfl) (al:=[.pointer (some ⟨ba0,0,none⟩)]) rfl (n:=24) rfl ?_
  refine sR 2 [.inRegion (opsOf (cd169 [0])) [0,1],.code (cd169 [1])] ?_
  refine rA 75 (.agg (enc_api_Token (⟨0,(⟨#[]⟩ : ByteArray),0,0,0,0,0⟩ : api_Token)).toArray) (enc_api_Token (⟨0,(⟨#[]⟩ : ByteArray),0,0,0,0,0⟩ : api_Token)) hS0 ?_
  intro b1 w2 hS3
  refine sR 4 [.code (cd169 [1,0,0]),.code (cd169 [1,0,1]),.code (cd169 [1,1])] ?_
  refine r_quiet hS3 (c:=(cd169 [1,0,0])) (id:=1) (by kernel_rfl) (by kernel_rfl) (by kernel_rfl) (is:=[0,1,2,3,4,5,6,7,8,9]) (by kernel_rfl) ?_
  refine qR 3 (rg 3 7) ?_
  refine qL1 3 (.tmp 6) 1 (fun w hC => (hC.blk 1 rfl)) ?_
  refine qR 3 [7,8,9] ?_
  refine qL1 53 (.tmp 10) 0 (fun w hC => (hC.blk 1 rfl)) ?_
  refine qI 2 [] 13 hp0 (fun hp7 => ?_) fun hp22 => ?_
  ·refine Qs.nil ?_
   intro w8 hS9
   refine sR 2 [.code p169_5,.code (cd169 [1,0,1,0,1]),.code (cd169 [1,1])] ?_
   refine r_drawn3 (C:=St w0 Z (xblk b1 75 (enc_api_Token (⟨0,(⟨#[]⟩ : ByteArray),0,0,0,0,0⟩ : api_Token))::xblk ba0 114 ([.slice y7 a0v.l.length y8,.int .i64 a0v.at_] ++ (enc_api_Token a0v.last) ++ [.int .i64 a0v.depth,.slice y9 a0v.c.length y10])::fs)) (c:=p169_5) (id:=2) (by kernel_rfl) (by kernel_rfl) 10 (Nat.le_of_ble_eq_true (by kernel_rfl)) (by kernel_rfl) (by kernel_rfl) (by kernel_rfl) (is:=[0,1,2,3,4,5,6,7,8,9]) (rest:=[10,11]) (by kernel_rfl) (by kernel_rfl) hS9.drew ?_
   refine qR 3 (rg 3 7) ?_
   refine qL1 53 (.tmp 16) 0 (fun w hC => (hC.blk 1 rfl)) ?_
   refine qR 3 [7,8,9] ?_
   refine qL1 3 (.tmp 20) 1 (fun w hC => (hC.blk 1 rfl)) ?_
   obtain ⟨g10,hp11⟩:=ite_some hp7
   obtain ⟨b12,p13,hA14,hc15⟩:=y11.atF g10.1 g10.2
   refine q_indexAddr (c:=(hd p169_5 10)) (i:=8) (d:=(some 22)) (ty:=0) (t:=53) (e:=75) (n:=a0v.l.length) (cp:=y8) (sz:=7) (kk:=.i64) (x:=(.tmp 17)) (y:=(.tmp 21)) (b:=b12) (o':=p13) (j:=a0v.at_) (by kernel_rfl) (by kernel_rfl) (slv (by kernel_rfl) hA14) (by kernel_rfl) (by kernel_rfl) (by kernel_rfl) g10.1 g10.2 ?_
   refine qLa 75 (.tmp 22) (fun w hC => (hc15.cells hC)) ?_
   refine Qs.nil ?_
   intro w16 hS17
   refine rSA 75 (.tmp 2) (.tmp 23) (enc_api_Token (gt a0v.l a0v.at_)) hS17 (one_api_Token _) ?_
   intro w18 hS19
   refine sR 2 [.code (cd169 [1,0,1,0,1]),.code (cd169 [1,1])] ?_
   have hS20:=hS19.drop
   refine rRc (.tuple #[.agg (enc_api_Token (gt a0v.l a0v.at_)).toArray,.bool true]) (.ca 2 75 (hS19.blk 0 rfl) (.tm 3 .nil)) Tryz.func169 ?_
   cases Option.some.inj hp11
   exact hR _ _ ⟨rfl,hS20⟩
  refine Qs.nil ?_
  intro w23 hS24
  refine sR 5 [.inRegion (opsOf (cd169 [1,1,0])) [1,2],.code (cd169 [1,1,1])] ?_
  refine rSA 75 (.tmp 2) (.tmp 24) (enc_api_Token (⟨0,(⟨#[]⟩ : ByteArray),0,0,0,0,0⟩ : api_Token)) hS24 (one_api_Token _) ?_
  intro w25 hS26
  refine sR 2 [.code (cd169 [1,1,1])] ?_
  have hS27:=hS26.drop
  refine rRc (.tuple #[.agg (enc_api_Token (⟨0,(⟨#[]⟩ : ByteArray),0,0,0,0,0⟩ : api_Token)).toArray,.bool false]) (.ca 2 75 (hS26.blk 0 rfl) (.tm 3 .nil)) Tryz.func169 ?_
  cases Option.some.inj hp22
  exact hR _ _ ⟨rfl,hS27⟩

noncomputable def cd167 (p : List Nat) : Code := sub (bodyOf Tryz.f167) p
abbrev p167_5:=cd167 [1,0,1,0]
abbrev td151:List Item:=[.code (cd167 [1,1])]
abbrev td152:List Item:=.code (cd167 [1,0,1])::td151
def cond_reader__syntax.f (a0v : cond_reader) : Option (Sum PErr Unit) :=
  (cond_reader__next.f a0v >>= (fun (t1,t2) => (((if (!t2) = true then (if (decide ((a0v.l.length : Int) > 0)) = true then (if 0 ≤ (IntKind.i64.wrap ((a0v.l.length : Int) - 1)) ∧ (IntKind.i64.wrap ((a0v.l.length : Int) - 1)) < (a0v.l.length : Int) then some ((gt a0v.l (IntKind.i64.wrap ((a0v.l.length : Int) - 1)))) else none) else some (t1)) else some (t1)) : Option api_Token) >>= (fun t18 => (cond_reader__fail.f a0v t18 70 >>= (fun | .inl pe27 => some (.inl pe27) | .inr _ => none))))))
theorem cond_reader__syntax.ok {a0v : cond_reader} {ba0 : Nat} {y7 : Option Addr} {y8 : Nat} {y9 : Option Addr} {y10 : Nat} {qr : Sum PErr Unit} (hp0 : cond_reader__syntax.f a0v = some qr) (hS0 : St w0 Z (xblk ba0 114 ([.slice y7 a0v.l.length y8,.int .i64 a0v.at_] ++ (enc_api_Token a0v.last) ++ [.int .i64 a0v.depth,.slice y9 a0v.c.length y10])::fs) w) (y11 : SlZ (flat enc_api_Token) 7 Z y7 y8 a0v.l) (y12 : SlZ (flat enc_api_Node) 6 Z y9 y10 a0v.c) :
    Calls Tryz.prog 167 #[.pointer (some ⟨ba0,0,none⟩)] w (fun e w' => PanQ (fun p => ∃ (v : Value) (Z' : Zm),Zm.Le Z Z' ∧ e = .panicked [{ v:=v,recovered:=false }] ∧ St w0 Z' fs w' ∧ RepE 37 78 Z' v p) (fun q => False) qr):=by
  refine calls_abs ?_; intro R hR
  unfold cond_reader__syntax.f at hp0
  refine calls_of_runs (fn:=Tryz.f167) (c:=cd167 []) Tryz.func167 (by kernel_rfl) (al:=[.pointer (some ⟨ba0,0,none⟩)]) rfl (n:=33) rfl ?_
  refine sR 3 [iR (cd167 [0]) 1 7,.code (cd167 [1])] ?_
  obtain ⟨⟨t1,t2⟩,hr3,hp4⟩:=bind_some' hp0
  try dsimp only at hp4
  refine rC (cond_reader__next.ok hr3 hS0 y11 y12) ?_
  rintro _ w7 ⟨rfl,hS8⟩
  refine ⟨_,rfl,?_⟩
  refine sR 3 [.inRegion (opsOf (cd167 [0])) [5,6,7],.code (cd167 [1])] ?_
  refine rA 75 (.agg (enc_api_Token (⟨0,(⟨#[]⟩ : ByteArray),0,0,0,0,0⟩ : api_Token)).toArray) (enc_api_Token (⟨0,(⟨#[]⟩ : ByteArray),0,0,0,0,0⟩ : api_Token)) hS8 ?_
  intro b9 w10 hS11
  refine rSA 75 (.tmp 2) (.tmp 7) (enc_api_Token t1) hS11 (one_api_Token _) ?_
  intro w13 hS14
  obtain ⟨v15,hv16,hp17⟩:=bind_some' hp4
  have J21 : ∀ (t18 : api_Token) (he23 : t18 = v15) (l22 : List Value) (w19 : World) (hS20 : St w0 Z (xblk ba0 114 ([.slice y7 a0v.l.length y8,.int .i64 a0v.at_] ++ (enc_api_Token a0v.last) ++ [.int .i64 a0v.depth,.slice y9 a0v.c.length y10])::xblk b9 75 (enc_api_Token t18)::fs) w19),Runs Tryz.prog (fx 167) td151 (fill (mk 34 [(0,.pointer (some ⟨ba0,0,none⟩)),(2,.pointer (some ⟨b9,0,none⟩))]) l22) w19 R:=by
   intro t18 he23 l22 w19 hS20
   subst he23
   try dsimp only at hp17
   refine sR 2 [.inRegion (opsOf (cd167 [1,1])) [1,2]] ?_
   refine rLa 75 (.tmp 2) (hS20.blk 1 rfl) ?_
   obtain ⟨q26,hr24,hp25⟩:=bind_some' hp17
   refine rCB (cond_reader__fail.ok hr24 hS20 y11 y12) ?_
   intro e30 w29 hQ28
   rcases q26 with pe27 | _
   all_goals try dsimp only at hp25
   ·obtain ⟨v31,Z32,hz33,rfl,hS34,he35⟩:=hQ28
    refine .inr ⟨_,rfl,?_⟩
    have hS37:=hS34.drop
    refine raised_fx Tryz.func167 ?_
    cases Option.some.inj hp25
    exact hR _ _ (panq_l ⟨v31,Z32,hz33,rfl,hS37,he35⟩)
   cases hp25
  refine sI 7 (iR (cd167 [1,0,0]) 2 8::td152) 10 hv16 (fun hp41 => ?_) fun hp58 => ?_
  ·refine sR 4 (iR (cd167 [1,0,0]) 6 4::td152) ?_
   refine rL1 53 (.tmp 14) 0 (hS14.blk 1 rfl) ?_
   refine sI 2 (.inRegion (opsOf (cd167 [1,0,0])) [9]::td152) 17 hp41 (fun hp44 => ?_) fun hp56 => ?_
   ·refine sR 3 (.code p167_5::td151) ?_
    refine r_drawn3 (C:=St w0 Z (xblk b9 75 (enc_api_Token t1)::xblk ba0 114 ([.slice y7 a0v.l.length y8,.int .i64 a0v.at_] ++ (enc_api_Token a0v.last) ++ [.int .i64 a0v.depth,.slice y9 a0v.c.length y10])::fs)) (c:=p167_5) (id:=2) (by kernel_rfl) (by kernel_rfl) 12 (Nat.le_of_ble_eq_true (by kernel_rfl)) (by kernel_rfl) (by kernel_rfl) (by kernel_rfl) (is:=[0,1,2,3,4,5,6,7,8,9,10,11]) (rest:=[12]) (by kernel_rfl) (by kernel_rfl) hS14.drew ?_
    refine qR 3 (rg 3 9) ?_
    refine qL1 53 (.tmp 21) 0 (fun w hC => (hC.blk 1 rfl)) ?_
    refine qR 3 (rg 7 5) ?_
    refine qL1 53 (.tmp 25) 0 (fun w hC => (hC.blk 1 rfl)) ?_
    refine qR 2 [10,11] ?_
    obtain ⟨g45,hp46⟩:=ite_some hp44
    obtain ⟨b47,p48,hA49,hc50⟩:=y11.atF g45.1 g45.2
    refine q_indexAddr (c:=(hd p167_5 12)) (i:=10) (d:=(some 29)) (ty:=0) (t:=53) (e:=75) (n:=a0v.l.length) (cp:=y8) (sz:=7) (kk:=.i64) (x:=(.tmp 22)) (y:=(.tmp 28)) (b:=b47) (o':=p48) (j:=(IntKind.i64.wrap ((a0v.l.length : Int) - 1))) (by kernel_rfl) (by kernel_rfl) (slv (by kernel_rfl) hA49) (by kernel_rfl) (by kernel_rfl) (by kernel_rfl) g45.1 g45.2 ?_
    refine qLa 75 (.tmp 29) (fun w hC => (hc50.cells hC)) ?_
    refine Qs.nil ?_
    intro w51 hS52
    refine rSA 75 (.tmp 2) (.tmp 30) (enc_api_Token (gt a0v.l (IntKind.i64.wrap ((a0v.l.length : Int) - 1)))) hS52 (one_api_Token _) ?_
    intro w53 hS54
    refine sR 1 td151 ?_
    have hS55:=hS54.pick1
    exact rF _ (J21 (gt a0v.l (IntKind.i64.wrap ((a0v.l.length : Int) - 1))) (Option.some.inj hp46) _ _ hS55)
   refine sR 4 td151 ?_
   have hS57:=hS14.pick1
   exact rF _ (J21 t1 (Option.some.inj hp56) _ _ hS57)
  refine sR 11 td151 ?_
  have hS59:=hS14.pick1
  exact rF _ (J21 t1 (Option.some.inj hp58) _ _ hS59)

noncomputable def cd88 (p : List Nat) : Code := sub (bodyOf Tryz.f88) p
abbrev p88_0:=cd88 [1,0]
abbrev td153:List Item:=[.code (cd88 [1,1])]
def lexis_Name.f (a0 : ByteArray) : Option Bool :=
  (if (!seq a0 (⟨#[]⟩ : ByteArray)) = true then (if (decide ((a0.size : Int) ≤ 64)) = true then (lexis_name.f a0 >>= (fun t7 => (if (t7 == (a0.size : Int)) = true then some (true) else some (false)))) else some (false)) else some (false))
theorem lexis_Name.ok {a0 : ByteArray} {q0 : Bool} (hp0 : lexis_Name.f a0 = some q0) (hS0 : St w0 Z (fs) w) :
    Calls Tryz.prog 88 #[.string a0] w (fun e w' => e = .returned (.bool q0) ∧ St w0 Z (fs) w'):=by
  refine calls_abs ?_; intro R hR
  unfold lexis_Name.f at hp0
  refine calls_of_runs (fn:=Tryz.f88) (c:=cd88 []) Tryz.func88 (by kernel_rfl) (al:=[.string a0]) rfl (n:=16) rfl ?_
  refine sI 8 (iR p88_0 2 13::td153) 4 hp0 (fun hp3 => ?_) fun hp20 => ?_
  ·refine sI 4 (iR p88_0 6 9::td153) 8 hp3 (fun hp6 => ?_) fun hp18 => ?_
   ·refine sR 3 (iR p88_0 9 6::td153) ?_
    obtain ⟨t7,hr8,hp9⟩:=bind_some' hp6
    refine rC (lexis_name.ok hr8 hS0) ?_
    rintro _ w10 ⟨rfl,hS11⟩
    refine ⟨_,rfl,?_⟩
    refine sI 3 (.inRegion (opsOf p88_0) [13,14]::td153) 15 hp9 (fun hp14 => ?_) fun hp16 => ?_
    ·refine sR 3 td153 ?_
     refine rR (.bool true) Tryz.func88 ?_
     cases Option.some.inj hp14
     exact hR _ _ ⟨rfl,hS11⟩
    refine sR 3 td153 ?_
    refine rR (.bool false) Tryz.func88 ?_
    cases Option.some.inj hp16
    exact hR _ _ ⟨rfl,hS11⟩
   refine sR 10 td153 ?_
   refine rR (.bool false) Tryz.func88 ?_
   cases Option.some.inj hp18
   exact hR _ _ ⟨rfl,hS0⟩
  refine sR 14 td153 ?_
  refine rR (.bool false) Tryz.func88 ?_
  cases Option.some.inj hp20
  exact hR _ _ ⟨rfl,hS0⟩

noncomputable def cd180 (p : List Nat) : Code := sub (bodyOf Tryz.f180) p
abbrev p180_2:=cd180 [1,1,0,0]
abbrev td154:List Item:=[.code (cd180 [1,1,1])]
abbrev td155:List Item:=.code (cd180 [1,1,0,1])::td154
abbrev td156:List Item:=.inRegion (opsOf (cd180 [1,1,0,1,0])) [1]::td154
def cond_reader__name.f (a0v : cond_reader) : Option (Sum PErr (ByteArray × Int × api_Token)) :=
  (cond_reader__next.f a0v >>= (fun (t1,t2) => (if (!t2) = true then (cond_reader__syntax.f a0v >>= (fun | .inl pe21 => some (.inl pe21) | .inr _ => none)) else (if (t1.Kind != 1) = true then (cond_reader__syntax.f a0v >>= (fun | .inl pe41 => some (.inl pe41) | .inr _ => none)) else (lexis_Name.f t1.Text >>= (fun t55 => (if (!t55) = true then (cond_reader__syntax.f a0v >>= (fun | .inl pe66 => some (.inl pe66) | .inr _ => none)) else (cond_reader__take.f a0v >>= (fun (t80,t81,t82) => some (.inr (t80.Text,t81,t82)))))))))))
theorem cond_reader__name.ok {a0v : cond_reader} {ba0 : Nat} {y7 : Option Addr} {y8 : Nat} {y9 : Option Addr} {y10 : Nat} {qr : Sum PErr (ByteArray × Int × api_Token)} (hp0 : cond_reader__name.f a0v = some qr) (hS0 : St w0 Z (xblk ba0 114 ([.slice y7 a0v.l.length y8,.int .i64 a0v.at_] ++ (enc_api_Token a0v.last) ++ [.int .i64 a0v.depth,.slice y9 a0v.c.length y10])::fs) w) (y11 : SlZ (flat enc_api_Token) 7 Z y7 y8 a0v.l) (y12 : SlZ (flat enc_api_Node) 6 Z y9 y10 a0v.c) :
    Calls Tryz.prog 180 #[.pointer (some ⟨ba0,0,none⟩)] w (fun e w' => PanQ (fun p => ∃ (v : Value) (Z' : Zm),Zm.Le Z Z' ∧ e = .panicked [{ v:=v,recovered:=false }] ∧ St w0 Z' fs w' ∧ RepE 37 78 Z' v p) (fun q => e = .returned (.string q.1) ∧ St w0 Z (xblk ba0 114 ([.slice y7 a0v.l.length y8,.int .i64 q.2.1] ++ (enc_api_Token q.2.2) ++ [.int .i64 a0v.depth,.slice y9 a0v.c.length y10])::fs) w') qr):=by
  refine calls_abs ?_; intro R hR
  unfold cond_reader__name.f at hp0
  refine calls_of_runs (fn:=Tryz.f180) (c:=cd180 []) Tryz.func180 (by kernel_rfl) (al:=[.pointer (some ⟨ba0,0,none⟩)]) rfl (n:=27) rfl ?_
  refine sR 7 [iR (cd180 [1,0]) 1 7,.code (cd180 [1,1])] ?_
  obtain ⟨⟨t1,t2⟩,hr3,hp4⟩:=bind_some' hp0
  try dsimp only at hp4
  refine rC (cond_reader__next.ok hr3 hS0 y11 y12) ?_
  rintro _ w7 ⟨rfl,hS8⟩
  refine ⟨_,rfl,?_⟩
  refine sR 3 [.inRegion (opsOf (cd180 [1,0])) [5,6,7],.code (cd180 [1,1])] ?_
  refine rA 75 (.agg (enc_api_Token (⟨0,(⟨#[]⟩ : ByteArray),0,0,0,0,0⟩ : api_Token)).toArray) (enc_api_Token (⟨0,(⟨#[]⟩ : ByteArray),0,0,0,0,0⟩ : api_Token)) hS8 ?_
  intro b9 w10 hS11
  refine rSA 75 (.tmp 3) (.tmp 8) (enc_api_Token t1) hS11 (one_api_Token _) ?_
  intro w13 hS14
  refine sI 7 (iR p180_2 2 11::td155) 11 hp4 (fun hp17 => ?_) fun hp34 => ?_
  ·refine sR 15 td156 ?_
   obtain ⟨q20,hr18,hp19⟩:=bind_some' hp17
   have hS25:=hS14.pick1
   refine rCB (cond_reader__syntax.ok hr18 hS25 y11 y12) ?_
   intro e24 w23 hQ22
   rcases q20 with pe21 | _
   all_goals try dsimp only at hp19
   ·obtain ⟨v26,Z27,hz28,rfl,hS29,he30⟩:=hQ22
    refine .inr ⟨_,rfl,?_⟩
    have hS32:=hS29.drop
    refine raised_fx Tryz.func180 ?_
    cases Option.some.inj hp19
    exact hR _ _ (panq_l ⟨v26,Z27,hz28,rfl,hS32,he30⟩)
   cases hp19
  refine sR 2 (iR p180_2 4 9::td155) ?_
  refine rL1 3 (.tmp 13) 0 (hS14.blk 0 rfl) ?_
  refine sI 1 (iR p180_2 6 7::td155) 15 hp34 (fun hp37 => ?_) fun hp54 => ?_
  ·refine sR 11 td156 ?_
   obtain ⟨q40,hr38,hp39⟩:=bind_some' hp37
   have hS45:=hS14.pick1
   refine rCB (cond_reader__syntax.ok hr38 hS45 y11 y12) ?_
   intro e44 w43 hQ42
   rcases q40 with pe41 | _
   all_goals try dsimp only at hp39
   ·obtain ⟨v46,Z47,hz48,rfl,hS49,he50⟩:=hQ42
    refine .inr ⟨_,rfl,?_⟩
    have hS52:=hS49.drop
    refine raised_fx Tryz.func180 ?_
    cases Option.some.inj hp39
    exact hR _ _ (panq_l ⟨v46,Z47,hz48,rfl,hS52,he50⟩)
   cases hp39
  refine sR 3 (iR p180_2 9 4::td155) ?_
  refine rL1 9 (.tmp 18) 1 (hS14.blk 0 rfl) ?_
  obtain ⟨t55,hr56,hp57⟩:=bind_some' hp54
  refine rC (lexis_Name.ok hr56 hS14) ?_
  rintro _ w58 ⟨rfl,hS59⟩
  refine ⟨_,rfl,?_⟩
  refine sI 1 (.inRegion (opsOf p180_2) [12]::td155) 21 hp57 (fun hp62 => ?_) fun hp79 => ?_
  ·refine sR 5 td156 ?_
   obtain ⟨q65,hr63,hp64⟩:=bind_some' hp62
   have hS70:=hS59.pick1
   refine rCB (cond_reader__syntax.ok hr63 hS70 y11 y12) ?_
   intro e69 w68 hQ67
   rcases q65 with pe66 | _
   all_goals try dsimp only at hp64
   ·obtain ⟨v71,Z72,hz73,rfl,hS74,he75⟩:=hQ67
    refine .inr ⟨_,rfl,?_⟩
    have hS77:=hS74.drop
    refine raised_fx Tryz.func180 ?_
    cases Option.some.inj hp64
    exact hR _ _ (panq_l ⟨v71,Z72,hz73,rfl,hS77,he75⟩)
   cases hp64
  refine sR 7 [.inRegion (opsOf (cd180 [1,1,1,0])) [1,2,3],.code (cd180 [1,1,1,1])] ?_
  obtain ⟨⟨t80,t81,t82⟩,hr83,hp84⟩:=bind_some' hp79
  try dsimp only at hp84
  have hS85:=hS59.pick1
  refine rC (cond_reader__take.ok hr83 hS85 y11 y12) ?_
  rintro _ w86 ⟨rfl,hS87⟩
  refine ⟨_,rfl,?_⟩
  refine sR 3 [.code (cd180 [1,1,1,1])] ?_
  have hS88:=hS87.pick1
  have hS89:=hS88.drop
  refine rR (.string t80.Text) Tryz.func180 ?_
  cases Option.some.inj hp84
  exact hR _ _ (panq_r ⟨rfl,hS89⟩)

noncomputable def cd146 (p : List Nat) : Code := sub (bodyOf Tryz.f146) p
def cond_reader__sign.f (a0v : cond_reader) (a1 : ByteArray) : Option (Sum PErr (Int × api_Token)) :=
  (cond_reader__sees.f a0v 0 4 a1 >>= (fun t1 => (if (!t1) = true then (cond_reader__syntax.f a0v >>= (fun | .inl pe14 => some (.inl pe14) | .inr _ => none)) else (cond_reader__take.f a0v >>= (fun (t26,t27,t28) => some (.inr (t27,t28)))))))
theorem cond_reader__sign.ok {a0v : cond_reader} {a1 : ByteArray} {ba0 : Nat} {y7 : Option Addr} {y8 : Nat} {y9 : Option Addr} {y10 : Nat} {qr : Sum PErr (Int × api_Token)} (hp0 : cond_reader__sign.f a0v a1 = some qr) (hS0 : St w0 Z (xblk ba0 114 ([.slice y7 a0v.l.length y8,.int .i64 a0v.at_] ++ (enc_api_Token a0v.last) ++ [.int .i64 a0v.depth,.slice y9 a0v.c.length y10])::fs) w) (y11 : SlZ (flat enc_api_Token) 7 Z y7 y8 a0v.l) (y12 : SlZ (flat enc_api_Node) 6 Z y9 y10 a0v.c) :
    Calls Tryz.prog 146 #[.pointer (some ⟨ba0,0,none⟩),.string a1] w (fun e w' => PanQ (fun p => ∃ (v : Value) (Z' : Zm),Zm.Le Z Z' ∧ e = .panicked [{ v:=v,recovered:=false }] ∧ St w0 Z' fs w' ∧ RepE 37 78 Z' v p) (fun q => e = .returned (.tuple #[]) ∧ St w0 Z (xblk ba0 114 ([.slice y7 a0v.l.length y8,.int .i64 q.1] ++ (enc_api_Token q.2) ++ [.int .i64 a0v.depth,.slice y9 a0v.c.length y10])::fs) w') qr):=by
  refine calls_abs ?_; intro R hR
  unfold cond_reader__sign.f at hp0
  refine calls_of_runs (fn:=Tryz.f146) (c:=cd146 []) Tryz.func146 (by kernel_rfl) (al:=[.pointer (some ⟨ba0,0,none⟩),.string a1]) rfl (n:=10) rfl ?_
  refine sR 5 [.inRegion (opsOf (cd146 [0,0])) [2,3],.code (cd146 [0,1]),.code (cd146 [1])] ?_
  obtain ⟨t1,hr2,hp3⟩:=bind_some' hp0
  refine rC (cond_reader__sees.ok hr2 hS0 y11 y12) ?_
  rintro _ w6 ⟨rfl,hS7⟩
  refine ⟨_,rfl,?_⟩
  refine sI 1 [.inRegion (opsOf (cd146 [0,0])) [],.code (cd146 [0,1]),.code (cd146 [1])] 7 hp3 (fun hp10 => ?_) fun hp25 => ?_
  ·refine sR 4 [.inRegion (opsOf (cd146 [0,1,0])) [1],.code (cd146 [1])] ?_
   obtain ⟨q13,hr11,hp12⟩:=bind_some' hp10
   refine rCB (cond_reader__syntax.ok hr11 hS7 y11 y12) ?_
   intro e17 w16 hQ15
   rcases q13 with pe14 | _
   all_goals try dsimp only at hp12
   ·obtain ⟨v18,Z19,hz20,rfl,hS21,he22⟩:=hQ15
    refine .inr ⟨_,rfl,?_⟩
    refine raised_fx Tryz.func146 ?_
    cases Option.some.inj hp12
    exact hR _ _ (panq_l ⟨v18,Z19,hz20,rfl,hS21,he22⟩)
   cases hp12
  refine sR 5 [.inRegion (opsOf (cd146 [1])) [1]] ?_
  obtain ⟨⟨t26,t27,t28⟩,hr29,hp30⟩:=bind_some' hp25
  try dsimp only at hp30
  refine rC (cond_reader__take.ok hr29 hS7 y11 y12) ?_
  rintro _ w31 ⟨rfl,hS32⟩
  refine ⟨_,rfl,?_⟩
  refine sR 1 [] ?_
  refine runs_end (fn:=Tryz.f146) (v:=.tuple #[]) Tryz.func146 (by kernel_rfl) ?_
  cases Option.some.inj hp30
  exact hR _ _ (panq_r ⟨rfl,hS32⟩)

noncomputable def cd181 (p : List Nat) : Code := sub (bodyOf Tryz.f181) p
abbrev p181_0:=cd181 [1,0,0]
abbrev td157:List Item:=[.code (cd181 [1,1])]
abbrev td158:List Item:=.code (cd181 [1,0,1])::td157
abbrev td159:List Item:=.code (cd181 [1,0,1,0,1])::td157
def cond_thread.f (a0 : ByteArray) : Option (Int × Bool) :=
  (if (seq a0 (⟨#[]⟩ : ByteArray)) = true then some ((0,false)) else (if (decide ((a0.size : Int) > 4)) = true then some ((0,false)) else (strings_Trim.f a0 (⟨#[48,49,50,51,52,53,54,55,56,57]⟩ : ByteArray) >>= (fun t11 => (if (!seq t11 (⟨#[]⟩ : ByteArray)) = true then some ((0,false)) else (strconv_Atoi.f a0 >>= (fun t21 => some ((t21,true)))))))))
theorem cond_thread.ok {a0 : ByteArray} {q0 : Int} {q1 : Bool} (hp0 : cond_thread.f a0 = some (q0,q1)) (hS0 : St w0 Z (fs) w) (hE : Env Z) :
    Calls Tryz.prog 181 #[.string a0] w (fun e w' => e = .returned (.tuple #[.int .i64 q0,.bool q1]) ∧ St w0 Z (fs) w'):=by
  refine calls_abs ?_; intro R hR
  unfold cond_thread.f at hp0
  refine calls_of_runs (fn:=Tryz.f181) (c:=cd181 []) Tryz.func181 (by kernel_rfl) (al:=[.string a0]) rfl (n:=23) rfl ?_
  refine sI 10 (iR p181_0 2 10::td158) 7 hp0 (fun hp3 => ?_) fun hp5 => ?_
  ·refine sR 17 td159 ?_
   refine rR (.tuple #[.int .i64 0,.bool false]) Tryz.func181 ?_
   cases Option.some.inj hp3
   exact hR _ _ ⟨rfl,hS0⟩
  refine sI 4 (iR p181_0 6 6::td158) 11 hp5 (fun hp8 => ?_) fun hp10 => ?_
  ·refine sR 13 td159 ?_
   refine rR (.tuple #[.int .i64 0,.bool false]) Tryz.func181 ?_
   cases Option.some.inj hp8
   exact hR _ _ ⟨rfl,hS0⟩
  refine sR 3 (.inRegion (opsOf p181_0) [9,10,11]::td158) ?_
  obtain ⟨t11,hr12,hp13⟩:=bind_some' hp10
  refine rC (strings_Trim.ok a0 (⟨#[48,49,50,51,52,53,54,55,56,57]⟩ : ByteArray) hS0 hE hr12) ?_
  rintro _ w14 ⟨rfl,hS15⟩
  refine ⟨_,rfl,?_⟩
  refine sI 1 (.inRegion (opsOf p181_0) [11]::td158) 16 hp13 (fun hp18 => ?_) fun hp20 => ?_
  ·refine sR 8 td159 ?_
   refine rR (.tuple #[.int .i64 0,.bool false]) Tryz.func181 ?_
   cases Option.some.inj hp18
   exact hR _ _ ⟨rfl,hS15⟩
  refine sR 7 [iR (cd181 [1,1,0]) 1 6,.code (cd181 [1,1,1])] ?_
  obtain ⟨t21,hr22,hp23⟩:=bind_some' hp20
  refine rC (strconv_Atoi.ok a0 hS15 hE hr22) ?_
  rintro _ w24 ⟨rfl,hS25⟩
  refine ⟨_,rfl,?_⟩
  refine sR 12 [.code (cd181 [1,1,1,1])] ?_
  refine rR (.tuple #[.int .i64 t21,.bool true]) Tryz.func181 ?_
  cases Option.some.inj hp23
  exact hR _ _ ⟨rfl,hS25⟩

noncomputable def cd168 (p : List Nat) : Code := sub (bodyOf Tryz.f168) p
abbrev p168_8:=cd168 [1,1,0,1,0]
abbrev p168_19:=cd168 [1,1,0,1,1,0,1,1,0,1,1,0]
abbrev td160:List Item:=[.code (cd168 [1,1])]
abbrev td161:List Item:=[.code (cd168 [1,1,1])]
abbrev td162:List Item:=.code (cd168 [1,1,0,1,1])::td161
abbrev td163:List Item:=.code (cd168 [1,1,0,1,1,0,1,1,0,1,1,1])::td161
def cond_reader__ref.f (a0v : cond_reader) : Option (Sum PErr (api_Ref × Int × api_Token)) :=
  (cond_reader__sees.f a0v 0 4 (⟨#[91]⟩ : ByteArray) >>= (fun t5 => (if t5 = true then (cond_reader__take.f a0v >>= (fun (t133,t134,t135) => (cond_reader__name.f (⟨a0v.l,t134,t135,a0v.depth,a0v.c⟩ : cond_reader) >>= (fun | .inl pe146 => some (.inl pe146) | .inr (t140,t141,t142) => (cond_reader__sign.f (⟨a0v.l,t141,t142,a0v.depth,a0v.c⟩ : cond_reader) (⟨#[93]⟩ : ByteArray) >>= (fun | .inl pe164 => some (.inl pe164) | .inr (t159,t160) => some (.inr ((⟨(-1),t140⟩ : api_Ref),t159,t160)))))))) else (cond_reader__next.f a0v >>= (fun (t14,t15) => (((if t15 = true then (if (t14.Kind == 2) = true then (cond_thread.f t14.Text >>= (fun (t67,t68) => (if t68 = true then (cond_reader__take.f a0v >>= (fun (t76,t77,t78) => (cond_reader__sign.f (⟨a0v.l,t77,t78,a0v.depth,a0v.c⟩ : cond_reader) (⟨#[58]⟩ : ByteArray) >>= (fun | .inl pe89 => some (.inr (.inl pe89)) | .inr (t84,t85) => (cond_reader__name.f (⟨a0v.l,t84,t85,a0v.depth,a0v.c⟩ : cond_reader) >>= (fun | .inl pe109 => some (.inr (.inl pe109)) | .inr (t103,t104,t105) => some (.inr (.inr ((⟨t67,t103⟩ : api_Ref),t104,t105))))))))) else some (.inl ())))) else some (.inl ())) else some (.inl ())) : Option (Sum Unit (Sum PErr (api_Ref × Int × api_Token)))) >>= (fun | .inl () => (cond_reader__name.f a0v >>= (fun | .inl pe43 => some (.inl pe43) | .inr (t37,t38,t39) => some (.inr ((⟨(-1),t37⟩ : api_Ref),t38,t39)))) | .inr e => some e)))))))
theorem cond_reader__ref.ok {a0v : cond_reader} {ba0 : Nat} {y7 : Option Addr} {y8 : Nat} {y9 : Option Addr} {y10 : Nat} {qr : Sum PErr (api_Ref × Int × api_Token)} (hp0 : cond_reader__ref.f a0v = some qr) (hS0 : St w0 Z (xblk ba0 114 ([.slice y7 a0v.l.length y8,.int .i64 a0v.at_] ++ (enc_api_Token a0v.last) ++ [.int .i64 a0v.depth,.slice y9 a0v.c.length y10])::fs) w) (y11 : SlZ (flat enc_api_Token) 7 Z y7 y8 a0v.l) (y12 : SlZ (flat enc_api_Node) 6 Z y9 y10 a0v.c) (hE : Env Z) :
    Calls Tryz.prog 168 #[.pointer (some ⟨ba0,0,none⟩)] w (fun e w' => PanQ (fun p => ∃ (v : Value) (Z' : Zm),Zm.Le Z Z' ∧ e = .panicked [{ v:=v,recovered:=false }] ∧ St w0 Z' fs w' ∧ RepE 37 78 Z' v p) (fun q => e = .returned (.agg (enc_api_Ref q.1).toArray) ∧ St w0 Z (xblk ba0 114 ([.slice y7 a0v.l.length y8,.int .i64 q.2.1] ++ (enc_api_Token q.2.2) ++ [.int .i64 a0v.depth,.slice y9 a0v.c.length y10])::fs) w') qr):=by
  refine calls_abs ?_; intro R hR
  unfold cond_reader__ref.f at hp0
  refine calls_of_runs (fn:=Tryz.f168) (c:=cd168 []) Tryz.func168 (by kernel_rfl) (al:=[.pointer (some ⟨ba0,0,none⟩)]) rfl (n:=46) rfl ?_
  refine sR 2 [.inRegion (opsOf (cd168 [0])) [0],.code (cd168 [1])] ?_
  refine rA 66 (.agg (enc_api_Ref (⟨0,(⟨#[]⟩ : ByteArray)⟩ : api_Ref)).toArray) (enc_api_Ref (⟨0,(⟨#[]⟩ : ByteArray)⟩ : api_Ref)) hS0 ?_
  intro b1 w2 hS3
  refine sR 5 (.inRegion (opsOf (cd168 [1,0,0])) [1]::.code (cd168 [1,0,1])::td160) ?_
  obtain ⟨t5,hr6,hp7⟩:=bind_some' hp0
  have hS10:=hS3.pick1
  refine rC (cond_reader__sees.ok hr6 hS10 y11 y12) ?_
  rintro _ w11 ⟨rfl,hS12⟩
  refine ⟨_,rfl,?_⟩
  refine sR 1 (.code (cd168 [1,0,1])::td160) ?_
  cases t5
  ·have hp13:=ite_f hp7 rfl
   refine sR 6 (iR (cd168 [1,1,0,0]) 1 7::.code (cd168 [1,1,0,1])::td161) ?_
   obtain ⟨⟨t14,t15⟩,hr16,hp17⟩:=bind_some' hp13
   try dsimp only at hp17
   refine rC (cond_reader__next.ok hr16 hS12 y11 y12) ?_
   rintro _ w20 ⟨rfl,hS21⟩
   refine ⟨_,rfl,?_⟩
   refine sR 3 (.inRegion (opsOf (cd168 [1,1,0,0])) [5,6,7]::.code (cd168 [1,1,0,1])::td161) ?_
   refine rA 75 (.agg (enc_api_Token (⟨0,(⟨#[]⟩ : ByteArray),0,0,0,0,0⟩ : api_Token)).toArray) (enc_api_Token (⟨0,(⟨#[]⟩ : ByteArray),0,0,0,0,0⟩ : api_Token)) hS21 ?_
   intro b22 w23 hS24
   refine rSA 75 (.tmp 4) (.tmp 21) (enc_api_Token t14) hS24 (one_api_Token _) ?_
   intro w26 hS27
   refine sR 6 (iR p168_8 2 4::td162) ?_
   obtain ⟨v28,hv29,hp30⟩:=bind_some' hp17
   have hq33 : ∀ x,Sum.inr x = v28 → x = qr:=by intro x hx; subst hx; simpa using hp30
   have J34 : ∀ (he36 : Sum.inl () = v28) (l35 : List Value) (w31 : World) (hS32 : St w0 Z (xblk ba0 114 ([.slice y7 a0v.l.length y8,.int .i64 a0v.at_] ++ (enc_api_Token a0v.last) ++ [.int .i64 a0v.depth,.slice y9 a0v.c.length y10])::xblk b1 66 (enc_api_Ref (⟨0,(⟨#[]⟩ : ByteArray)⟩ : api_Ref))::fs) w31),Runs Tryz.prog (fx 168) td161 (fill (mk 47 [(0,.pointer (some ⟨ba0,0,none⟩)),(2,.pointer (some ⟨b1,0,none⟩))]) l35) w31 R:=by
    intro he36 l35 w31 hS32
    subst he36
    try dsimp only at hp30
    refine sR 3 [.inRegion (opsOf (cd168 [1,1,1,0])) [1,2,3],.code (cd168 [1,1,1,1])] ?_
    obtain ⟨q42,hr40,hp41⟩:=bind_some' hp30
    refine rCB (cond_reader__name.ok hr40 hS32 y11 y12) ?_
    intro e46 w45 hQ44
    rcases q42 with pe43 | ⟨t37,t38,t39⟩
    all_goals try dsimp only at hp41
    ·obtain ⟨v47,Z48,hz49,rfl,hS50,he51⟩:=hQ44
     refine .inr ⟨_,rfl,?_⟩
     have hS53:=hS50.drop
     refine raised_fx Tryz.func168 ?_
     cases Option.some.inj hp41
     exact hR _ _ (panq_l ⟨v47,Z48,hz49,rfl,hS53,he51⟩)
    obtain ⟨rfl,hS55⟩:=hQ44
    try dsimp only at hS55
    refine .inl ⟨_,rfl,?_⟩
    refine sR 1 [.inRegion (opsOf (cd168 [1,1,1,0])) [3],.code (cd168 [1,1,1,1])] ?_
    have hS56:=hS55.pick1
    refine rSA 66 (.tmp 2) (.tmp 46) (enc_api_Ref (⟨(-1),t37⟩ : api_Ref)) hS56 (one_api_Ref _) ?_
    intro w57 hS58
    refine sR 1 [.code (cd168 [1,1,1,1])] ?_
    have hS59:=hS58.drop
    refine rRc (.agg (enc_api_Ref (⟨(-1),t37⟩ : api_Ref)).toArray) (.ca 2 66 (hS58.blk 0 rfl) .nil) Tryz.func168 ?_
    cases Option.some.inj hp41
    exact hR _ _ (panq_r ⟨rfl,hS59⟩)
   cases t15
   ·have hp61:=ite_f hv29 rfl
    refine sR 7 td161 ?_
    have hS62:=hS27.drop
    exact rF _ (J34 (Option.some.inj hp61) _ _ hS62)
   have hp63:=ite_t hv29 rfl
   refine sR 1 (.inRegion (opsOf p168_8) [3,4,5]::td162) ?_
   refine rL1 3 (.tmp 25) 0 (hS27.blk 0 rfl) ?_
   refine sI 1 (.inRegion (opsOf p168_8) [5]::td162) 27 hp63 (fun hp66 => ?_) fun hp130 => ?_
   ·refine sR 6 (iR (cd168 [1,1,0,1,1,0,0]) 1 7::.code (cd168 [1,1,0,1,1,0,1])::td161) ?_
    refine rL1 9 (.tmp 30) 1 (hS27.blk 0 rfl) ?_
    obtain ⟨⟨t67,t68⟩,hr69,hp70⟩:=bind_some' hp66
    try dsimp only at hp70
    refine rC (cond_thread.ok hr69 hS27 hE) ?_
    rintro _ w71 ⟨rfl,hS72⟩
    refine ⟨_,rfl,?_⟩
    refine sR 10 (.code (cd168 [1,1,0,1,1,0,1,1])::td161) ?_
    cases t68
    ·have hp73:=ite_f hp70 rfl
     refine sR 2 td161 ?_
     have hS74:=hS72.drop
     exact rF _ (J34 (Option.some.inj hp73) _ _ hS74)
    have hp75:=ite_t hp70 rfl
    refine sR 4 (.inRegion (opsOf (cd168 [1,1,0,1,1,0,1,1,0,0])) [1]::.code (cd168 [1,1,0,1,1,0,1,1,0,1])::td161) ?_
    obtain ⟨⟨t76,t77,t78⟩,hr79,hp80⟩:=bind_some' hp75
    try dsimp only at hp80
    have hS81:=hS72.pick1
    refine rC (cond_reader__take.ok hr79 hS81 y11 y12) ?_
    rintro _ w82 ⟨rfl,hS83⟩
    refine ⟨_,rfl,?_⟩
    refine sR 4 (.inRegion (opsOf (cd168 [1,1,0,1,1,0,1,1,0,1,0])) [1]::.code (cd168 [1,1,0,1,1,0,1,1,0,1,1])::td161) ?_
    obtain ⟨q88,hr86,hp87⟩:=bind_some' hp80
    refine rCB (cond_reader__sign.ok hr86 hS83 y11 y12) ?_
    intro e92 w91 hQ90
    rcases q88 with pe89 | ⟨t84,t85⟩
    all_goals try dsimp only at hp87
    ·obtain ⟨v93,Z94,hz95,rfl,hS96,he97⟩:=hQ90
     refine .inr ⟨_,rfl,?_⟩
     have hS99:=hS96.drop
     have hS100:=hS99.drop
     refine raised_fx Tryz.func168 ?_
     cases hq33 _ (Option.some.inj hp87)
     exact hR _ _ (panq_l ⟨v93,Z94,hz95,rfl,hS100,he97⟩)
    obtain ⟨rfl,hS102⟩:=hQ90
    try dsimp only at hS102
    refine .inl ⟨_,rfl,?_⟩
    refine sR 5 (.inRegion (opsOf p168_19) [2,3,4]::td163) ?_
    obtain ⟨q108,hr106,hp107⟩:=bind_some' hp87
    refine rCB (cond_reader__name.ok hr106 hS102 y11 y12) ?_
    intro e112 w111 hQ110
    rcases q108 with pe109 | ⟨t103,t104,t105⟩
    all_goals try dsimp only at hp107
    ·obtain ⟨v113,Z114,hz115,rfl,hS116,he117⟩:=hQ110
     refine .inr ⟨_,rfl,?_⟩
     have hS119:=hS116.drop
     have hS120:=hS119.drop
     refine raised_fx Tryz.func168 ?_
     cases hq33 _ (Option.some.inj hp107)
     exact hR _ _ (panq_l ⟨v113,Z114,hz115,rfl,hS120,he117⟩)
    obtain ⟨rfl,hS122⟩:=hQ110
    try dsimp only at hS122
    refine .inl ⟨_,rfl,?_⟩
    refine sR 1 (.inRegion (opsOf p168_19) [4]::td163) ?_
    have hS123:=hS122.pick2
    refine rSA 66 (.tmp 2) (.tmp 43) (enc_api_Ref (⟨t67,t103⟩ : api_Ref)) hS123 (one_api_Ref _) ?_
    intro w124 hS125
    refine sR 1 td163 ?_
    have hS126:=hS125.drop
    have hS127:=hS126.pick1
    have hS128:=hS127.drop
    refine rRc (.agg (enc_api_Ref (⟨t67,t103⟩ : api_Ref)).toArray) (.ca 2 66 (hS125.blk 0 rfl) .nil) Tryz.func168 ?_
    cases hq33 _ (Option.some.inj hp107)
    exact hR _ _ (panq_r ⟨rfl,hS128⟩)
   refine sR 4 td161 ?_
   have hS131:=hS27.drop
   exact rF _ (J34 (Option.some.inj hp130) _ _ hS131)
  have hp132:=ite_t hp7 rfl
  refine sR 4 (.inRegion (opsOf (cd168 [1,0,1,0,0])) [1]::.code (cd168 [1,0,1,0,1])::td160) ?_
  obtain ⟨⟨t133,t134,t135⟩,hr136,hp137⟩:=bind_some' hp132
  try dsimp only at hp137
  refine rC (cond_reader__take.ok hr136 hS12 y11 y12) ?_
  rintro _ w138 ⟨rfl,hS139⟩
  refine ⟨_,rfl,?_⟩
  refine sR 4 (.inRegion (opsOf (cd168 [1,0,1,0,1,0])) [1,2]::.code (cd168 [1,0,1,0,1,1])::td160) ?_
  obtain ⟨q145,hr143,hp144⟩:=bind_some' hp137
  refine rCB (cond_reader__name.ok hr143 hS139 y11 y12) ?_
  intro e149 w148 hQ147
  rcases q145 with pe146 | ⟨t140,t141,t142⟩
  all_goals try dsimp only at hp144
  ·obtain ⟨v150,Z151,hz152,rfl,hS153,he154⟩:=hQ147
   refine .inr ⟨_,rfl,?_⟩
   have hS156:=hS153.drop
   refine raised_fx Tryz.func168 ?_
   cases Option.some.inj hp144
   exact hR _ _ (panq_l ⟨v150,Z151,hz152,rfl,hS156,he154⟩)
  obtain ⟨rfl,hS158⟩:=hQ147
  try dsimp only at hS158
  refine .inl ⟨_,rfl,?_⟩
  refine sR 5 (.inRegion (opsOf (cd168 [1,0,1,0,1,1,0])) [1]::.code (cd168 [1,0,1,0,1,1,1])::td160) ?_
  obtain ⟨q163,hr161,hp162⟩:=bind_some' hp144
  refine rCB (cond_reader__sign.ok hr161 hS158 y11 y12) ?_
  intro e167 w166 hQ165
  rcases q163 with pe164 | ⟨t159,t160⟩
  all_goals try dsimp only at hp162
  ·obtain ⟨v168,Z169,hz170,rfl,hS171,he172⟩:=hQ165
   refine .inr ⟨_,rfl,?_⟩
   have hS174:=hS171.drop
   refine raised_fx Tryz.func168 ?_
   cases Option.some.inj hp162
   exact hR _ _ (panq_l ⟨v168,Z169,hz170,rfl,hS174,he172⟩)
  obtain ⟨rfl,hS176⟩:=hQ165
  try dsimp only at hS176
  refine .inl ⟨_,rfl,?_⟩
  refine sR 5 (.inRegion (opsOf (cd168 [1,0,1,0,1,1,1,0])) [2]::.code (cd168 [1,0,1,0,1,1,1,1])::td160) ?_
  have hS177:=hS176.pick1
  refine rSA 66 (.tmp 2) (.tmp 17) (enc_api_Ref (⟨(-1),t140⟩ : api_Ref)) hS177 (one_api_Ref _) ?_
  intro w178 hS179
  refine sR 1 (.code (cd168 [1,0,1,0,1,1,1,1])::td160) ?_
  have hS180:=hS179.drop
  refine rRc (.agg (enc_api_Ref (⟨(-1),t140⟩ : api_Ref)).toArray) (.ca 2 66 (hS179.blk 0 rfl) .nil) Tryz.func168 ?_
  cases Option.some.inj hp162
  exact hR _ _ (panq_r ⟨rfl,hS180⟩)

noncomputable def cd147 (p : List Nat) : Code := sub (bodyOf Tryz.f147) p
abbrev p147_7:=cd147 [1,1,1,0,1,0]
abbrev td164:List Item:=[.code (cd147 [1,1,1,1])]
abbrev td165:List Item:=.code (cd147 [1,1,1,0,1,1])::td164
def cond_reader__is.f (a0v : cond_reader) : Option (Sum PErr (Int × Int × api_Token × (List api_Node))) :=
  (cond_reader__ref.f a0v >>= (fun | .inl pe7 => some (.inl pe7) | .inr (t1,t2,t3) => (cond_reader__sign.f (⟨a0v.l,t2,t3,a0v.depth,a0v.c⟩ : cond_reader) (⟨#[61]⟩ : ByteArray) >>= (fun | .inl pe42 => some (.inl pe42) | .inr (t37,t38) => (cond_reader__next.f (⟨a0v.l,t37,t38,a0v.depth,a0v.c⟩ : cond_reader) >>= (fun (t69,t70) => (if (!t70) = true then (cond_reader__syntax.f (⟨a0v.l,t37,t38,a0v.depth,a0v.c⟩ : cond_reader) >>= (fun | .inl pe95 => some (.inl pe95) | .inr _ => none)) else (if (t69.Kind != 2) = true then (cond_reader__syntax.f (⟨a0v.l,t37,t38,a0v.depth,a0v.c⟩ : cond_reader) >>= (fun | .inl pe120 => some (.inl pe120) | .inr _ => none)) else (cond_reader__take.f (⟨a0v.l,t37,t38,a0v.depth,a0v.c⟩ : cond_reader) >>= (fun (t139,t140,t141) => (cond_reader__node.f (⟨a0v.l,t140,t141,a0v.depth,a0v.c⟩ : cond_reader) (⟨2,0,0,t1,t139.Value⟩ : api_Node) >>= (fun | .inl pe164 => some (.inl pe164) | .inr (t157,t158) => some (.inr (t157,t140,t141,t158))))))))))))))
theorem cond_reader__is.ok {a0v : cond_reader} {ba0 : Nat} {y7 : Option Addr} {y8 : Nat} {y9 : Option Addr} {y10 : Nat} {qr : Sum PErr (Int × Int × api_Token × (List api_Node))} (hp0 : cond_reader__is.f a0v = some qr) (hS0 : St w0 Z (xblk ba0 114 ([.slice y7 a0v.l.length y8,.int .i64 a0v.at_] ++ (enc_api_Token a0v.last) ++ [.int .i64 a0v.depth,.slice y9 a0v.c.length y10])::xrow y9 y10 68 6 (a0v.c.flatMap enc_api_Node)::fs) w) (y11 : SlZ (flat enc_api_Token) 7 Z y7 y8 a0v.l) (hE : Env Z) :
    Calls Tryz.prog 147 #[.pointer (some ⟨ba0,0,none⟩)] w (fun e w' => PanQ (fun p => ∃ (v : Value) (Z' : Zm),Zm.Le Z Z' ∧ e = .panicked [{ v:=v,recovered:=false }] ∧ St w0 Z' fs w' ∧ RepE 37 78 Z' v p) (fun q => ∃ (QA0 : Option Addr) (Qc0 : Nat),e = .returned (.int .i64 q.1) ∧ St w0 Z (xrow QA0 Qc0 68 6 (q.2.2.2.flatMap enc_api_Node)::xblk ba0 114 ([.slice y7 a0v.l.length y8,.int .i64 q.2.1] ++ (enc_api_Token q.2.2.1) ++ [.int .i64 a0v.depth,.slice QA0 q.2.2.2.length Qc0])::fs) w') qr):=by
  refine calls_abs ?_; intro R hR
  unfold cond_reader__is.f at hp0
  refine calls_of_runs (fn:=Tryz.f147) (c:=cd147 []) Tryz.func147 (by kernel_rfl) (al:=[.pointer (some ⟨ba0,0,none⟩)]) rfl (n:=31) rfl ?_
  refine sR 7 [iR (cd147 [1,0]) 1 4,.code (cd147 [1,1])] ?_
  obtain ⟨q6,hr4,hp5⟩:=bind_some' hp0
  rcases q6 with pe7 | ⟨t1,t2,t3⟩
  ·try dsimp only at hp5
   have hS8:=hS0.pick1
   obtain ⟨Z9,hz10,hS11,hs12,hb13⟩:=hS8.lendrow len_api_Node (by omega)
   refine rCX (cond_reader__ref.ok hr4 hS11 (y11.up hz10) hs12 (hE.up hz10)) ?_
   rintro _ w19 ⟨v14,Z15,hz16,rfl,hS17,he18⟩
   refine ⟨_,rfl,?_⟩
   refine raised_fx Tryz.func147 ?_
   cases Option.some.inj hp5
   exact hR _ _ (panq_l ⟨v14,Z15,(Zm.Le.trans hz10 hz16),rfl,hS17,he18⟩)
  try dsimp only at hp5
  have hS22:=hS0.pick1
  obtain ⟨Z23,hz24,hS25,hs26,hb27⟩:=hS22.lendrow len_api_Node (by omega)
  refine rC (cond_reader__ref.ok hr4 hS25 (y11.up hz24) hs26 (hE.up hz24)) ?_
  rintro _ w28 ⟨rfl,hS29⟩
  try dsimp only at hS29
  refine ⟨_,rfl,?_⟩
  have hS30:=hb27 _ _ hS29
  refine sR 1 [.inRegion (opsOf (cd147 [1,0])) [3,4],.code (cd147 [1,1])] ?_
  refine rA 68 (.agg (enc_api_Node (⟨0,0,0,⟨0,(⟨#[]⟩ : ByteArray)⟩,0⟩ : api_Node)).toArray) (enc_api_Node (⟨0,0,0,⟨0,(⟨#[]⟩ : ByteArray)⟩,0⟩ : api_Node)) hS30 ?_
  intro b31 w32 hS33
  refine rSA 68 (.tmp 3) (.tmp 8) (enc_api_Node (⟨2,0,0,t1,0⟩ : api_Node)) hS33 (one_api_Node _) ?_
  intro w35 hS36
  refine sR 4 [.inRegion (opsOf (cd147 [1,1,0])) [1],.code (cd147 [1,1,1])] ?_
  obtain ⟨q41,hr39,hp40⟩:=bind_some' hp5
  rcases q41 with pe42 | ⟨t37,t38⟩
  ·try dsimp only at hp40
   have hS43:=hS36.pick1
   obtain ⟨Z44,hz45,hS46,hs47,hb48⟩:=hS43.lendrow len_api_Node (by omega)
   have hS49:=hS46.pick1
   refine rCX (cond_reader__sign.ok hr39 hS49 (y11.up hz45) hs47) ?_
   rintro _ w55 ⟨v50,Z51,hz52,rfl,hS53,he54⟩
   refine ⟨_,rfl,?_⟩
   have hS57:=hS53.drop
   refine raised_fx Tryz.func147 ?_
   cases Option.some.inj hp40
   exact hR _ _ (panq_l ⟨v50,Z51,(Zm.Le.trans hz45 hz52),rfl,hS57,he54⟩)
  try dsimp only at hp40
  have hS59:=hS36.pick1
  obtain ⟨Z60,hz61,hS62,hs63,hb64⟩:=hS59.lendrow len_api_Node (by omega)
  have hS65:=hS62.pick1
  refine rC (cond_reader__sign.ok hr39 hS65 (y11.up hz61) hs63) ?_
  rintro _ w66 ⟨rfl,hS67⟩
  try dsimp only at hS67
  refine ⟨_,rfl,?_⟩
  have hS68:=hb64 _ _ hS67
  refine sR 5 (iR (cd147 [1,1,1,0,0]) 1 7::.code (cd147 [1,1,1,0,1])::td164) ?_
  obtain ⟨⟨t69,t70⟩,hr71,hp72⟩:=bind_some' hp40
  try dsimp only at hp72
  obtain ⟨Z75,hz76,hS77,hs78,hb79⟩:=hS68.lendrow len_api_Node (by omega)
  refine rC (cond_reader__next.ok hr71 hS77 (y11.up hz76) hs78) ?_
  rintro _ w80 ⟨rfl,hS81⟩
  refine ⟨_,rfl,?_⟩
  have hS82:=hb79 _ _ hS81
  refine sR 3 (.inRegion (opsOf (cd147 [1,1,1,0,0])) [5,6,7]::.code (cd147 [1,1,1,0,1])::td164) ?_
  refine rA 75 (.agg (enc_api_Token (⟨0,(⟨#[]⟩ : ByteArray),0,0,0,0,0⟩ : api_Token)).toArray) (enc_api_Token (⟨0,(⟨#[]⟩ : ByteArray),0,0,0,0,0⟩ : api_Token)) hS82 ?_
  intro b83 w84 hS85
  refine rSA 75 (.tmp 4) (.tmp 14) (enc_api_Token t69) hS85 (one_api_Token _) ?_
  intro w87 hS88
  refine sI 6 (iR p147_7 2 5::td165) 17 hp72 (fun hp91 => ?_) fun hp113 => ?_
  ·refine sR 9 (.inRegion (opsOf (cd147 [1,1,1,0,1,1,0])) [1]::td164) ?_
   obtain ⟨q94,hr92,hp93⟩:=bind_some' hp91
   rcases q94 with pe95 | _
   ·try dsimp only at hp93
    have hS96:=hS88.pick1
    obtain ⟨Z97,hz98,hS99,hs100,hb101⟩:=hS96.lendrow len_api_Node (by omega)
    have hS102:=hS99.pick1
    refine rCX (cond_reader__syntax.ok hr92 hS102 (y11.up hz98) hs100) ?_
    rintro _ w108 ⟨v103,Z104,hz105,rfl,hS106,he107⟩
    refine ⟨_,rfl,?_⟩
    have hS110:=hS106.drop
    have hS111:=hS110.drop
    refine raised_fx Tryz.func147 ?_
    cases Option.some.inj hp93
    exact hR _ _ (panq_l ⟨v103,Z104,(Zm.Le.trans hz98 hz105),rfl,hS111,he107⟩)
   try dsimp only at hp93
   cases hp93
  refine sR 2 (.inRegion (opsOf p147_7) [4,5,6]::td165) ?_
  refine rL1 3 (.tmp 19) 0 (hS88.blk 0 rfl) ?_
  refine sI 1 (.inRegion (opsOf p147_7) [6]::td165) 21 hp113 (fun hp116 => ?_) fun hp138 => ?_
  ·refine sR 5 (.inRegion (opsOf (cd147 [1,1,1,0,1,1,0])) [1]::td164) ?_
   obtain ⟨q119,hr117,hp118⟩:=bind_some' hp116
   rcases q119 with pe120 | _
   ·try dsimp only at hp118
    have hS121:=hS88.pick1
    obtain ⟨Z122,hz123,hS124,hs125,hb126⟩:=hS121.lendrow len_api_Node (by omega)
    have hS127:=hS124.pick1
    refine rCX (cond_reader__syntax.ok hr117 hS127 (y11.up hz123) hs125) ?_
    rintro _ w133 ⟨v128,Z129,hz130,rfl,hS131,he132⟩
    refine ⟨_,rfl,?_⟩
    have hS135:=hS131.drop
    have hS136:=hS135.drop
    refine raised_fx Tryz.func147 ?_
    cases Option.some.inj hp118
    exact hR _ _ (panq_l ⟨v128,Z129,(Zm.Le.trans hz123 hz130),rfl,hS136,he132⟩)
   try dsimp only at hp118
   cases hp118
  refine sR 7 [iR (cd147 [1,1,1,1,0]) 1 4,.code (cd147 [1,1,1,1,1])] ?_
  obtain ⟨⟨t139,t140,t141⟩,hr142,hp143⟩:=bind_some' hp138
  try dsimp only at hp143
  have hS144:=hS88.pick1
  obtain ⟨Z145,hz146,hS147,hs148,hb149⟩:=hS144.lendrow len_api_Node (by omega)
  have hS150:=hS147.pick1
  refine rC (cond_reader__take.ok hr142 hS150 (y11.up hz146) hs148) ?_
  rintro _ w151 ⟨rfl,hS152⟩
  refine ⟨_,rfl,?_⟩
  have hS153:=hb149 _ _ hS152
  refine sR 2 [.inRegion (opsOf (cd147 [1,1,1,1,0])) [4],.code (cd147 [1,1,1,1,1])] ?_
  have hS154:=hS153.pick3
  refine rS 2 (.tmp 28) (.tmp 27) 5 (.int .i64 t139.Value) [.int .i64 t139.Value] (enc_api_Node (⟨2,0,0,t1,t139.Value⟩ : api_Node)) hS154 ?_
  intro w155 hS156
  refine sR 4 [.inRegion (opsOf (cd147 [1,1,1,1,1,0])) [1,2,3],.code (cd147 [1,1,1,1,1,1])] ?_
  refine rLa 68 (.tmp 3) (hS156.blk 0 rfl) ?_
  obtain ⟨q163,hr161,hp162⟩:=bind_some' hp143
  have hS168:=hS156.pick1
  have hS169:=hS168.pick2
  refine rCB (cond_reader__node.ok hr161 hS169 y11) ?_
  intro e167 w166 hQ165
  rcases q163 with pe164 | ⟨t157,t158⟩
  all_goals try dsimp only at hp162
  ·obtain ⟨v170,Z171,hz172,rfl,hS173,he174⟩:=hQ165
   refine .inr ⟨_,rfl,?_⟩
   have hS176:=hS173.drop
   have hS177:=hS176.drop
   refine raised_fx Tryz.func147 ?_
   cases Option.some.inj hp162
   exact hR _ _ (panq_l ⟨v170,Z171,hz172,rfl,hS177,he174⟩)
  obtain ⟨Q159,Q160,rfl,hS180⟩:=hQ165
  try dsimp only at hS180
  refine .inl ⟨_,rfl,?_⟩
  refine sR 2 [.code (cd147 [1,1,1,1,1,1])] ?_
  have hS181:=hS180.pick2
  have hS182:=hS181.drop
  have hS183:=hS182.pick2
  have hS184:=hS183.drop
  refine rR (.int .i64 t157) Tryz.func147 ?_
  cases Option.some.inj hp162
  exact hR _ _ (panq_r ⟨Q159,Q160,rfl,hS184⟩)

def cond_reader__not.Spec (rec : cond_reader → Option (Sum PErr (Int × Int × api_Token × Int × (List api_Node)))) : Prop:=∀ (a0v : cond_reader) (ba0 : Nat) (y7 : Option Addr) (y8 : Nat) (y9 : Option Addr) (y10 : Nat) {w0 : World} {Z : Zm} {fs : List XObj} {w : World} (_ : St w0 Z (xblk ba0 114 ([.slice y7 a0v.l.length y8,.int .i64 a0v.at_] ++ (enc_api_Token a0v.last) ++ [.int .i64 a0v.depth,.slice y9 a0v.c.length y10])::xrow y9 y10 68 6 (a0v.c.flatMap enc_api_Node)::fs) w) (_ : SlZ (flat enc_api_Token) 7 Z y7 y8 a0v.l) (_ : Env Z) {qr : Sum PErr (Int × Int × api_Token × Int × (List api_Node))},rec a0v = some qr →
    Calls Tryz.prog 114 #[.pointer (some ⟨ba0,0,none⟩)] w (fun e w' => PanQ (fun p => ∃ (v : Value) (Z' : Zm),Zm.Le Z Z' ∧ e = .panicked [{ v:=v,recovered:=false }] ∧ St w0 Z' fs w' ∧ RepE 37 78 Z' v p) (fun q => ∃ (QA0 : Option Addr) (Qc0 : Nat),e = .returned (.int .i64 q.1) ∧ St w0 Z (xrow QA0 Qc0 68 6 (q.2.2.2.2.flatMap enc_api_Node)::xblk ba0 114 ([.slice y7 a0v.l.length y8,.int .i64 q.2.1] ++ (enc_api_Token q.2.2.1) ++ [.int .i64 q.2.2.2.1,.slice QA0 q.2.2.2.2.length Qc0])::fs) w') qr)

noncomputable def cd73 (p : List Nat) : Code := sub (bodyOf Tryz.f73) p
abbrev p73_11:=cd73 [1,1,0,0,0,1,0,1,1]
abbrev td166:List Item:=[.code (cd73 [1,1,1])]
abbrev td167:List Item:=.inBlock 0::td166
abbrev td168:List Item:=.inLoop (cd73 [1,1,0,0,0])::td167
abbrev td169:List Item:=.code (cd73 [1,1,0,0,0])::td168
abbrev td170:List Item:=.inBlock 1::td168
def cond_reader__chain_5.l0 (rec_cond_reader__not : cond_reader → Option (Sum PErr (Int × Int × api_Token × Int × (List api_Node)))) (a0v : cond_reader) (a1 : ByteArray) (a2 t45 t46 : Int) (t47 : api_Token) (t48 : Int) (t49 : List api_Node) : Option (Sum (Int × Int × api_Token × Int × (List api_Node)) (Sum PErr (Int × Int × api_Token × Int × (List api_Node)))) :=
  (cond_reader__sees.f (⟨a0v.l,t46,t47,t48,t49⟩ : cond_reader) 0 4 a1 >>= (fun t63 => (if t63 = true then (cond_reader__take.f (⟨a0v.l,t46,t47,t48,t49⟩ : cond_reader) >>= (fun (t80,t81,t82) => (rec_cond_reader__not (⟨a0v.l,t81,t82,t48,t49⟩ : cond_reader) >>= (fun | .inl pe103 => some (.inr (.inl pe103)) | .inr (t93,t94,t95,t96,t97) => (cond_reader__node.f (⟨a0v.l,t94,t95,t96,t97⟩ : cond_reader) (⟨a2,t45,t93,(⟨0,(⟨#[]⟩ : ByteArray)⟩ : api_Ref),0⟩ : api_Node) >>= (fun | .inl pe124 => some (.inr (.inl pe124)) | .inr (t117,t118) => (cond_reader__chain_5.l0 rec_cond_reader__not a0v a1 a2 t117 t94 t95 t96 t118))))))) else some (.inl (t45,t46,t47,t48,t49)))))
 partial_fixpoint
def cond_reader__chain_5.f (rec_cond_reader__not : cond_reader → Option (Sum PErr (Int × Int × api_Token × Int × (List api_Node)))) (a0v : cond_reader) (a1 : ByteArray) (a2 : Int) : Option (Sum PErr (Int × Int × api_Token × Int × (List api_Node))) :=
  (rec_cond_reader__not a0v >>= (fun | .inl pe11 => some (.inl pe11) | .inr (t1,t2,t3,t4,t5) => (cond_reader__chain_5.l0 rec_cond_reader__not a0v a1 a2 t1 t2 t3 t4 t5 >>= (fun | .inl (t29,t30,t31,t32,t33) => some (.inr (t29,t30,t31,t32,t33)) | .inr e => some e))))
theorem cond_reader__chain_5.ok (rec_cond_reader__not : cond_reader → Option (Sum PErr (Int × Int × api_Token × Int × (List api_Node)))) (hrec_cond_reader__not : cond_reader__not.Spec rec_cond_reader__not) {a0v : cond_reader} {a1 : ByteArray} {a2 : Int} {ba0 : Nat} {y7 : Option Addr} {y8 : Nat} {y9 : Option Addr} {y10 : Nat} {qr : Sum PErr (Int × Int × api_Token × Int × (List api_Node))} (hp0 : cond_reader__chain_5.f rec_cond_reader__not a0v a1 a2 = some qr) (hS0 : St w0 Z (xblk ba0 114 ([.slice y7 a0v.l.length y8,.int .i64 a0v.at_] ++ (enc_api_Token a0v.last) ++ [.int .i64 a0v.depth,.slice y9 a0v.c.length y10])::xrow y9 y10 68 6 (a0v.c.flatMap enc_api_Node)::fs) w) (y11 : SlZ (flat enc_api_Token) 7 Z y7 y8 a0v.l) (hE : Env Z) :
    Calls Tryz.prog 73 #[.pointer (some ⟨ba0,0,none⟩),.string a1,.int .i64 a2,.func (.func 114) #[.pointer (some ⟨ba0,0,none⟩)] #[]] w (fun e w' => PanQ (fun p => ∃ (v : Value) (Z' : Zm),Zm.Le Z Z' ∧ e = .panicked [{ v:=v,recovered:=false }] ∧ St w0 Z' fs w' ∧ RepE 37 78 Z' v p) (fun q => ∃ (QA0 : Option Addr) (Qc0 : Nat),e = .returned (.int .i64 q.1) ∧ St w0 Z (xrow QA0 Qc0 68 6 (q.2.2.2.2.flatMap enc_api_Node)::xblk ba0 114 ([.slice y7 a0v.l.length y8,.int .i64 q.2.1] ++ (enc_api_Token q.2.2.1) ++ [.int .i64 q.2.2.2.1,.slice QA0 q.2.2.2.2.length Qc0])::fs) w') qr):=by
  refine calls_abs ?_; intro R hR
  unfold cond_reader__chain_5.f at hp0
  refine calls_of_runs (fn:=Tryz.f73) (c:=cd73 []) Tryz.func73 (by kernel_rfl) (al:=[.pointer (some ⟨ba0,0,none⟩),.string a1,.int .i64 a2,.func (.func 114) #[.pointer (some ⟨ba0,0,none⟩)] #[]]) rfl (n:=23) rfl ?_
  refine sR 7 [.inRegion (opsOf (cd73 [1,0])) [1,2],.code (cd73 [1,1])] ?_
  obtain ⟨q10,hr8,hp9⟩:=bind_some' hp0
  have hS15:=hS0.pick1
  have hS16:=hS15.pick1
  refine rCB (hrec_cond_reader__not a0v ba0 y7 y8 y9 y10 hS16 y11 hE hr8) ?_
  intro e14 w13 hQ12
  rcases q10 with pe11 | ⟨t1,t2,t3,t4,t5⟩
  all_goals try dsimp only at hp9
  ·obtain ⟨v17,Z18,hz19,rfl,hS20,he21⟩:=hQ12
   refine .inr ⟨_,rfl,?_⟩
   refine raised_fx Tryz.func73 ?_
   cases Option.some.inj hp9
   exact hR _ _ (panq_l ⟨v17,Z18,hz19,rfl,hS20,he21⟩)
  obtain ⟨Q6,Q7,rfl,hS25⟩:=hQ12
  try dsimp only at hS25
  refine .inl ⟨_,rfl,?_⟩
  refine sR 5 td169 ?_
  obtain ⟨v26,hv27,hp28⟩:=bind_some' hp9
  have hq39 : ∀ x,Sum.inr x = v26 → x = qr:=by intro x hx; subst hx; simpa using hp28
  have J40 : ∀ (t29 t30 : Int) (t31 : api_Token) (t32 : Int) (t33 : List api_Node) (he42 : Sum.inl (t29,t30,t31,t32,t33) = v26) (l41 : List Value) (A34 : Option Addr) (c35 : Nat) (w37 : World) (hS38 : St w0 Z (xblk ba0 114 ([.slice y7 a0v.l.length y8,.int .i64 t30] ++ (enc_api_Token t31) ++ [.int .i64 t32,.slice A34 t33.length c35])::xrow A34 c35 68 6 (t33.flatMap enc_api_Node)::fs) w37),Runs Tryz.prog (fx 73) td166 (fill (mk 27 [(9,.int .i64 t29)]) l41) w37 R:=by
   intro t29 t30 t31 t32 t33 he42 l41 A34 c35 w37 hS38
   subst he42
   try dsimp only at hp28
   refine sR 5 [.code (cd73 [1,1,1,1])] ?_
   have hS43:=hS38.pick1
   refine rR (.int .i64 t29) Tryz.func73 ?_
   cases Option.some.inj hp28
   exact hR _ _ (panq_r ⟨A34,c35,rfl,hS43⟩)
  have L61 : ∀ (t45 t46 : Int) (t47 : api_Token) (t48 : Int) (t49 : List api_Node) (e56 : Sum (Int × Int × api_Token × Int × (List api_Node)) (Sum PErr (Int × Int × api_Token × Int × (List api_Node)))),cond_reader__chain_5.l0 rec_cond_reader__not a0v a1 a2 t45 t46 t47 t48 t49 = some e56 → e56 = v26 → ∀ (l55 : List Value) (A50 : Option Addr) (c51 : Nat) (w53 : World) (hS54 : St w0 Z (xblk ba0 114 ([.slice y7 a0v.l.length y8,.int .i64 t46] ++ (enc_api_Token t47) ++ [.int .i64 t48,.slice A50 t49.length c51])::xrow A50 c51 68 6 (t49.flatMap enc_api_Node)::fs) w53),Runs Tryz.prog (fx 73) td169 (fill (mk 27 [(0,.pointer (some ⟨ba0,0,none⟩)),(1,.string a1),(2,.int .i64 a2),(3,.func (.func 114) #[.pointer (some ⟨ba0,0,none⟩)] #[]),(9,.int .i64 t45)]) l55) w53 R:=by
   refine cond_reader__chain_5.l0.partial_correctness rec_cond_reader__not a0v a1 a2 (fun t45 t46 t47 t48 t49 e56 => e56 = v26 → ∀ (l55 : List Value) (A50 : Option Addr) (c51 : Nat) (w53 : World) (hS54 : St w0 Z (xblk ba0 114 ([.slice y7 a0v.l.length y8,.int .i64 t46] ++ (enc_api_Token t47) ++ [.int .i64 t48,.slice A50 t49.length c51])::xrow A50 c51 68 6 (t49.flatMap enc_api_Node)::fs) w53),Runs Tryz.prog (fx 73) td169 (fill (mk 27 [(0,.pointer (some ⟨ba0,0,none⟩)),(1,.string a1),(2,.int .i64 a2),(3,.func (.func 114) #[.pointer (some ⟨ba0,0,none⟩)] #[]),(9,.int .i64 t45)]) l55) w53 R) ?_
   intro rec60 ih59 t45 t46 t47 t48 t49 e56 hb58 he57 l55 A50 c51 w53 hS54
   have hq62 : ∀ x,Sum.inr x = e56 → x = qr:=fun x hx => hq39 x (hx.trans he57)
   refine sR 5 (.inRegion (opsOf (cd73 [1,1,0,0,0,0,0])) [2]::.code (cd73 [1,1,0,0,0,0,1])::.code (cd73 [1,1,0,0,0,1])::td168) ?_
   obtain ⟨t63,hr64,hp65⟩:=bind_some' hb58
   have hS68:=hS54.pick1
   obtain ⟨Z69,hz70,hS71,hs72,hb73⟩:=hS68.lendrow len_api_Node (by omega)
   refine rC (cond_reader__sees.ok hr64 hS71 (y11.up hz70) hs72) ?_
   rintro _ w74 ⟨rfl,hS75⟩
   refine ⟨_,rfl,?_⟩
   have hS76:=hb73 _ _ hS75
   refine sR 1 (.code (cd73 [1,1,0,0,0,0,1])::.code (cd73 [1,1,0,0,0,1])::td168) ?_
   cases t63
   ·have hp77:=ite_f hp65 rfl
    refine sR 2 td166 ?_
    have hS78:=hS76.pick1
    exact rF _ (J40 t45 t46 t47 t48 t49 ((Option.some.inj hp77).trans he57) _ A50 c51 _ hS78)
   have hp79:=ite_t hp65 rfl
   refine sR 6 (.inRegion (opsOf (cd73 [1,1,0,0,0,1,0,0])) [1]::.code (cd73 [1,1,0,0,0,1,0,1])::td170) ?_
   obtain ⟨⟨t80,t81,t82⟩,hr83,hp84⟩:=bind_some' hp79
   try dsimp only at hp84
   obtain ⟨Z85,hz86,hS87,hs88,hb89⟩:=hS76.lendrow len_api_Node (by omega)
   refine rC (cond_reader__take.ok hr83 hS87 (y11.up hz86) hs88) ?_
   rintro _ w90 ⟨rfl,hS91⟩
   refine ⟨_,rfl,?_⟩
   have hS92:=hb89 _ _ hS91
   refine sR 4 (.inRegion (opsOf (cd73 [1,1,0,0,0,1,0,1,0])) [1,2]::.code p73_11::td170) ?_
   obtain ⟨q102,hr100,hp101⟩:=bind_some' hp84
   have hS107:=hS92.pick1
   refine rCB (hrec_cond_reader__not (⟨a0v.l,t81,t82,t48,t49⟩ : cond_reader) ba0 y7 y8 A50 c51 hS107 y11 hE hr100) ?_
   intro e106 w105 hQ104
   rcases q102 with pe103 | ⟨t93,t94,t95,t96,t97⟩
   all_goals try dsimp only at hp101
   ·obtain ⟨v108,Z109,hz110,rfl,hS111,he112⟩:=hQ104
    refine .inr ⟨_,rfl,?_⟩
    refine raised_fx Tryz.func73 ?_
    cases hq62 _ (Option.some.inj hp101)
    exact hR _ _ (panq_l ⟨v108,Z109,hz110,rfl,hS111,he112⟩)
   obtain ⟨Q98,Q99,rfl,hS116⟩:=hQ104
   try dsimp only at hS116
   refine .inl ⟨_,rfl,?_⟩
   refine sR 8 (.inRegion (opsOf p73_11) [5,6]::td170) ?_
   obtain ⟨q123,hr121,hp122⟩:=bind_some' hp101
   have hS128:=hS116.pick1
   refine rCB (cond_reader__node.ok hr121 hS128 y11) ?_
   intro e127 w126 hQ125
   rcases q123 with pe124 | ⟨t117,t118⟩
   all_goals try dsimp only at hp122
   ·obtain ⟨v129,Z130,hz131,rfl,hS132,he133⟩:=hQ125
    refine .inr ⟨_,rfl,?_⟩
    refine raised_fx Tryz.func73 ?_
    cases hq62 _ (Option.some.inj hp122)
    exact hR _ _ (panq_l ⟨v129,Z130,hz131,rfl,hS132,he133⟩)
   obtain ⟨Q119,Q120,rfl,hS137⟩:=hQ125
   try dsimp only at hS137
   refine .inl ⟨_,rfl,?_⟩
   refine sR 3 td168 ?_
   have hS138:=hS137.pick1
   refine sR 1 td169 ?_
   exact rF _ (ih59 t117 t94 t95 t96 t118 _ hp122 he57 _ Q119 Q120 _ hS138)
  have hS139:=hS25.pick1
  exact rF _ (L61 t1 t2 t3 t4 t5 _ hv27 rfl _ Q6 Q7 _ hS139)

noncomputable def cd74 (p : List Nat) : Code := sub (bodyOf Tryz.f74) p
def cond_reader__and_2.f (rec_cond_reader__not : cond_reader → Option (Sum PErr (Int × Int × api_Token × Int × (List api_Node)))) (a0v : cond_reader) : Option (Sum PErr (Int × Int × api_Token × Int × (List api_Node))) :=
  (cond_reader__chain_5.f rec_cond_reader__not a0v (⟨#[47,92]⟩ : ByteArray) 4 >>= (fun | .inl pe11 => some (.inl pe11) | .inr (t1,t2,t3,t4,t5) => some (.inr (t1,t2,t3,t4,t5))))
theorem cond_reader__and_2.ok (rec_cond_reader__not : cond_reader → Option (Sum PErr (Int × Int × api_Token × Int × (List api_Node)))) (hrec_cond_reader__not : cond_reader__not.Spec rec_cond_reader__not) {a0v : cond_reader} {ba0 : Nat} {y7 : Option Addr} {y8 : Nat} {y9 : Option Addr} {y10 : Nat} {qr : Sum PErr (Int × Int × api_Token × Int × (List api_Node))} (hp0 : cond_reader__and_2.f rec_cond_reader__not a0v = some qr) (hS0 : St w0 Z (xblk ba0 114 ([.slice y7 a0v.l.length y8,.int .i64 a0v.at_] ++ (enc_api_Token a0v.last) ++ [.int .i64 a0v.depth,.slice y9 a0v.c.length y10])::xrow y9 y10 68 6 (a0v.c.flatMap enc_api_Node)::fs) w) (y11 : SlZ (flat enc_api_Token) 7 Z y7 y8 a0v.l) (hE : Env Z) :
    Calls Tryz.prog 74 #[.pointer (some ⟨ba0,0,none⟩)] w (fun e w' => PanQ (fun p => ∃ (v : Value) (Z' : Zm),Zm.Le Z Z' ∧ e = .panicked [{ v:=v,recovered:=false }] ∧ St w0 Z' fs w' ∧ RepE 37 78 Z' v p) (fun q => ∃ (QA0 : Option Addr) (Qc0 : Nat),e = .returned (.int .i64 q.1) ∧ St w0 Z (xrow QA0 Qc0 68 6 (q.2.2.2.2.flatMap enc_api_Node)::xblk ba0 114 ([.slice y7 a0v.l.length y8,.int .i64 q.2.1] ++ (enc_api_Token q.2.2.1) ++ [.int .i64 q.2.2.2.1,.slice QA0 q.2.2.2.2.length Qc0])::fs) w') qr):=by
  refine calls_abs ?_; intro R hR
  unfold cond_reader__and_2.f at hp0
  refine calls_of_runs (fn:=Tryz.f74) (c:=cd74 []) Tryz.func74 (by kernel_rfl) (al:=[.pointer (some ⟨ba0,0,none⟩)]) rfl (n:=6) rfl ?_
  refine sR 9 [.inRegion (opsOf (cd74 [1,0])) [3,4],.code (cd74 [1,1])] ?_
  obtain ⟨q10,hr8,hp9⟩:=bind_some' hp0
  have hS15:=hS0.pick1
  have hS16:=hS15.pick1
  refine rCB (cond_reader__chain_5.ok rec_cond_reader__not hrec_cond_reader__not hr8 hS16 y11 hE) ?_
  intro e14 w13 hQ12
  rcases q10 with pe11 | ⟨t1,t2,t3,t4,t5⟩
  all_goals try dsimp only at hp9
  ·obtain ⟨v17,Z18,hz19,rfl,hS20,he21⟩:=hQ12
   refine .inr ⟨_,rfl,?_⟩
   refine raised_fx Tryz.func74 ?_
   cases Option.some.inj hp9
   exact hR _ _ (panq_l ⟨v17,Z18,hz19,rfl,hS20,he21⟩)
  obtain ⟨Q6,Q7,rfl,hS25⟩:=hQ12
  try dsimp only at hS25
  refine .inl ⟨_,rfl,?_⟩
  refine sR 2 [.code (cd74 [1,1])] ?_
  refine rR (.int .i64 t1) Tryz.func74 ?_
  cases Option.some.inj hp9
  exact hR _ _ (panq_r ⟨Q6,Q7,rfl,hS25⟩)

abbrev td171:List Item:=[.code (cd73 [1,1,1])]
abbrev td172:List Item:=.inBlock 0::td171
abbrev td173:List Item:=.inLoop (cd73 [1,1,0,0,0])::td172
abbrev td174:List Item:=.code (cd73 [1,1,0,0,0])::td173
abbrev td175:List Item:=.inBlock 1::td173
def cond_reader__chain_4.l0 (rec_cond_reader__not : cond_reader → Option (Sum PErr (Int × Int × api_Token × Int × (List api_Node)))) (a0v : cond_reader) (a1 : ByteArray) (a2 t45 t46 : Int) (t47 : api_Token) (t48 : Int) (t49 : List api_Node) : Option (Sum (Int × Int × api_Token × Int × (List api_Node)) (Sum PErr (Int × Int × api_Token × Int × (List api_Node)))) :=
  (cond_reader__sees.f (⟨a0v.l,t46,t47,t48,t49⟩ : cond_reader) 0 4 a1 >>= (fun t63 => (if t63 = true then (cond_reader__take.f (⟨a0v.l,t46,t47,t48,t49⟩ : cond_reader) >>= (fun (t80,t81,t82) => (cond_reader__and_2.f rec_cond_reader__not (⟨a0v.l,t81,t82,t48,t49⟩ : cond_reader) >>= (fun | .inl pe103 => some (.inr (.inl pe103)) | .inr (t93,t94,t95,t96,t97) => (cond_reader__node.f (⟨a0v.l,t94,t95,t96,t97⟩ : cond_reader) (⟨a2,t45,t93,(⟨0,(⟨#[]⟩ : ByteArray)⟩ : api_Ref),0⟩ : api_Node) >>= (fun | .inl pe124 => some (.inr (.inl pe124)) | .inr (t117,t118) => (cond_reader__chain_4.l0 rec_cond_reader__not a0v a1 a2 t117 t94 t95 t96 t118))))))) else some (.inl (t45,t46,t47,t48,t49)))))
 partial_fixpoint
def cond_reader__chain_4.f (rec_cond_reader__not : cond_reader → Option (Sum PErr (Int × Int × api_Token × Int × (List api_Node)))) (a0v : cond_reader) (a1 : ByteArray) (a2 : Int) : Option (Sum PErr (Int × Int × api_Token × Int × (List api_Node))) :=
  (cond_reader__and_2.f rec_cond_reader__not a0v >>= (fun | .inl pe11 => some (.inl pe11) | .inr (t1,t2,t3,t4,t5) => (cond_reader__chain_4.l0 rec_cond_reader__not a0v a1 a2 t1 t2 t3 t4 t5 >>= (fun | .inl (t29,t30,t31,t32,t33) => some (.inr (t29,t30,t31,t32,t33)) | .inr e => some e))))
theorem cond_reader__chain_4.ok (rec_cond_reader__not : cond_reader → Option (Sum PErr (Int × Int × api_Token × Int × (List api_Node)))) (hrec_cond_reader__not : cond_reader__not.Spec rec_cond_reader__not) {a0v : cond_reader} {a1 : ByteArray} {a2 : Int} {ba0 : Nat} {y7 : Option Addr} {y8 : Nat} {y9 : Option Addr} {y10 : Nat} {qr : Sum PErr (Int × Int × api_Token × Int × (List api_Node))} (hp0 : cond_reader__chain_4.f rec_cond_reader__not a0v a1 a2 = some qr) (hS0 : St w0 Z (xblk ba0 114 ([.slice y7 a0v.l.length y8,.int .i64 a0v.at_] ++ (enc_api_Token a0v.last) ++ [.int .i64 a0v.depth,.slice y9 a0v.c.length y10])::xrow y9 y10 68 6 (a0v.c.flatMap enc_api_Node)::fs) w) (y11 : SlZ (flat enc_api_Token) 7 Z y7 y8 a0v.l) (hE : Env Z) :
    Calls Tryz.prog 73 #[.pointer (some ⟨ba0,0,none⟩),.string a1,.int .i64 a2,.func (.func 74) #[.pointer (some ⟨ba0,0,none⟩)] #[]] w (fun e w' => PanQ (fun p => ∃ (v : Value) (Z' : Zm),Zm.Le Z Z' ∧ e = .panicked [{ v:=v,recovered:=false }] ∧ St w0 Z' fs w' ∧ RepE 37 78 Z' v p) (fun q => ∃ (QA0 : Option Addr) (Qc0 : Nat),e = .returned (.int .i64 q.1) ∧ St w0 Z (xrow QA0 Qc0 68 6 (q.2.2.2.2.flatMap enc_api_Node)::xblk ba0 114 ([.slice y7 a0v.l.length y8,.int .i64 q.2.1] ++ (enc_api_Token q.2.2.1) ++ [.int .i64 q.2.2.2.1,.slice QA0 q.2.2.2.2.length Qc0])::fs) w') qr):=by
  refine calls_abs ?_; intro R hR
  unfold cond_reader__chain_4.f at hp0
  refine calls_of_runs (fn:=Tryz.f73) (c:=cd73 []) Tryz.func73 (by kernel_rfl) (al:=[.pointer (some ⟨ba0,0,none⟩),.string a1,.int .i64 a2,.func (.func 74) #[.pointer (some ⟨ba0,0,none⟩)] #[]]) rfl (n:=23) rfl ?_
  refine sR 7 [.inRegion (opsOf (cd73 [1,0])) [1,2],.code (cd73 [1,1])] ?_
  obtain ⟨q10,hr8,hp9⟩:=bind_some' hp0
  have hS15:=hS0.pick1
  have hS16:=hS15.pick1
  refine rCB (cond_reader__and_2.ok rec_cond_reader__not hrec_cond_reader__not hr8 hS16 y11 hE) ?_
  intro e14 w13 hQ12
  rcases q10 with pe11 | ⟨t1,t2,t3,t4,t5⟩
  all_goals try dsimp only at hp9
  ·obtain ⟨v17,Z18,hz19,rfl,hS20,he21⟩:=hQ12
   refine .inr ⟨_,rfl,?_⟩
   refine raised_fx Tryz.func73 ?_
   cases Option.some.inj hp9
   exact hR _ _ (panq_l ⟨v17,Z18,hz19,rfl,hS20,he21⟩)
  obtain ⟨Q6,Q7,rfl,hS25⟩:=hQ12
  try dsimp only at hS25
  refine .inl ⟨_,rfl,?_⟩
  refine sR 5 td174 ?_
  obtain ⟨v26,hv27,hp28⟩:=bind_some' hp9
  have hq39 : ∀ x,Sum.inr x = v26 → x = qr:=by intro x hx; subst hx; simpa using hp28
  have J40 : ∀ (t29 t30 : Int) (t31 : api_Token) (t32 : Int) (t33 : List api_Node) (he42 : Sum.inl (t29,t30,t31,t32,t33) = v26) (l41 : List Value) (A34 : Option Addr) (c35 : Nat) (w37 : World) (hS38 : St w0 Z (xblk ba0 114 ([.slice y7 a0v.l.length y8,.int .i64 t30] ++ (enc_api_Token t31) ++ [.int .i64 t32,.slice A34 t33.length c35])::xrow A34 c35 68 6 (t33.flatMap enc_api_Node)::fs) w37),Runs Tryz.prog (fx 73) td171 (fill (mk 27 [(9,.int .i64 t29)]) l41) w37 R:=by
   intro t29 t30 t31 t32 t33 he42 l41 A34 c35 w37 hS38
   subst he42
   try dsimp only at hp28
   refine sR 5 [.code (cd73 [1,1,1,1])] ?_
   have hS43:=hS38.pick1
   refine rR (.int .i64 t29) Tryz.func73 ?_
   cases Option.some.inj hp28
   exact hR _ _ (panq_r ⟨A34,c35,rfl,hS43⟩)
  have L61 : ∀ (t45 t46 : Int) (t47 : api_Token) (t48 : Int) (t49 : List api_Node) (e56 : Sum (Int × Int × api_Token × Int × (List api_Node)) (Sum PErr (Int × Int × api_Token × Int × (List api_Node)))),cond_reader__chain_4.l0 rec_cond_reader__not a0v a1 a2 t45 t46 t47 t48 t49 = some e56 → e56 = v26 → ∀ (l55 : List Value) (A50 : Option Addr) (c51 : Nat) (w53 : World) (hS54 : St w0 Z (xblk ba0 114 ([.slice y7 a0v.l.length y8,.int .i64 t46] ++ (enc_api_Token t47) ++ [.int .i64 t48,.slice A50 t49.length c51])::xrow A50 c51 68 6 (t49.flatMap enc_api_Node)::fs) w53),Runs Tryz.prog (fx 73) td174 (fill (mk 27 [(0,.pointer (some ⟨ba0,0,none⟩)),(1,.string a1),(2,.int .i64 a2),(3,.func (.func 74) #[.pointer (some ⟨ba0,0,none⟩)] #[]),(9,.int .i64 t45)]) l55) w53 R:=by
   refine cond_reader__chain_4.l0.partial_correctness rec_cond_reader__not a0v a1 a2 (fun t45 t46 t47 t48 t49 e56 => e56 = v26 → ∀ (l55 : List Value) (A50 : Option Addr) (c51 : Nat) (w53 : World) (hS54 : St w0 Z (xblk ba0 114 ([.slice y7 a0v.l.length y8,.int .i64 t46] ++ (enc_api_Token t47) ++ [.int .i64 t48,.slice A50 t49.length c51])::xrow A50 c51 68 6 (t49.flatMap enc_api_Node)::fs) w53),Runs Tryz.prog (fx 73) td174 (fill (mk 27 [(0,.pointer (some ⟨ba0,0,none⟩)),(1,.string a1),(2,.int .i64 a2),(3,.func (.func 74) #[.pointer (some ⟨ba0,0,none⟩)] #[]),(9,.int .i64 t45)]) l55) w53 R) ?_
   intro rec60 ih59 t45 t46 t47 t48 t49 e56 hb58 he57 l55 A50 c51 w53 hS54
   have hq62 : ∀ x,Sum.inr x = e56 → x = qr:=fun x hx => hq39 x (hx.trans he57)
   refine sR 5 (.inRegion (opsOf (cd73 [1,1,0,0,0,0,0])) [2]::.code (cd73 [1,1,0,0,0,0,1])::.code (cd73 [1,1,0,0,0,1])::td173) ?_
   obtain ⟨t63,hr64,hp65⟩:=bind_some' hb58
   have hS68:=hS54.pick1
   obtain ⟨Z69,hz70,hS71,hs72,hb73⟩:=hS68.lendrow len_api_Node (by omega)
   refine rC (cond_reader__sees.ok hr64 hS71 (y11.up hz70) hs72) ?_
   rintro _ w74 ⟨rfl,hS75⟩
   refine ⟨_,rfl,?_⟩
   have hS76:=hb73 _ _ hS75
   refine sR 1 (.code (cd73 [1,1,0,0,0,0,1])::.code (cd73 [1,1,0,0,0,1])::td173) ?_
   cases t63
   ·have hp77:=ite_f hp65 rfl
    refine sR 2 td171 ?_
    have hS78:=hS76.pick1
    exact rF _ (J40 t45 t46 t47 t48 t49 ((Option.some.inj hp77).trans he57) _ A50 c51 _ hS78)
   have hp79:=ite_t hp65 rfl
   refine sR 6 (.inRegion (opsOf (cd73 [1,1,0,0,0,1,0,0])) [1]::.code (cd73 [1,1,0,0,0,1,0,1])::td175) ?_
   obtain ⟨⟨t80,t81,t82⟩,hr83,hp84⟩:=bind_some' hp79
   try dsimp only at hp84
   obtain ⟨Z85,hz86,hS87,hs88,hb89⟩:=hS76.lendrow len_api_Node (by omega)
   refine rC (cond_reader__take.ok hr83 hS87 (y11.up hz86) hs88) ?_
   rintro _ w90 ⟨rfl,hS91⟩
   refine ⟨_,rfl,?_⟩
   have hS92:=hb89 _ _ hS91
   refine sR 4 (.inRegion (opsOf (cd73 [1,1,0,0,0,1,0,1,0])) [1,2]::.code p73_11::td175) ?_
   obtain ⟨q102,hr100,hp101⟩:=bind_some' hp84
   have hS107:=hS92.pick1
   refine rCB (cond_reader__and_2.ok rec_cond_reader__not hrec_cond_reader__not hr100 hS107 y11 hE) ?_
   intro e106 w105 hQ104
   rcases q102 with pe103 | ⟨t93,t94,t95,t96,t97⟩
   all_goals try dsimp only at hp101
   ·obtain ⟨v108,Z109,hz110,rfl,hS111,he112⟩:=hQ104
    refine .inr ⟨_,rfl,?_⟩
    refine raised_fx Tryz.func73 ?_
    cases hq62 _ (Option.some.inj hp101)
    exact hR _ _ (panq_l ⟨v108,Z109,hz110,rfl,hS111,he112⟩)
   obtain ⟨Q98,Q99,rfl,hS116⟩:=hQ104
   try dsimp only at hS116
   refine .inl ⟨_,rfl,?_⟩
   refine sR 8 (.inRegion (opsOf p73_11) [5,6]::td175) ?_
   obtain ⟨q123,hr121,hp122⟩:=bind_some' hp101
   have hS128:=hS116.pick1
   refine rCB (cond_reader__node.ok hr121 hS128 y11) ?_
   intro e127 w126 hQ125
   rcases q123 with pe124 | ⟨t117,t118⟩
   all_goals try dsimp only at hp122
   ·obtain ⟨v129,Z130,hz131,rfl,hS132,he133⟩:=hQ125
    refine .inr ⟨_,rfl,?_⟩
    refine raised_fx Tryz.func73 ?_
    cases hq62 _ (Option.some.inj hp122)
    exact hR _ _ (panq_l ⟨v129,Z130,hz131,rfl,hS132,he133⟩)
   obtain ⟨Q119,Q120,rfl,hS137⟩:=hQ125
   try dsimp only at hS137
   refine .inl ⟨_,rfl,?_⟩
   refine sR 3 td173 ?_
   have hS138:=hS137.pick1
   refine sR 1 td174 ?_
   exact rF _ (ih59 t117 t94 t95 t96 t118 _ hp122 he57 _ Q119 Q120 _ hS138)
  have hS139:=hS25.pick1
  exact rF _ (L61 t1 t2 t3 t4 t5 _ hv27 rfl _ Q6 Q7 _ hS139)

noncomputable def cd46 (p : List Nat) : Code := sub (bodyOf Tryz.f46) p
def cond_reader__cond_2.f (rec_cond_reader__not : cond_reader → Option (Sum PErr (Int × Int × api_Token × Int × (List api_Node)))) (a0v : cond_reader) : Option (Sum PErr (Int × Int × api_Token × Int × (List api_Node))) :=
  (cond_reader__chain_4.f rec_cond_reader__not a0v (⟨#[92,47]⟩ : ByteArray) 5 >>= (fun | .inl pe11 => some (.inl pe11) | .inr (t1,t2,t3,t4,t5) => some (.inr (t1,t2,t3,t4,t5))))
theorem cond_reader__cond_2.ok (rec_cond_reader__not : cond_reader → Option (Sum PErr (Int × Int × api_Token × Int × (List api_Node)))) (hrec_cond_reader__not : cond_reader__not.Spec rec_cond_reader__not) {a0v : cond_reader} {ba0 : Nat} {y7 : Option Addr} {y8 : Nat} {y9 : Option Addr} {y10 : Nat} {qr : Sum PErr (Int × Int × api_Token × Int × (List api_Node))} (hp0 : cond_reader__cond_2.f rec_cond_reader__not a0v = some qr) (hS0 : St w0 Z (xblk ba0 114 ([.slice y7 a0v.l.length y8,.int .i64 a0v.at_] ++ (enc_api_Token a0v.last) ++ [.int .i64 a0v.depth,.slice y9 a0v.c.length y10])::xrow y9 y10 68 6 (a0v.c.flatMap enc_api_Node)::fs) w) (y11 : SlZ (flat enc_api_Token) 7 Z y7 y8 a0v.l) (hE : Env Z) :
    Calls Tryz.prog 46 #[.pointer (some ⟨ba0,0,none⟩)] w (fun e w' => PanQ (fun p => ∃ (v : Value) (Z' : Zm),Zm.Le Z Z' ∧ e = .panicked [{ v:=v,recovered:=false }] ∧ St w0 Z' fs w' ∧ RepE 37 78 Z' v p) (fun q => ∃ (QA0 : Option Addr) (Qc0 : Nat),e = .returned (.int .i64 q.1) ∧ St w0 Z (xrow QA0 Qc0 68 6 (q.2.2.2.2.flatMap enc_api_Node)::xblk ba0 114 ([.slice y7 a0v.l.length y8,.int .i64 q.2.1] ++ (enc_api_Token q.2.2.1) ++ [.int .i64 q.2.2.2.1,.slice QA0 q.2.2.2.2.length Qc0])::fs) w') qr):=by
  refine calls_abs ?_; intro R hR
  unfold cond_reader__cond_2.f at hp0
  refine calls_of_runs (fn:=Tryz.f46) (c:=cd46 []) Tryz.func46 (by kernel_rfl) (al:=[.pointer (some ⟨ba0,0,none⟩)]) rfl (n:=6) rfl ?_
  refine sR 9 [.inRegion (opsOf (cd46 [1,0])) [3,4],.code (cd46 [1,1])] ?_
  obtain ⟨q10,hr8,hp9⟩:=bind_some' hp0
  have hS15:=hS0.pick1
  have hS16:=hS15.pick1
  refine rCB (cond_reader__chain_4.ok rec_cond_reader__not hrec_cond_reader__not hr8 hS16 y11 hE) ?_
  intro e14 w13 hQ12
  rcases q10 with pe11 | ⟨t1,t2,t3,t4,t5⟩
  all_goals try dsimp only at hp9
  ·obtain ⟨v17,Z18,hz19,rfl,hS20,he21⟩:=hQ12
   refine .inr ⟨_,rfl,?_⟩
   refine raised_fx Tryz.func46 ?_
   cases Option.some.inj hp9
   exact hR _ _ (panq_l ⟨v17,Z18,hz19,rfl,hS20,he21⟩)
  obtain ⟨Q6,Q7,rfl,hS25⟩:=hQ12
  try dsimp only at hS25
  refine .inl ⟨_,rfl,?_⟩
  refine sR 2 [.code (cd46 [1,1])] ?_
  refine rR (.int .i64 t1) Tryz.func46 ?_
  cases Option.some.inj hp9
  exact hR _ _ (panq_r ⟨Q6,Q7,rfl,hS25⟩)

noncomputable def cd114 (p : List Nat) : Code := sub (bodyOf Tryz.f114) p
abbrev p114_7:=cd114 [1,0,0,1,1,1,1,0]
abbrev p114_12:=cd114 [1,0,0,1,1,1,1,1,0,1,1]
abbrev p114_19:=cd114 [1,0,0,1,1,1,0,1,1,1,0]
abbrev p114_20:=cd114 [1,0,0,1,1,1,0,1,1,1,1]
abbrev td176:List Item:=[.code (cd114 [1,1])]
abbrev td177:List Item:=.inBlock 0::td176
abbrev td178:List Item:=.code (cd114 [1,0,0,1,1,1,1,1])::td177
def cond_reader__not.body (rec_cond_reader__not : cond_reader → Option (Sum PErr (Int × Int × api_Token × Int × (List api_Node)))) (a0v : cond_reader) : Option (Sum PErr (Int × Int × api_Token × Int × (List api_Node))) :=
  (cond_reader__sees.f a0v 0 4 (⟨#[126]⟩ : ByteArray) >>= (fun t1 => (((if t1 = true then (cond_reader__opens.f a0v >>= (fun | .inl pe225 => some (.inr (.inl pe225)) | .inr (t219,t220,t221) => (rec_cond_reader__not (⟨a0v.l,t219,t220,t221,a0v.c⟩ : cond_reader) >>= (fun | .inl pe257 => some (.inr (.inl pe257)) | .inr (t247,t248,t249,t250,t251) => (cond_reader__node.f (⟨a0v.l,t248,t249,(IntKind.i64.wrap (t250 - 1)),t251⟩ : cond_reader) (⟨3,t247,0,(⟨0,(⟨#[]⟩ : ByteArray)⟩ : api_Ref),0⟩ : api_Node) >>= (fun | .inl pe281 => some (.inr (.inl pe281)) | .inr (t274,t275) => some (.inr (.inr (t274,t248,t249,(IntKind.i64.wrap (t250 - 1)),t275))))))))) else (cond_reader__sees.f a0v 0 4 (⟨#[40]⟩ : ByteArray) >>= (fun t50 => (if t50 = true then (cond_reader__opens.f a0v >>= (fun | .inl pe140 => some (.inr (.inl pe140)) | .inr (t134,t135,t136) => (cond_reader__cond_2.f rec_cond_reader__not (⟨a0v.l,t134,t135,t136,a0v.c⟩ : cond_reader) >>= (fun | .inl pe172 => some (.inr (.inl pe172)) | .inr (t162,t163,t164,t165,t166) => (cond_reader__sign.f (⟨a0v.l,t163,t164,t165,t166⟩ : cond_reader) (⟨#[41]⟩ : ByteArray) >>= (fun | .inl pe191 => some (.inr (.inl pe191)) | .inr (t186,t187) => some (.inr (.inr (t162,t186,t187,(IntKind.i64.wrap (t165 - 1)),t166))))))))) else (cond_reader__sees.f a0v 0 1 (⟨#[116,114,117,101]⟩ : ByteArray) >>= (fun t64 => (if t64 = true then (cond_reader__sees.f a0v 1 4 (⟨#[61]⟩ : ByteArray) >>= (fun t80 => (if (!t80) = true then (cond_reader__take.f a0v >>= (fun (t96,t97,t98) => (cond_reader__node.f (⟨a0v.l,t97,t98,a0v.depth,a0v.c⟩ : cond_reader) (⟨1,0,0,(⟨0,(⟨#[]⟩ : ByteArray)⟩ : api_Ref),0⟩ : api_Node) >>= (fun | .inl pe116 => some (.inr (.inl pe116)) | .inr (t109,t110) => some (.inr (.inr (t109,t97,t98,a0v.depth,t110))))))) else some (.inl ())))) else some (.inl ())))))))) : Option (Sum Unit (Sum PErr (Int × Int × api_Token × Int × (List api_Node))))) >>= (fun | .inl () => (cond_reader__is.f a0v >>= (fun | .inl pe33 => some (.inl pe33) | .inr (t24,t25,t26,t27) => some (.inr (t24,t25,t26,a0v.depth,t27)))) | .inr e => some e))))
theorem cond_reader__not.bok (rec_cond_reader__not : cond_reader → Option (Sum PErr (Int × Int × api_Token × Int × (List api_Node)))) (hrec_cond_reader__not : cond_reader__not.Spec rec_cond_reader__not) : cond_reader__not.Spec (cond_reader__not.body rec_cond_reader__not):=by
  intro a0v ba0 y7 y8 y9 y10 w0 Z fs w hS0 y11 hE qr hp0
  refine calls_abs ?_; intro R hR
  unfold cond_reader__not.body at hp0
  refine calls_of_runs (fn:=Tryz.f114) (c:=cd114 []) Tryz.func114 (by kernel_rfl) (al:=[.pointer (some ⟨ba0,0,none⟩)]) rfl (n:=54) rfl ?_
  refine sR 9 (.inRegion (opsOf (cd114 [1,0,0,0])) [1,2]::.code (cd114 [1,0,0,1])::td177) ?_
  obtain ⟨t1,hr2,hp3⟩:=bind_some' hp0
  have hS6:=hS0.pick1
  obtain ⟨Z7,hz8,hS9,hs10,hb11⟩:=hS6.lendrow len_api_Node (by omega)
  refine rC (cond_reader__sees.ok hr2 hS9 (y11.up hz8) hs10) ?_
  rintro _ w12 ⟨rfl,hS13⟩
  refine ⟨_,rfl,?_⟩
  have hS14:=hb11 _ _ hS13
  refine sR 2 (.code (cd114 [1,0,0,1])::td177) ?_
  obtain ⟨v15,hv16,hp17⟩:=bind_some' hp3
  have hq20 : ∀ x,Sum.inr x = v15 → x = qr:=by intro x hx; subst hx; simpa using hp17
  have J21 : ∀ (he23 : Sum.inl () = v15) (l22 : List Value) (w18 : World) (hS19 : St w0 Z (xblk ba0 114 ([.slice y7 a0v.l.length y8,.int .i64 a0v.at_] ++ (enc_api_Token a0v.last) ++ [.int .i64 a0v.depth,.slice y9 a0v.c.length y10])::xrow y9 y10 68 6 (a0v.c.flatMap enc_api_Node)::fs) w18),Runs Tryz.prog (fx 114) td176 (fill (mk 55 [(0,.pointer (some ⟨ba0,0,none⟩))]) l22) w18 R:=by
   intro he23 l22 w18 hS19
   subst he23
   try dsimp only at hp17
   refine sR 3 [.inRegion (opsOf (cd114 [1,1,0])) [1,2],.code (cd114 [1,1,1])] ?_
   obtain ⟨q32,hr30,hp31⟩:=bind_some' hp17
   have hS37:=hS19.pick1
   have hS38:=hS37.pick1
   refine rCB (cond_reader__is.ok hr30 hS38 y11 hE) ?_
   intro e36 w35 hQ34
   rcases q32 with pe33 | ⟨t24,t25,t26,t27⟩
   all_goals try dsimp only at hp31
   ·obtain ⟨v39,Z40,hz41,rfl,hS42,he43⟩:=hQ34
    refine .inr ⟨_,rfl,?_⟩
    refine raised_fx Tryz.func114 ?_
    cases Option.some.inj hp31
    exact hR _ _ (panq_l ⟨v39,Z40,hz41,rfl,hS42,he43⟩)
   obtain ⟨Q28,Q29,rfl,hS47⟩:=hQ34
   try dsimp only at hS47
   refine .inl ⟨_,rfl,?_⟩
   refine sR 2 [.code (cd114 [1,1,1])] ?_
   refine rR (.int .i64 t24) Tryz.func114 ?_
   cases Option.some.inj hp31
   exact hR _ _ (panq_r ⟨Q28,Q29,rfl,hS47⟩)
  cases t1
  ·have hp49:=ite_f hv16 rfl
   refine sR 4 (.inRegion (opsOf (cd114 [1,0,0,1,1,0])) [1,2]::.code (cd114 [1,0,0,1,1,1])::td177) ?_
   obtain ⟨t50,hr51,hp52⟩:=bind_some' hp49
   obtain ⟨Z55,hz56,hS57,hs58,hb59⟩:=hS14.lendrow len_api_Node (by omega)
   refine rC (cond_reader__sees.ok hr51 hS57 (y11.up hz56) hs58) ?_
   rintro _ w60 ⟨rfl,hS61⟩
   refine ⟨_,rfl,?_⟩
   have hS62:=hb59 _ _ hS61
   refine sR 2 (.code (cd114 [1,0,0,1,1,1])::td177) ?_
   cases t50
   ·have hp63:=ite_f hp52 rfl
    refine sR 4 (iR p114_7 1 7::td178) ?_
    obtain ⟨t64,hr65,hp66⟩:=bind_some' hp63
    obtain ⟨Z69,hz70,hS71,hs72,hb73⟩:=hS62.lendrow len_api_Node (by omega)
    refine rC (cond_reader__sees.ok hr65 hS71 (y11.up hz70) hs72) ?_
    rintro _ w74 ⟨rfl,hS75⟩
    refine ⟨_,rfl,?_⟩
    have hS76:=hb73 _ _ hS75
    refine sR 1 (iR p114_7 3 5::td178) ?_
    cases t64
    ·have hp77:=ite_f hp66 rfl
     refine sR 9 td176 ?_
     have hS78:=hS76.pick1
     exact rF _ (J21 (Option.some.inj hp77) _ _ hS78)
    have hp79:=ite_t hp66 rfl
    refine sR 1 (iR p114_7 4 4::td178) ?_
    obtain ⟨t80,hr81,hp82⟩:=bind_some' hp79
    obtain ⟨Z85,hz86,hS87,hs88,hb89⟩:=hS76.lendrow len_api_Node (by omega)
    refine rC (cond_reader__sees.ok hr81 hS87 (y11.up hz86) hs88) ?_
    rintro _ w90 ⟨rfl,hS91⟩
    refine ⟨_,rfl,?_⟩
    have hS92:=hb89 _ _ hS91
    refine sI 1 (.inRegion (opsOf p114_7) [6,7]::td178) 46 hp82 (fun hp95 => ?_) fun hp131 => ?_
    ·refine sR 7 (.inRegion (opsOf (cd114 [1,0,0,1,1,1,1,1,0,0])) [1]::.code (cd114 [1,0,0,1,1,1,1,1,0,1])::td177) ?_
     obtain ⟨⟨t96,t97,t98⟩,hr99,hp100⟩:=bind_some' hp95
     try dsimp only at hp100
     obtain ⟨Z101,hz102,hS103,hs104,hb105⟩:=hS92.lendrow len_api_Node (by omega)
     refine rC (cond_reader__take.ok hr99 hS103 (y11.up hz102) hs104) ?_
     rintro _ w106 ⟨rfl,hS107⟩
     refine ⟨_,rfl,?_⟩
     have hS108:=hb105 _ _ hS107
     refine sR 5 (.inRegion (opsOf (cd114 [1,0,0,1,1,1,1,1,0,1,0])) [2,3]::.code p114_12::td177) ?_
     obtain ⟨q115,hr113,hp114⟩:=bind_some' hp100
     have hS120:=hS108.pick1
     refine rCB (cond_reader__node.ok hr113 hS120 y11) ?_
     intro e119 w118 hQ117
     rcases q115 with pe116 | ⟨t109,t110⟩
     all_goals try dsimp only at hp114
     ·obtain ⟨v121,Z122,hz123,rfl,hS124,he125⟩:=hQ117
      refine .inr ⟨_,rfl,?_⟩
      refine raised_fx Tryz.func114 ?_
      cases hq20 _ (Option.some.inj hp114)
      exact hR _ _ (panq_l ⟨v121,Z122,hz123,rfl,hS124,he125⟩)
     obtain ⟨Q111,Q112,rfl,hS129⟩:=hQ117
     try dsimp only at hS129
     refine .inl ⟨_,rfl,?_⟩
     refine sR 2 (.code p114_12::td177) ?_
     refine rR (.int .i64 t109) Tryz.func114 ?_
     cases hq20 _ (Option.some.inj hp114)
     exact hR _ _ (panq_r ⟨Q111,Q112,rfl,hS129⟩)
    refine sR 6 td176 ?_
    have hS132:=hS92.pick1
    exact rF _ (J21 (Option.some.inj hp131) _ _ hS132)
   have hp133:=ite_t hp52 rfl
   refine sR 4 (.inRegion (opsOf (cd114 [1,0,0,1,1,1,0,0])) [1]::.code (cd114 [1,0,0,1,1,1,0,1])::td177) ?_
   obtain ⟨q139,hr137,hp138⟩:=bind_some' hp133
   rcases q139 with pe140 | ⟨t134,t135,t136⟩
   ·try dsimp only at hp138
    obtain ⟨Z141,hz142,hS143,hs144,hb145⟩:=hS62.lendrow len_api_Node (by omega)
    refine rCX (cond_reader__opens.ok hr137 hS143 (y11.up hz142) hs144) ?_
    rintro _ w151 ⟨v146,Z147,hz148,rfl,hS149,he150⟩
    refine ⟨_,rfl,?_⟩
    refine raised_fx Tryz.func114 ?_
    cases hq20 _ (Option.some.inj hp138)
    exact hR _ _ (panq_l ⟨v146,Z147,(Zm.Le.trans hz142 hz148),rfl,hS149,he150⟩)
   try dsimp only at hp138
   obtain ⟨Z154,hz155,hS156,hs157,hb158⟩:=hS62.lendrow len_api_Node (by omega)
   refine rC (cond_reader__opens.ok hr137 hS156 (y11.up hz155) hs157) ?_
   rintro _ w159 ⟨rfl,hS160⟩
   try dsimp only at hS160
   refine ⟨_,rfl,?_⟩
   have hS161:=hb158 _ _ hS160
   refine sR 4 (.inRegion (opsOf (cd114 [1,0,0,1,1,1,0,1,0])) [1,2]::.code (cd114 [1,0,0,1,1,1,0,1,1])::td177) ?_
   obtain ⟨q171,hr169,hp170⟩:=bind_some' hp138
   have hS176:=hS161.pick1
   refine rCB (cond_reader__cond_2.ok rec_cond_reader__not hrec_cond_reader__not hr169 hS176 y11 hE) ?_
   intro e175 w174 hQ173
   rcases q171 with pe172 | ⟨t162,t163,t164,t165,t166⟩
   all_goals try dsimp only at hp170
   ·obtain ⟨v177,Z178,hz179,rfl,hS180,he181⟩:=hQ173
    refine .inr ⟨_,rfl,?_⟩
    refine raised_fx Tryz.func114 ?_
    cases hq20 _ (Option.some.inj hp170)
    exact hR _ _ (panq_l ⟨v177,Z178,hz179,rfl,hS180,he181⟩)
   obtain ⟨Q167,Q168,rfl,hS185⟩:=hQ173
   try dsimp only at hS185
   refine .inl ⟨_,rfl,?_⟩
   refine sR 5 (.inRegion (opsOf (cd114 [1,0,0,1,1,1,0,1,1,0])) [1]::.code (cd114 [1,0,0,1,1,1,0,1,1,1])::td177) ?_
   obtain ⟨q190,hr188,hp189⟩:=bind_some' hp170
   rcases q190 with pe191 | ⟨t186,t187⟩
   ·try dsimp only at hp189
    obtain ⟨Z192,hz193,hS194,hs195,hb196⟩:=hS185.lendrow len_api_Node (by omega)
    refine rCX (cond_reader__sign.ok hr188 hS194 (y11.up hz193) hs195) ?_
    rintro _ w202 ⟨v197,Z198,hz199,rfl,hS200,he201⟩
    refine ⟨_,rfl,?_⟩
    refine raised_fx Tryz.func114 ?_
    cases hq20 _ (Option.some.inj hp189)
    exact hR _ _ (panq_l ⟨v197,Z198,(Zm.Le.trans hz193 hz199),rfl,hS200,he201⟩)
   try dsimp only at hp189
   obtain ⟨Z205,hz206,hS207,hs208,hb209⟩:=hS185.lendrow len_api_Node (by omega)
   refine rC (cond_reader__sign.ok hr188 hS207 (y11.up hz206) hs208) ?_
   rintro _ w210 ⟨rfl,hS211⟩
   try dsimp only at hS211
   refine ⟨_,rfl,?_⟩
   have hS212:=hb209 _ _ hS211
   refine sR 6 (iR p114_19 3 5::.code p114_20::td177) ?_
   refine rL1 3 (.tmp 34) 9 (hS212.blk 1 rfl) ?_
   refine sR 3 (.inRegion (opsOf p114_19) [7]::.code p114_20::td177) ?_
   have hS213:=hS212.pick1
   refine rS 3 (.tmp 38) (.tmp 36) 9 (.int .i64 (IntKind.i64.wrap (t165 - 1))) [.int .i64 (IntKind.i64.wrap (t165 - 1))] ([.slice y7 a0v.l.length y8,.int .i64 t186] ++ (enc_api_Token t187) ++ [.int .i64 (IntKind.i64.wrap (t165 - 1)),.slice Q167 t166.length Q168]) hS213 ?_
   intro w214 hS215
   refine sR 6 (.code (cd114 [1,0,0,1,1,1,0,1,1,1,1,1])::td177) ?_
   have hS216:=hS215.pick1
   refine rR (.int .i64 t162) Tryz.func114 ?_
   cases hq20 _ (Option.some.inj hp189)
   exact hR _ _ (panq_r ⟨Q167,Q168,rfl,hS216⟩)
  have hp218:=ite_t hv16 rfl
  refine sR 4 (.inRegion (opsOf (cd114 [1,0,0,1,0,0])) [1]::.code (cd114 [1,0,0,1,0,1])::td177) ?_
  obtain ⟨q224,hr222,hp223⟩:=bind_some' hp218
  rcases q224 with pe225 | ⟨t219,t220,t221⟩
  ·try dsimp only at hp223
   obtain ⟨Z226,hz227,hS228,hs229,hb230⟩:=hS14.lendrow len_api_Node (by omega)
   refine rCX (cond_reader__opens.ok hr222 hS228 (y11.up hz227) hs229) ?_
   rintro _ w236 ⟨v231,Z232,hz233,rfl,hS234,he235⟩
   refine ⟨_,rfl,?_⟩
   refine raised_fx Tryz.func114 ?_
   cases hq20 _ (Option.some.inj hp223)
   exact hR _ _ (panq_l ⟨v231,Z232,(Zm.Le.trans hz227 hz233),rfl,hS234,he235⟩)
  try dsimp only at hp223
  obtain ⟨Z239,hz240,hS241,hs242,hb243⟩:=hS14.lendrow len_api_Node (by omega)
  refine rC (cond_reader__opens.ok hr222 hS241 (y11.up hz240) hs242) ?_
  rintro _ w244 ⟨rfl,hS245⟩
  try dsimp only at hS245
  refine ⟨_,rfl,?_⟩
  have hS246:=hb243 _ _ hS245
  refine sR 4 (.inRegion (opsOf (cd114 [1,0,0,1,0,1,0])) [1,2]::.code (cd114 [1,0,0,1,0,1,1])::td177) ?_
  obtain ⟨q256,hr254,hp255⟩:=bind_some' hp223
  have hS261:=hS246.pick1
  refine rCB (hrec_cond_reader__not (⟨a0v.l,t219,t220,t221,a0v.c⟩ : cond_reader) ba0 y7 y8 y9 y10 hS261 y11 hE hr254) ?_
  intro e260 w259 hQ258
  rcases q256 with pe257 | ⟨t247,t248,t249,t250,t251⟩
  all_goals try dsimp only at hp255
  ·obtain ⟨v262,Z263,hz264,rfl,hS265,he266⟩:=hQ258
   refine .inr ⟨_,rfl,?_⟩
   refine raised_fx Tryz.func114 ?_
   cases hq20 _ (Option.some.inj hp255)
   exact hR _ _ (panq_l ⟨v262,Z263,hz264,rfl,hS265,he266⟩)
  obtain ⟨Q252,Q253,rfl,hS270⟩:=hQ258
  try dsimp only at hS270
  refine .inl ⟨_,rfl,?_⟩
  refine sR 7 (iR (cd114 [1,0,0,1,0,1,1,0]) 3 5::.code (cd114 [1,0,0,1,0,1,1,1])::td177) ?_
  refine rL1 3 (.tmp 14) 9 (hS270.blk 1 rfl) ?_
  refine sR 3 (.inRegion (opsOf (cd114 [1,0,0,1,0,1,1,0])) [7]::.code (cd114 [1,0,0,1,0,1,1,1])::td177) ?_
  have hS271:=hS270.pick1
  refine rS 3 (.tmp 18) (.tmp 16) 9 (.int .i64 (IntKind.i64.wrap (t250 - 1))) [.int .i64 (IntKind.i64.wrap (t250 - 1))] ([.slice y7 a0v.l.length y8,.int .i64 t248] ++ (enc_api_Token t249) ++ [.int .i64 (IntKind.i64.wrap (t250 - 1)),.slice Q252 t251.length Q253]) hS271 ?_
  intro w272 hS273
  refine sR 6 (.inRegion (opsOf (cd114 [1,0,0,1,0,1,1,1,0])) [3,4]::.code (cd114 [1,0,0,1,0,1,1,1,1])::td177) ?_
  obtain ⟨q280,hr278,hp279⟩:=bind_some' hp255
  have hS285:=hS273.pick1
  have hS286:=hS285.pick1
  refine rCB (cond_reader__node.ok hr278 hS286 y11) ?_
  intro e284 w283 hQ282
  rcases q280 with pe281 | ⟨t274,t275⟩
  all_goals try dsimp only at hp279
  ·obtain ⟨v287,Z288,hz289,rfl,hS290,he291⟩:=hQ282
   refine .inr ⟨_,rfl,?_⟩
   refine raised_fx Tryz.func114 ?_
   cases hq20 _ (Option.some.inj hp279)
   exact hR _ _ (panq_l ⟨v287,Z288,hz289,rfl,hS290,he291⟩)
  obtain ⟨Q276,Q277,rfl,hS295⟩:=hQ282
  try dsimp only at hS295
  refine .inl ⟨_,rfl,?_⟩
  refine sR 2 (.code (cd114 [1,0,0,1,0,1,1,1,1])::td177) ?_
  refine rR (.int .i64 t274) Tryz.func114 ?_
  cases hq20 _ (Option.some.inj hp279)
  exact hR _ _ (panq_r ⟨Q276,Q277,rfl,hS295⟩)
def cond_reader__not.f : Nat → cond_reader → Option (Sum PErr (Int × Int × api_Token × Int × (List api_Node)))
  | 0 => fun _ => none
  | n + 1 => cond_reader__not.body (cond_reader__not.f n)
theorem cond_reader__not.all : ∀ n,cond_reader__not.Spec (cond_reader__not.f n)
  | 0 => by
    intro a0v ba0 y7 y8 y9 y10 w0 Z fs w hS0 y11 hE qr hp0
    cases hp0
  | n + 1 => cond_reader__not.bok (cond_reader__not.f n) (cond_reader__not.all n)
theorem cond_reader__not.ok : cond_reader__not.Spec (cond_reader__not.f fuelN):=cond_reader__not.all fuelN

noncomputable def cd45 (p : List Nat) : Code := sub (bodyOf Tryz.f45) p
def cond_Take_1.f (a0v : List api_Node) (a1v : Int) (pe : PErr) : Option ((List api_Node) × Int × PErr) :=
  (PErr.cas pe (none) (fun n1 => none) (fun n2 n3 n4 => some (([],0,(.pos n2 n3 n4)))))
theorem cond_Take_1.ok (a0v : List api_Node) (a1v : Int) (pe : PErr) (ba0 : Nat) (Aa0v : Option Addr) (ca0v ba1 ba2 : Nat) (pv : Value) (hS0 : St w0 Z (xblk ba0 23 ([.slice Aa0v a0v.length ca0v])::xblk ba1 3 ([.int .i64 a1v])::xblk ba2 25 ([.nilIface])::fs) w) (ha0v : SlZ (flat enc_api_Node) 6 Z Aa0v ca0v a0v) (hpe : RepE 37 78 Z pv pe) {q0 : List api_Node} {q1 : Int} {q2 : PErr} (hp0 : cond_Take_1.f a0v a1v pe = some (q0,q1,q2)) :
    CallsD Tryz.prog 45 #[.pointer (some ⟨ba0,0,none⟩),.pointer (some ⟨ba1,0,none⟩),.pointer (some ⟨ba2,0,none⟩)] (.panicking [{ v:=pv,recovered:=false }]) w (fun e v w' => v = .panicking [{ v:=pv,recovered:=true }] ∧ ∃ (QA0 : Option Addr) (Qc0 : Nat) (Qv2 : Value),e = .returned (.tuple #[]) ∧ St w0 Z (xrow QA0 Qc0 68 6 (q0.flatMap enc_api_Node)::xblk ba0 23 ([.slice QA0 q0.length Qc0])::xblk ba1 3 ([.int .i64 q1])::xblk ba2 25 ([Qv2])::fs) w' ∧ RepE 37 78 Z Qv2 q2):=by
  refine callsD_abs ?_; intro R hR
  unfold cond_Take_1.f at hp0
  refine callsD_of_runs (fn:=Tryz.f45) (c:=cd45 []) Tryz.func45 (by kernel_rfl) (al:=[.pointer (some ⟨ba0,0,none⟩),.pointer (some ⟨ba1,0,none⟩),.pointer (some ⟨ba2,0,none⟩)]) rfl (n:=16) rfl ?_
  refine sR 2 [.inRegion (opsOf (cd45 [0])) [0,1],.code (cd45 [1])] ?_
  refine r_recover (c:=(cd45 [0])) (i:=0) (d:=(some 6)) (by kernel_rfl) (by kernel_rfl) (by kernel_rfl) (by kernel_rfl) ?_
  refine sR 5 [.inRegion (opsOf (cd45 [1,0])) [1],.code (cd45 [1,1])] ?_
  rcases pe with _ | n1 | ⟨n2,n3,n4⟩
  ·have hp5:=cas_nil hp0
   have hpe : pv = .nilIface:=hpe
   subst hpe
   cases hp5
  ·have hp6:=cas_num hp0
   have hpe : pv = .iface 37 (.int .i64 n1):=hpe
   subst hpe
   refine sR 22 [.inRegion (opsOf (cd45 [1,1,0,1,0,1,0])) [1],.code (cd45 [1,1,0,1,1])] ?_
   cases hp6
  have hp7:=cas_pos hp0
  obtain ⟨b8,hpe,hs9⟩:=hpe
  subst hpe
  refine sR 24 [.inRegion (opsOf (cd45 [1,1,0,1,1])) [2,3,4]] ?_
  refine rS 23 (.tmp 0) (.const (.slice none 0 0)) 0 (.slice none 0 0) [.slice none 0 0] [.slice none 0 0] hS0 ?_
  intro w11 hS12
  have hS13:=hS12.pick1
  refine rS 3 (.tmp 1) (.const (.int .i64 0)) 0 (.int .i64 0) [.int .i64 0] [.int .i64 0] hS13 ?_
  intro w14 hS15
  have hS16:=hS15.pick2
  refine rS 25 (.tmp 2) (.tmp 18) 0 (.iface 78 (.pointer (some ⟨b8,0,none⟩))) [.iface 78 (.pointer (some ⟨b8,0,none⟩))] [.iface 78 (.pointer (some ⟨b8,0,none⟩))] hS16 ?_
  intro w17 hS18
  refine sR 1 [] ?_
  have hS20:=hS18.nilrow none 68 6
  have hS22:=hS20.pick1
  have hS23:=hS22.pick2
  have hS24:=hS23.pick3
  have hS25:=hS24.pick3
  refine runsD_end (fn:=Tryz.f45) (v:=.tuple #[]) Tryz.func45 (by kernel_rfl) ?_
  cases Option.some.inj hp7
  exact hR _ _ ⟨none,0,(.iface 78 (.pointer (some ⟨b8,0,none⟩))),rfl,hS25,(RepE.of_pos hs9)⟩

def cond_Take_1_1.f (a0v : List api_Node) (a1v : Int) : Option Unit :=
  some (())
theorem cond_Take_1_1.ok (a0v : List api_Node) (a1v : Int) (ba0 : Nat) (Aa0v : Option Addr) (ca0v ba1 ba2 : Nat) (hS0 : St w0 Z (xblk ba0 23 ([.slice Aa0v a0v.length ca0v])::xblk ba1 3 ([.int .i64 a1v])::xblk ba2 25 ([.nilIface])::fs) w) (ha0v : SlZ (flat enc_api_Node) 6 Z Aa0v ca0v a0v) (hp0 : cond_Take_1_1.f a0v a1v = some ()) :
    CallsD Tryz.prog 45 #[.pointer (some ⟨ba0,0,none⟩),.pointer (some ⟨ba1,0,none⟩),.pointer (some ⟨ba2,0,none⟩)] (.returning) w (fun e v w' => v = .returning ∧ e = .returned (.tuple #[]) ∧ St w0 Z (xblk ba0 23 ([.slice Aa0v a0v.length ca0v])::xblk ba1 3 ([.int .i64 a1v])::xblk ba2 25 ([.nilIface])::fs) w'):=by
  refine callsD_abs ?_; intro R hR
  unfold cond_Take_1_1.f at hp0
  refine callsD_of_runs (fn:=Tryz.f45) (c:=cd45 []) Tryz.func45 (by kernel_rfl) (al:=[.pointer (some ⟨ba0,0,none⟩),.pointer (some ⟨ba1,0,none⟩),.pointer (some ⟨ba2,0,none⟩)]) rfl (n:=16) rfl ?_
  refine sR 2 [.inRegion (opsOf (cd45 [0])) [0,1],.code (cd45 [1])] ?_
  refine r_recover0 (c:=(cd45 [0])) (i:=0) (d:=(some 6)) (by kernel_rfl) (by kernel_rfl) (by kernel_rfl) (by kernel_rfl) ?_
  refine sR 9 [] ?_
  refine runsD_end (fn:=Tryz.f45) (v:=.tuple #[]) Tryz.func45 (by kernel_rfl) ?_
  cases Option.some.inj hp0
  exact hR _ _ ⟨rfl,hS0⟩

end
end Go.Proofs.YtboejepakdnbgaaGreatDoor.K
