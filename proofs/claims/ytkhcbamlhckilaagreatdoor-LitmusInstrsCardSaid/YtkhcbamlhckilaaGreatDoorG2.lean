/- The walk, part 2: each Go function as a plain Lean function, and that its call answers as that function says. No condition. -/
import Derived.Test.YtkhcbamlhckilaaGreatDoorE
import Derived.Test.YtkhcbamlhckilaaGreatDoorNG
import Derived.Test.YtkhcbamlhckilaaGreatDoorNP
import Derived.Test.YtkhcbamlhckilaaGreatDoorNM
import Derived.Test.YtkhcbamlhckilaaGreatDoorNI
import Derived.Test.YtkhcbamlhckilaaGreatDoorNV
import Derived.Test.YtkhcbamlhckilaaGreatDoorNY
import Derived.Test.YtkhcbamlhckilaaGreatDoorNC
import Derived.Test.YtkhcbamlhckilaaGreatDoorNA
import Derived.Test.YtkhcbamlhckilaaGreatDoorG1
set_option linter.unusedVariables false
set_option linter.unusedSimpArgs false
set_option maxRecDepth 100000
namespace Go.Proofs.YtkhcbamlhckilaaGreatDoor.K
open Go Go.RowKit
noncomputable section
noncomputable def cd25 (p : List Nat) : Code := sub (bodyOf Tryz.f25) p
abbrev p25_9:=cd25 [1,1,1]
abbrev p25_16:=cd25 [1,1,1,1,1]
abbrev p25_25:=cd25 [1,1,1,1,1,1,1,0,1,0,1]
abbrev p25_26:=cd25 [1,1,1,1,1,1,1,1,0]
abbrev p25_27:=cd25 [1,1,1,1,1,1,1,1,1]
abbrev p25_31:=cd25 [1,1,1,1,1,1,1,1,1,1,1]
abbrev p25_33:=cd25 [1,1,1,1,1,1,1,0,1,0,1,1,0,1]
abbrev p25_42:=cd25 [1,1,1,1,1,1,1,0,1,0,1,1,1,1,1,0,1,0,1,0,0]
abbrev p25_43:=cd25 [1,1,1,1,1,1,1,0,1,0,1,1,1,1,1,0,1,0,1,0,1]
abbrev p25_44:=cd25 [1,1,1,1,1,1,1,0,1,0,1,1,1,1,1,0,1,1,0,0]
abbrev p25_45:=cd25 [1,1,1,1,1,1,1,0,1,0,1,1,1,1,1,0,1,1,0,1]
abbrev p25_47:=cd25 [1,1,1,1,1,1,1,0,1,0,1,1,1,1,1,0,1,1,0,1,0,0]
abbrev p25_48:=cd25 [1,1,1,1,1,1,1,0,1,0,1,1,1,1,1,0,1,1,0,1,0,1]
abbrev p25_49:=cd25 [1,1,1,1,1,1,1,0,1,0,1,1,1,1,1,0,1,1,1,1]
abbrev p25_54:=cd25 [1,1,1,1,1,1,1,0,1,0,1,1,1,1,1,1,1,1]
abbrev p25_55:=cd25 [1,1,1,1,1,1,1,0,1,0,1,1,1,1,1,1,1,0,1,0,0]
abbrev p25_56:=cd25 [1,1,1,1,1,1,1,0,1,0,1,1,1,1,1,1,1,0,1,0,1]
abbrev p25_57:=cd25 [1,1,1,1,1,1,1,0,1,0,1,1,1,0,0,0,0]
abbrev p25_63:=cd25 [1,1,1,1,1,1,1,0,1,0,1,1,1,0,1,1,1]
abbrev p25_64:=cd25 [1,1,1,1,1,1,1,0,1,0,1,1,1,0,1,1,0,1,0,0]
abbrev p25_65:=cd25 [1,1,1,1,1,1,1,0,1,0,1,1,1,0,1,1,0,1,0,1]
abbrev p25_67:=cd25 [1,1,1,1,1,1,1,0,1,0,1,1,1,0,0,0,0,0,0]
abbrev p25_69:=cd25 [1,1,1,1,1,1,1,0,1,0,1,1,0,1,1]
abbrev p25_74:=cd25 [1,1,1,1,1,1,1,0,1,0,1,0,1,1]
abbrev p25_75:=cd25 [1,1,1,1,1,1,1,0,1,0,1,0,1,0,1,0,0]
abbrev p25_76:=cd25 [1,1,1,1,1,1,1,0,1,0,1,0,1,0,1,0,1]
abbrev p25_78:=cd25 [1,0,1,0,1,1,1,0,1,1]
abbrev td121:List Item:=[.inBlock 0,.code (cd25 [1,1])]
abbrev td122:List Item:=[.code (cd25 [1,1,0,1,0,1]),.code p25_9]
abbrev td123:List Item:=[.code (cd25 [1,1,1,1,1,1,1,1])]
abbrev td124:List Item:=.inBlock 1::td123
abbrev td125:List Item:=.code (cd25 [1,1,1,1,1,1,1,0,1,0,1,1,1])::td124
abbrev td126:List Item:=.code (cd25 [1,1,1,1,1,1,1,0,1,0,1,1,1,1,1,0,1,1])::td124
abbrev td127:List Item:=.code p25_43::td126
abbrev td128:List Item:=.code (cd25 [1,1,1,1,1,1,1,0,1,0,1,1,1,1,1,0,1,1,1])::td124
abbrev td129:List Item:=.code p25_48::td128
abbrev td130:List Item:=.code p25_54::td124
abbrev td131:List Item:=.code p25_56::td130
abbrev td132:List Item:=.code (cd25 [1,1,1,1,1,1,1,0,1,0,1,1,1,0,1])::td124
abbrev td133:List Item:=.inBlock 2::td132
abbrev td134:List Item:=.inLoop p25_57::td133
abbrev td135:List Item:=.code p25_57::td134
abbrev td136:List Item:=.code p25_63::td124
abbrev td137:List Item:=.code p25_65::td136
abbrev td138:List Item:=.code (cd25 [1,1,1,1,1,1,1,0,1,0,1,1,1,0,0,0,0,1])::td134
abbrev td139:List Item:=.code (cd25 [1,1,1,1,1,1,1,0,1,0,1,1,1,0,0,0,0,0,1])::td138
abbrev td140:List Item:=.code p25_74::td124
abbrev td141:List Item:=.code p25_76::td140
def lexis_Lexer__Next.l0 (y0 : ByteArray) (t11 : Int) (t318 : Int) : Option Int :=
  (((if (decide (t318 < ((y0.extract t11.toNat y0.size).size : Int))) = true then (if 0 ≤ t318 ∧ t318 < ((y0.extract t11.toNat y0.size).size : Int) then (lexis_letter.f (byt (y0.extract t11.toNat y0.size) t318) >>= (fun t342 => (if t342 = true then some (.inl ()) else (if 0 ≤ t318 ∧ t318 < ((y0.extract t11.toNat y0.size).size : Int) then (lexis_digit.f (byt (y0.extract t11.toNat y0.size) t318) >>= (fun t350 => (if t350 = true then some (.inl ()) else (if 0 ≤ t318 ∧ t318 < ((y0.extract t11.toNat y0.size).size : Int) then (if ((byt (y0.extract t11.toNat y0.size) t318) == 46) = true then some (.inl ()) else some (.inr (t318))) else none)))) else none)))) else none) else some (.inr (t318))) : Option (Sum Unit Int)) >>= (fun | .inl () => (lexis_Lexer__Next.l0 y0 t11 (IntKind.i64.wrap (t318 + 1))) | .inr e => some e))
 partial_fixpoint
def lexis_Lexer__Next.body (rec_lexis_Lexer__Next : ByteArray → Int → Int → Int → PErr → Option (api_Token × PErr × Int × Int × Int × PErr)) (y0 : ByteArray) (y1 : Int) (y2 : Int) (y3 : Int) (y4 : PErr) : Option (api_Token × PErr × Int × Int × Int × PErr) :=
  (PErr.cas y4 ((lexis_Lexer__blanks.f y0 y1 y2 y3 >>= (fun (t10,t11,t12,t13) => (if (!t10) = true then (lexis_Lexer__fail_2.f rec_lexis_Lexer__Next y0 t11 t12 t13 0 51 >>= (fun (t22,t23,t24,t25,t26,t27) => some ((t22,t23,t24,t25,t26,t27)))) else (if (t11 == (y0.size : Int)) = true then some (((⟨0,(⟨#[]⟩ : ByteArray),0,t12,t13,t11,t11⟩ : api_Token),.nil,t11,t12,t13,.nil)) else (if 0 ≤ t11 ∧ t11 ≤ (y0.size : Int) then (if 0 ≤ (0 : Int) ∧ (0 : Int) < ((y0.extract t11.toNat y0.size).size : Int) then (lexis_letter.f (byt (y0.extract t11.toNat y0.size) (0 : Int)) >>= (fun t74 => (((if t74 = true then (lexis_name.f (y0.extract t11.toNat y0.size) >>= (fun t388 => (if (decide (t388 > 64)) = true then (lexis_Lexer__fail_2.f rec_lexis_Lexer__Next y0 t11 t12 t13 0 1 >>= (fun (t396,t397,t398,t399,t400,t401) => some (.inr ((t396,t397,t398,t399,t400,t401))))) else (if 0 ≤ t388 ∧ t388 ≤ ((y0.extract t11.toNat y0.size).size : Int) then some (.inl (t388,(⟨1,((y0.extract t11.toNat y0.size).extract 0 t388.toNat),0,t12,t13,t11,t11⟩ : api_Token))) else none)))) else (lexis_digit.f (byt (y0.extract t11.toNat y0.size) (0 : Int)) >>= (fun t111 => (((if t111 = true then some (true) else (if ((byt (y0.extract t11.toNat y0.size) (0 : Int)) == 45) = true then (lexis_byteAt.f (y0.extract t11.toNat y0.size) 1 >>= (fun t369 => (lexis_digit.f t369 >>= (fun t374 => some (t374))))) else some (false))) : Option Bool) >>= (fun t119 => (if t119 = true then (lexis_Lexer__Next.l0 y0 t11 1 >>= (fun t261 => (if 0 ≤ t261 ∧ t261 ≤ ((y0.extract t11.toNat y0.size).size : Int) then (word_Parse.f ((y0.extract t11.toNat y0.size).extract 0 t261.toNat) >>= (fun (t269,t270) => (if (t270 != 0) = true then (lexis_Lexer__fail_2.f rec_lexis_Lexer__Next y0 t11 t12 t13 0 t270 >>= (fun (t278,t279,t280,t281,t282,t283) => some (.inr ((t278,t279,t280,t281,t282,t283))))) else (if 0 ≤ t261 ∧ t261 ≤ ((y0.extract t11.toNat y0.size).size : Int) then some (.inl (t261,(⟨2,((y0.extract t11.toNat y0.size).extract 0 t261.toNat),t269,t12,t13,t11,t11⟩ : api_Token))) else none)))) else none))) else (if ((byt (y0.extract t11.toNat y0.size) (0 : Int)) == 34) = true then (if 0 ≤ (1 : Int) ∧ (1 : Int) ≤ ((y0.extract t11.toNat y0.size).size : Int) then (strings_IndexAny.f ((y0.extract t11.toNat y0.size).extract (1 : Int).toNat (y0.extract t11.toNat y0.size).size) (⟨#[34,10]⟩ : ByteArray) >>= (fun t131 => (if (decide (t131 < 0)) = true then (lexis_Lexer__fail_2.f rec_lexis_Lexer__Next y0 t11 t12 t13 ((y0.extract t11.toNat y0.size).size : Int) 50 >>= (fun (t139,t140,t141,t142,t143,t144) => some (.inr ((t139,t140,t141,t142,t143,t144))))) else (if 0 ≤ (IntKind.i64.wrap (1 + t131)) ∧ (IntKind.i64.wrap (1 + t131)) < ((y0.extract t11.toNat y0.size).size : Int) then (if ((byt (y0.extract t11.toNat y0.size) (IntKind.i64.wrap (1 + t131))) == 10) = true then (lexis_Lexer__fail_2.f rec_lexis_Lexer__Next y0 t11 t12 t13 (IntKind.i64.wrap (1 + t131)) 50 >>= (fun (t170,t171,t172,t173,t174,t175) => some (.inr ((t170,t171,t172,t173,t174,t175))))) else (if 0 ≤ (1 : Int) ∧ (1 : Int) ≤ (IntKind.i64.wrap (1 + t131)) ∧ (IntKind.i64.wrap (1 + t131)) ≤ ((y0.extract t11.toNat y0.size).size : Int) then some (.inl ((IntKind.i64.wrap (t131 + 2)),(⟨3,((y0.extract t11.toNat y0.size).extract (1 : Int).toNat (IntKind.i64.wrap (1 + t131)).toNat),0,t12,t13,t11,t11⟩ : api_Token))) else none)) else none)))) else none) else (lexis_sign.f (y0.extract t11.toNat y0.size) >>= (fun t210 => (if (t210 == 0) = true then (lexis_Lexer__fail_2.f rec_lexis_Lexer__Next y0 t11 t12 t13 0 50 >>= (fun (t218,t219,t220,t221,t222,t223) => some (.inr ((t218,t219,t220,t221,t222,t223))))) else (if 0 ≤ t210 ∧ t210 ≤ ((y0.extract t11.toNat y0.size).size : Int) then some (.inl (t210,(⟨4,((y0.extract t11.toNat y0.size).extract 0 t210.toNat),0,t12,t13,t11,t11⟩ : api_Token))) else none))))))))))) : Option (Sum (Int × api_Token) (api_Token × PErr × Int × Int × Int × PErr))) >>= (fun | .inl (t82,t83) => (lexis_Lexer__pass.f y0 t11 t12 t13 t82 >>= (fun (t93,t94,t95) => some (((⟨t83.Kind,t83.Text,t83.Value,t83.Line,t83.Col,t83.At,(IntKind.i64.wrap (t83.End + t82))⟩ : api_Token),.nil,t93,t94,t95,.nil)))) | .inr e => some e)))) else none) else none)))))) (fun n5 => some (((⟨0,(⟨#[]⟩ : ByteArray),0,0,0,0,0⟩ : api_Token),(.num n5),y1,y2,y3,(.num n5)))) (fun n6 n7 n8 => some (((⟨0,(⟨#[]⟩ : ByteArray),0,0,0,0,0⟩ : api_Token),(.pos n6 n7 n8),y1,y2,y3,(.pos n6 n7 n8)))))
set_option maxHeartbeats 16000000 in
theorem lexis_Lexer__Next.bok (rec_lexis_Lexer__Next : ByteArray → Int → Int → Int → PErr → Option (api_Token × PErr × Int × Int × Int × PErr)) (hrec_lexis_Lexer__Next : lexis_Lexer__Next.Spec rec_lexis_Lexer__Next) : lexis_Lexer__Next.Spec (lexis_Lexer__Next.body rec_lexis_Lexer__Next):=by
  intro y0 y1 y2 y3 y4 ba0 y5 w0 Z fs w hS0 y6 q0 q1 q2 q3 q4 q5 hp0
  refine calls_abs ?_; intro R hR
  unfold lexis_Lexer__Next.body at hp0
  refine calls_of_runs (fn:=Tryz.f25) (c:=cd25 []) Tryz.func25 (by kernel_rfl) (al:=[.pointer (some ⟨ba0,0,none⟩)]) rfl (n:=213) rfl ?_
  refine sR 2 [.inRegion (opsOf (cd25 [0])) [0,1],.code (cd25 [1])] ?_
  refine rA 39 (.agg (enc_api_Token (⟨0,(⟨#[]⟩ : ByteArray),0,0,0,0,0⟩ : api_Token)).toArray) (enc_api_Token (⟨0,(⟨#[]⟩ : ByteArray),0,0,0,0,0⟩ : api_Token)) hS0 ?_
  intro b1 w2 hS3
  refine sR 8 [.inRegion (opsOf (cd25 [1,0,0])) [3],.code (cd25 [1,0,1]),.code (cd25 [1,1])] ?_
  refine rL1 25 (.tmp 15) 4 (hS3.blk 1 rfl) ?_
  refine sR 4 (.inRegion (opsOf (cd25 [1,0,1,0,0])) [0,1,2]::.code (cd25 [1,0,1,0,1])::td121) ?_
  rcases y4 with _ | n5 | ⟨n6,n7,n8⟩
  ·have hp9:=cas_nil hp0
   have y6 : y5 = .nilIface:=y6
   subst y6
   refine sR 18 [.inRegion (opsOf (cd25 [1,1,0,0])) [1,2],.code (cd25 [1,1,0,1]),.code p25_9] ?_
   obtain ⟨⟨t10,t11,t12,t13⟩,hr14,hp15⟩:=bind_some' hp9
   try dsimp only at hp15
   have hS16:=hS3.pick1
   refine rC (lexis_Lexer__blanks.ok y0 y1 y2 y3 ba0 hS16 hr14) ?_
   rintro _ w17 ⟨rfl,hS18⟩
   refine ⟨_,rfl,?_⟩
   refine sS 1 [.inRegion (opsOf (cd25 [1,1,0,0])) [],.code (cd25 [1,1,0,1]),.code p25_9] 44 (!t10) (fun h19 => ?_) fun h20 => ?_
   ·have hp21:=ite_t hp15 h19
    refine sR 5 (iR (cd25 [1,1,0,1,0,0]) 1 5::td122) ?_
    obtain ⟨⟨t22,t23,t24,t25,t26,t27⟩,hr30,hp31⟩:=bind_some' hp21
    try dsimp only at hp31
    refine rC (lexis_Lexer__fail_2.ok rec_lexis_Lexer__Next hrec_lexis_Lexer__Next y0 t11 t12 t13 0 51 ba0 hS18 hr30) ?_
    rintro _ w34 ⟨Q28,Q29,Z36,hz37,rfl,hS35,hs38,hs39⟩
    refine ⟨_,rfl,?_⟩
    refine sR 2 (.inRegion (opsOf (cd25 [1,1,0,1,0,0])) [4,5]::td122) ?_
    have hS40:=hS35.pick1
    refine rSA 39 (.tmp 2) (.tmp 47) (enc_api_Token t22) hS40 (one_api_Token _) ?_
    intro w41 hS42
    refine sR 2 td122 ?_
    have hS43:=hS42.drop
    refine rRc (.tuple #[.agg (enc_api_Token t22).toArray,Q28]) (.ca 2 39 (hS42.blk 0 rfl) (.tm 3 .nil)) Tryz.func25 ?_
    cases Option.some.inj hp31
    exact hR _ _ ⟨Q28,Q29,Z36,hz37,rfl,hS43,hs38,hs39⟩
   have hp45:=ite_f hp15 h20
   refine sR 4 [.code (cd25 [1,1,1,0]),.code (cd25 [1,1,1,1])] ?_
   refine r_drawnP (S:=Option Nat × Option Unit) (dn:=(fun (st : Option Nat × Option Unit) k => [st.1.isSome,st.2.isSome].getD k true)) (C:=(fun st w' => match st with | (none,none) => St w0 Z (xblk ba0 93 ([.string y0,.int .i64 t11,.int .i64 t12,.int .i64 t13,.nilIface])::xblk b1 39 (enc_api_Token (⟨0,(⟨#[]⟩ : ByteArray),0,0,0,0,0⟩ : api_Token))::fs) w' | (none,some _) => False | (some b46,none) => St w0 Z (xblk b46 39 (enc_api_Token (⟨0,(⟨#[]⟩ : ByteArray),0,0,0,0,0⟩ : api_Token))::xblk ba0 93 ([.string y0,.int .i64 t11,.int .i64 t12,.int .i64 t13,.nilIface])::xblk b1 39 (enc_api_Token (⟨0,(⟨#[]⟩ : ByteArray),0,0,0,0,0⟩ : api_Token))::fs) w' | (some b46,some _) => St w0 Z (xblk b46 39 (enc_api_Token (⟨0,(⟨#[]⟩ : ByteArray),0,t12,t13,t11,t11⟩ : api_Token))::xblk ba0 93 ([.string y0,.int .i64 t11,.int .i64 t12,.int .i64 t13,.nilIface])::xblk b1 39 (enc_api_Token (⟨0,(⟨#[]⟩ : ByteArray),0,0,0,0,0⟩ : api_Token))::fs) w')) (v:=(fun st => match st with | (none,none) => [.pointer (some ⟨ba0,0,none⟩),.pointer (some ⟨ba0,0,none⟩),.pointer (some ⟨ba0,2,none⟩),.int .i64 t12,.pointer (some ⟨ba0,0,none⟩),.pointer (some ⟨ba0,0,none⟩),.pointer (some ⟨ba0,3,none⟩),.int .i64 t13,.pointer (some ⟨ba0,0,none⟩),.pointer (some ⟨ba0,0,none⟩),.pointer (some ⟨ba0,1,none⟩),.int .i64 t11,.pointer (some ⟨ba0,0,none⟩),.pointer (some ⟨ba0,0,none⟩),.pointer (some ⟨ba0,1,none⟩),.int .i64 t11,.agg (enc_api_Token (⟨0,(⟨#[]⟩ : ByteArray),0,t12,t13,t11,t11⟩ : api_Token)).toArray,undef,undef] | (none,some _) => [.pointer (some ⟨ba0,0,none⟩),.pointer (some ⟨ba0,0,none⟩),.pointer (some ⟨ba0,2,none⟩),.int .i64 t12,.pointer (some ⟨ba0,0,none⟩),.pointer (some ⟨ba0,0,none⟩),.pointer (some ⟨ba0,3,none⟩),.int .i64 t13,.pointer (some ⟨ba0,0,none⟩),.pointer (some ⟨ba0,0,none⟩),.pointer (some ⟨ba0,1,none⟩),.int .i64 t11,.pointer (some ⟨ba0,0,none⟩),.pointer (some ⟨ba0,0,none⟩),.pointer (some ⟨ba0,1,none⟩),.int .i64 t11,.agg (enc_api_Token (⟨0,(⟨#[]⟩ : ByteArray),0,t12,t13,t11,t11⟩ : api_Token)).toArray,undef,undef] | (some b46,none) => [.pointer (some ⟨ba0,0,none⟩),.pointer (some ⟨ba0,0,none⟩),.pointer (some ⟨ba0,2,none⟩),.int .i64 t12,.pointer (some ⟨ba0,0,none⟩),.pointer (some ⟨ba0,0,none⟩),.pointer (some ⟨ba0,3,none⟩),.int .i64 t13,.pointer (some ⟨ba0,0,none⟩),.pointer (some ⟨ba0,0,none⟩),.pointer (some ⟨ba0,1,none⟩),.int .i64 t11,.pointer (some ⟨ba0,0,none⟩),.pointer (some ⟨ba0,0,none⟩),.pointer (some ⟨ba0,1,none⟩),.int .i64 t11,.agg (enc_api_Token (⟨0,(⟨#[]⟩ : ByteArray),0,t12,t13,t11,t11⟩ : api_Token)).toArray,.pointer (some ⟨b46,0,none⟩),undef] | (some b46,some _) => [.pointer (some ⟨ba0,0,none⟩),.pointer (some ⟨ba0,0,none⟩),.pointer (some ⟨ba0,2,none⟩),.int .i64 t12,.pointer (some ⟨ba0,0,none⟩),.pointer (some ⟨ba0,0,none⟩),.pointer (some ⟨ba0,3,none⟩),.int .i64 t13,.pointer (some ⟨ba0,0,none⟩),.pointer (some ⟨ba0,0,none⟩),.pointer (some ⟨ba0,1,none⟩),.int .i64 t11,.pointer (some ⟨ba0,0,none⟩),.pointer (some ⟨ba0,0,none⟩),.pointer (some ⟨ba0,1,none⟩),.int .i64 t11,.agg (enc_api_Token (⟨0,(⟨#[]⟩ : ByteArray),0,t12,t13,t11,t11⟩ : api_Token)).toArray,.pointer (some ⟨b46,0,none⟩),undef])) (c:=(cd25 [1,1,1,0])) (id:=10) (none,none) 18 19 [17,18] [[],[],[],[],[],[],[],[],[],[],[],[],[],[],[],[],[],[],[0]] [[1],[1],[1],[1],[1],[1],[1],[1],[1],[1],[1],[1],[1],[1],[1],[1],[1],[1],[]] [] [true,true,true,true,true,true,true,true,true,true,true,true,true,true,true,true,true,true,true] (by kernel_rfl) (by kernel_rfl) (by kernel_rfl) (by kernel_rfl) (by kernel_rfl) (by kernel_rfl) (by kernel_rfl) (by kernel_rfl) (by kernel_rfl) (fun k hk => match k,hk with | 0,_ => rfl | 1,_ => rfl | k + 2,hk => absurd hk (by simp)) hS18.drew ?_ (fun k hk => match k,hk with | 0,_ => rfl | 1,_ => rfl | k + 2,hk => absurd hk (by simp)) ?_ ?_ ?_
   ·intro i hi st w hC hd
    match i,hi with
    | 0,_ => (show _ = _; kernel_rfl)
    | 1,_ => (show _ = _; kernel_rfl)
    | 2,_ => (show _ = _; kernel_rfl)
    | 3,_ => (show _ = _; kernel_rfl)
    | 4,_ => (show _ = _; kernel_rfl)
    | 5,_ => (show _ = _; kernel_rfl)
    | 6,_ => (show _ = _; kernel_rfl)
    | 7,_ => (show _ = _; kernel_rfl)
    | 8,_ => (show _ = _; kernel_rfl)
    | 9,_ => (show _ = _; kernel_rfl)
    | 10,_ => (show _ = _; kernel_rfl)
    | 11,_ => (show _ = _; kernel_rfl)
    | 12,_ => (show _ = _; kernel_rfl)
    | 13,_ => (show _ = _; kernel_rfl)
    | 14,_ => (show _ = _; kernel_rfl)
    | 15,_ => (show _ = _; kernel_rfl)
    | 16,_ => (show _ = _; kernel_rfl)
    | 17,_ => (show _ = _; kernel_rfl)
    | 18,_ => (show _ = _; kernel_rfl)
    | i + 19,hi => exact absurd hi (by omega)
   ·intro i hi he st w hC hd hu
    match i,hi,he with
    | 0,_,_ =>
     rcases st with ⟨_ | b46,_ | _⟩
     ·dsimp only at hC
      exact dG (.pointer (some ⟨ba0,0,none⟩)) hC
     ·exact False.elim hC
     ·dsimp only at hC
      exact dG (.pointer (some ⟨ba0,0,none⟩)) hC
     ·exact Bool.noConfusion (hu 1 (by decide))
    | 1,_,_ =>
     rcases st with ⟨_ | b46,_ | _⟩
     ·dsimp only at hC
      exact dG (.pointer (some ⟨ba0,0,none⟩)) hC
     ·exact False.elim hC
     ·dsimp only at hC
      exact dG (.pointer (some ⟨ba0,0,none⟩)) hC
     ·exact Bool.noConfusion (hu 1 (by decide))
    | 2,_,_ =>
     rcases st with ⟨_ | b46,_ | _⟩
     ·dsimp only at hC
      exact dG (.pointer (some ⟨ba0,2,none⟩)) hC
     ·exact False.elim hC
     ·dsimp only at hC
      exact dG (.pointer (some ⟨ba0,2,none⟩)) hC
     ·exact Bool.noConfusion (hu 1 (by decide))
    | 3,_,_ =>
     rcases st with ⟨_ | b46,_ | _⟩
     ·dsimp only at hC
      exact ⟨fun _ => does_run (x_load (t:=3) (x:=(.tmp 51)) (p:=⟨ba0,2,none⟩) (v:=.int .i64 t12) (by kernel_rfl) (loads_at 2 (hC.blk 0 rfl) (by kernel_rfl) (by kernel_rfl)) (by kernel_rfl)) rfl hC,fun h => absurd h (by decide)⟩
     ·exact False.elim hC
     ·dsimp only at hC
      exact ⟨fun _ => does_run (x_load (t:=3) (x:=(.tmp 51)) (p:=⟨ba0,2,none⟩) (v:=.int .i64 t12) (by kernel_rfl) (loads_at 2 (hC.blk 1 rfl) (by kernel_rfl) (by kernel_rfl)) (by kernel_rfl)) rfl hC,fun h => absurd h (by decide)⟩
     ·exact Bool.noConfusion (hu 1 (by decide))
    | 4,_,_ =>
     rcases st with ⟨_ | b46,_ | _⟩
     ·dsimp only at hC
      exact dG (.pointer (some ⟨ba0,0,none⟩)) hC
     ·exact False.elim hC
     ·dsimp only at hC
      exact dG (.pointer (some ⟨ba0,0,none⟩)) hC
     ·exact Bool.noConfusion (hu 1 (by decide))
    | 5,_,_ =>
     rcases st with ⟨_ | b46,_ | _⟩
     ·dsimp only at hC
      exact dG (.pointer (some ⟨ba0,0,none⟩)) hC
     ·exact False.elim hC
     ·dsimp only at hC
      exact dG (.pointer (some ⟨ba0,0,none⟩)) hC
     ·exact Bool.noConfusion (hu 1 (by decide))
    | 6,_,_ =>
     rcases st with ⟨_ | b46,_ | _⟩
     ·dsimp only at hC
      exact dG (.pointer (some ⟨ba0,3,none⟩)) hC
     ·exact False.elim hC
     ·dsimp only at hC
      exact dG (.pointer (some ⟨ba0,3,none⟩)) hC
     ·exact Bool.noConfusion (hu 1 (by decide))
    | 7,_,_ =>
     rcases st with ⟨_ | b46,_ | _⟩
     ·dsimp only at hC
      exact ⟨fun _ => does_run (x_load (t:=3) (x:=(.tmp 55)) (p:=⟨ba0,3,none⟩) (v:=.int .i64 t13) (by kernel_rfl) (loads_at 3 (hC.blk 0 rfl) (by kernel_rfl) (by kernel_rfl)) (by kernel_rfl)) rfl hC,fun h => absurd h (by decide)⟩
     ·exact False.elim hC
     ·dsimp only at hC
      exact ⟨fun _ => does_run (x_load (t:=3) (x:=(.tmp 55)) (p:=⟨ba0,3,none⟩) (v:=.int .i64 t13) (by kernel_rfl) (loads_at 3 (hC.blk 1 rfl) (by kernel_rfl) (by kernel_rfl)) (by kernel_rfl)) rfl hC,fun h => absurd h (by decide)⟩
     ·exact Bool.noConfusion (hu 1 (by decide))
    | 8,_,_ =>
     rcases st with ⟨_ | b46,_ | _⟩
     ·dsimp only at hC
      exact dG (.pointer (some ⟨ba0,0,none⟩)) hC
     ·exact False.elim hC
     ·dsimp only at hC
      exact dG (.pointer (some ⟨ba0,0,none⟩)) hC
     ·exact Bool.noConfusion (hu 1 (by decide))
    | 9,_,_ =>
     rcases st with ⟨_ | b46,_ | _⟩
     ·dsimp only at hC
      exact dG (.pointer (some ⟨ba0,0,none⟩)) hC
     ·exact False.elim hC
     ·dsimp only at hC
      exact dG (.pointer (some ⟨ba0,0,none⟩)) hC
     ·exact Bool.noConfusion (hu 1 (by decide))
    | 10,_,_ =>
     rcases st with ⟨_ | b46,_ | _⟩
     ·dsimp only at hC
      exact dG (.pointer (some ⟨ba0,1,none⟩)) hC
     ·exact False.elim hC
     ·dsimp only at hC
      exact dG (.pointer (some ⟨ba0,1,none⟩)) hC
     ·exact Bool.noConfusion (hu 1 (by decide))
    | 11,_,_ =>
     rcases st with ⟨_ | b46,_ | _⟩
     ·dsimp only at hC
      exact ⟨fun _ => does_run (x_load (t:=3) (x:=(.tmp 59)) (p:=⟨ba0,1,none⟩) (v:=.int .i64 t11) (by kernel_rfl) (loads_at 1 (hC.blk 0 rfl) (by kernel_rfl) (by kernel_rfl)) (by kernel_rfl)) rfl hC,fun h => absurd h (by decide)⟩
     ·exact False.elim hC
     ·dsimp only at hC
      exact ⟨fun _ => does_run (x_load (t:=3) (x:=(.tmp 59)) (p:=⟨ba0,1,none⟩) (v:=.int .i64 t11) (by kernel_rfl) (loads_at 1 (hC.blk 1 rfl) (by kernel_rfl) (by kernel_rfl)) (by kernel_rfl)) rfl hC,fun h => absurd h (by decide)⟩
     ·exact Bool.noConfusion (hu 1 (by decide))
    | 12,_,_ =>
     rcases st with ⟨_ | b46,_ | _⟩
     ·dsimp only at hC
      exact dG (.pointer (some ⟨ba0,0,none⟩)) hC
     ·exact False.elim hC
     ·dsimp only at hC
      exact dG (.pointer (some ⟨ba0,0,none⟩)) hC
     ·exact Bool.noConfusion (hu 1 (by decide))
    | 13,_,_ =>
     rcases st with ⟨_ | b46,_ | _⟩
     ·dsimp only at hC
      exact dG (.pointer (some ⟨ba0,0,none⟩)) hC
     ·exact False.elim hC
     ·dsimp only at hC
      exact dG (.pointer (some ⟨ba0,0,none⟩)) hC
     ·exact Bool.noConfusion (hu 1 (by decide))
    | 14,_,_ =>
     rcases st with ⟨_ | b46,_ | _⟩
     ·dsimp only at hC
      exact dG (.pointer (some ⟨ba0,1,none⟩)) hC
     ·exact False.elim hC
     ·dsimp only at hC
      exact dG (.pointer (some ⟨ba0,1,none⟩)) hC
     ·exact Bool.noConfusion (hu 1 (by decide))
    | 15,_,_ =>
     rcases st with ⟨_ | b46,_ | _⟩
     ·dsimp only at hC
      exact ⟨fun _ => does_run (x_load (t:=3) (x:=(.tmp 63)) (p:=⟨ba0,1,none⟩) (v:=.int .i64 t11) (by kernel_rfl) (loads_at 1 (hC.blk 0 rfl) (by kernel_rfl) (by kernel_rfl)) (by kernel_rfl)) rfl hC,fun h => absurd h (by decide)⟩
     ·exact False.elim hC
     ·dsimp only at hC
      exact ⟨fun _ => does_run (x_load (t:=3) (x:=(.tmp 63)) (p:=⟨ba0,1,none⟩) (v:=.int .i64 t11) (by kernel_rfl) (loads_at 1 (hC.blk 1 rfl) (by kernel_rfl) (by kernel_rfl)) (by kernel_rfl)) rfl hC,fun h => absurd h (by decide)⟩
     ·exact Bool.noConfusion (hu 1 (by decide))
    | 16,_,_ =>
     rcases st with ⟨_ | b46,_ | _⟩
     ·dsimp only at hC
      exact dG (.agg (enc_api_Token (⟨0,(⟨#[]⟩ : ByteArray),0,t12,t13,t11,t11⟩ : api_Token)).toArray) hC
     ·exact False.elim hC
     ·dsimp only at hC
      exact dG (.agg (enc_api_Token (⟨0,(⟨#[]⟩ : ByteArray),0,t12,t13,t11,t11⟩ : api_Token)).toArray) hC
     ·exact Bool.noConfusion (hu 1 (by decide))
    | 17,_,he => exact absurd he (by decide)
    | 18,_,he => exact absurd he (by decide)
    | i + 19,hi,_ => exact absurd hi (by omega)
   ·intro k hk st w hC hr hm
    match k,hk with
    | 0,_ =>
     rcases st with ⟨_ | b46,_ | _⟩
     ·dsimp only at hC
      refine does_alloc (t:=39) (z:=.agg (enc_api_Token (⟨0,(⟨#[]⟩ : ByteArray),0,0,0,0,0⟩ : api_Token)).toArray) (cs:=enc_api_Token (⟨0,(⟨#[]⟩ : ByteArray),0,0,0,0,0⟩ : api_Token)) hC (by kernel_rfl) (by kernel_rfl) (by kernel_rfl) ?_
      intro b46 w2 h2
      have h2:=h2.pick2
      have h2:=h2.pick2
      have h2:=h2.pick2
      refine ⟨(some b46,none),rfl,?_,?_,.inr rfl,h2⟩
      ·intro m hne; match m,hne with
       | 0,hne => exact absurd rfl hne
       | 1,hne => exact rfl
       | m + 2,_ => exact rfl
      ·intro j hj; match j,hj with
       | 0,hj => exact rfl
       | 1,hj => exact rfl
       | 2,hj => exact rfl
       | 3,hj => exact rfl
       | 4,hj => exact rfl
       | 5,hj => exact rfl
       | 6,hj => exact rfl
       | 7,hj => exact rfl
       | 8,hj => exact rfl
       | 9,hj => exact rfl
       | 10,hj => exact rfl
       | 11,hj => exact rfl
       | 12,hj => exact rfl
       | 13,hj => exact rfl
       | 14,hj => exact rfl
       | 15,hj => exact rfl
       | 16,hj => exact rfl
       | 17,hj => exact absurd (by decide) hj
       | 18,hj => exact absurd (by decide) hj
       | j + 19,_ => exact rfl
     ·exact False.elim hC
     ·exact Bool.noConfusion hr
     ·exact Bool.noConfusion hr
    | 1,_ =>
     rcases st with ⟨_ | b46,_ | _⟩
     ·exact Bool.noConfusion (hm 0 (by decide))
     ·exact False.elim hC
     ·dsimp only at hC
      refine dSG 39 (.tmp 6) (.tmp 65) 0 (.agg (enc_api_Token (⟨0,(⟨#[]⟩ : ByteArray),0,t12,t13,t11,t11⟩ : api_Token)).toArray) (enc_api_Token (⟨0,(⟨#[]⟩ : ByteArray),0,t12,t13,t11,t11⟩ : api_Token)) (enc_api_Token (⟨0,(⟨#[]⟩ : ByteArray),0,t12,t13,t11,t11⟩ : api_Token)) hC (one_api_Token _) ?_
      intro w2 h2
      have h2:=h2.pick2
      have h2:=h2.pick2
      have h2:=h2.pick2
      refine ⟨(some b46,some ()),rfl,?_,?_,.inl rfl,h2⟩
      ·intro m hne; match m,hne with
       | 0,hne => exact rfl
       | 1,hne => exact absurd rfl hne
       | m + 2,_ => exact rfl
      ·intro j hj; match j,hj with
       | 0,hj => exact rfl
       | 1,hj => exact rfl
       | 2,hj => exact rfl
       | 3,hj => exact rfl
       | 4,hj => exact rfl
       | 5,hj => exact rfl
       | 6,hj => exact rfl
       | 7,hj => exact rfl
       | 8,hj => exact rfl
       | 9,hj => exact rfl
       | 10,hj => exact rfl
       | 11,hj => exact rfl
       | 12,hj => exact rfl
       | 13,hj => exact rfl
       | 14,hj => exact rfl
       | 15,hj => exact rfl
       | 16,hj => exact rfl
       | 17,hj => exact rfl
       | 18,hj => exact absurd (by decide) hj
       | j + 19,_ => exact rfl
     ·exact Bool.noConfusion hr
    | k + 2,hk => exact absurd hk (by simp)
   intro st51 w48 hS49 hr50
   rcases st51 with ⟨_ | b46,_ | _⟩
   ·exact Bool.noConfusion (hr50 0 (Nat.lt_of_sub_eq_succ rfl))
   ·exact Bool.noConfusion (hr50 0 (Nat.lt_of_sub_eq_succ rfl))
   ·exact Bool.noConfusion (hr50 1 (Nat.lt_of_sub_eq_succ rfl))
   replace hS49 : St w0 Z (xblk b46 39 (enc_api_Token (⟨0,(⟨#[]⟩ : ByteArray),0,t12,t13,t11,t11⟩ : api_Token))::xblk ba0 93 ([.string y0,.int .i64 t11,.int .i64 t12,.int .i64 t13,.nilIface])::xblk b1 39 (enc_api_Token (⟨0,(⟨#[]⟩ : ByteArray),0,0,0,0,0⟩ : api_Token))::fs) w48:=hS49
   refine sR 2 [.code (cd25 [1,1,1,1,0,0]),.code (cd25 [1,1,1,1,0,1]),.code p25_16] ?_
   refine r_quiet hS49 (c:=(cd25 [1,1,1,1,0,0])) (id:=11) (by kernel_rfl) (by kernel_rfl) (by kernel_rfl) (is:=[0,1,2,3,4,5,6,7,8,9]) (by kernel_rfl) ?_
   refine qR 3 (rg 3 7) ?_
   refine qL1 3 (.tmp 68) 1 (fun w hC => (hC.blk 1 rfl)) ?_
   refine qR 3 [7,8,9] ?_
   refine qL1 9 (.tmp 72) 0 (fun w hC => (hC.blk 1 rfl)) ?_
   refine qS 2 [] 75 (t11 == (y0.size : Int)) (fun h52 => ?_) fun h53 => ?_
   ·have hp54:=ite_t hp45 h52
    refine Qs.nil ?_
    intro w55 hS56
    refine sR 3 [.inRegion (opsOf (cd25 [1,1,1,1,0,1,0,0])) [0,1,2],.code (cd25 [1,1,1,1,0,1,0,1]),.code p25_16] ?_
    refine rLa 39 (.tmp 6) (hS56.blk 0 rfl) ?_
    have hS57:=hS56.pick2
    refine rSA 39 (.tmp 2) (.tmp 76) (enc_api_Token (⟨0,(⟨#[]⟩ : ByteArray),0,t12,t13,t11,t11⟩ : api_Token)) hS57 (one_api_Token _) ?_
    intro w58 hS59
    refine sR 2 [.code (cd25 [1,1,1,1,0,1,0,1]),.code p25_16] ?_
    have hS62:=hS59.drop
    have hS63:=hS62.drop
    refine rRc (.tuple #[.agg (enc_api_Token (⟨0,(⟨#[]⟩ : ByteArray),0,t12,t13,t11,t11⟩ : api_Token)).toArray,.nilIface]) (.ca 2 39 (hS59.blk 0 rfl) (.tm 3 .nil)) Tryz.func25 ?_
    cases Option.some.inj hp54
    exact hR _ _ ⟨.nilIface,.nilIface,Z,(Zm.Le.refl _),rfl,hS63,(RepE.of_nil),(RepE.of_nil)⟩
   have hp65:=ite_f hp45 h53
   refine Qs.nil ?_
   intro w66 hS67
   refine sR 3 [.code (cd25 [1,1,1,1,1,0]),.code (cd25 [1,1,1,1,1,1])] ?_
   refine r_quiet hS67 (c:=(cd25 [1,1,1,1,1,0])) (id:=13) (by kernel_rfl) (by kernel_rfl) (by kernel_rfl) (is:=[0,1,2,3,4,5,6,7,8,9]) (by kernel_rfl) ?_
   refine qR 3 (rg 3 7) ?_
   refine qL1 9 (.tmp 79) 0 (fun w hC => (hC.blk 1 rfl)) ?_
   refine qR 3 [7,8,9] ?_
   refine qL1 3 (.tmp 83) 1 (fun w hC => (hC.blk 1 rfl)) ?_
   obtain ⟨g68,hp69⟩:=ite_some hp65
   refine qV (.slice 9 (.tmp 80) (some (.tmp 84)) none none) (.string (y0.extract t11.toNat y0.size)) (fun w hC o ho _ => x_cutStr_sn (k:=.i64) (by kernel_rfl) (by kernel_rfl) (by kernel_rfl) g68 ho) ?_
   refine qR 1 [] ?_
   refine Qs.nil ?_
   intro w70 hS71
   refine sR 8 (.inRegion (opsOf (cd25 [1,1,1,1,1,1,1,0,0])) [1,2]::.code (cd25 [1,1,1,1,1,1,1,0,1])::td123) ?_
   obtain ⟨g72,hp73⟩:=ite_some hp69
   refine rV (.index 9 (.tmp 86) (.const (.int .i64 0))) (.int .u8 (byt (y0.extract t11.toNat y0.size) (0 : Int))) (fun o ho _ => x_indexStr (kk:=.i64) (by kernel_rfl) (by kernel_rfl) (by kernel_rfl) g72.1 g72.2 ho) ?_
   refine sR 6 (.inRegion (opsOf (cd25 [1,1,1,1,1,1,1,0,1,0,0])) [1,2]::.code p25_25::td124) ?_
   obtain ⟨t74,hr75,hp76⟩:=bind_some' hp73
   refine rC (lexis_letter.ok (byt (y0.extract t11.toNat y0.size) (0 : Int)) hS71 hr75) ?_
   rintro _ w77 ⟨rfl,hS78⟩
   refine ⟨_,rfl,?_⟩
   refine sR 2 (.code p25_25::td124) ?_
   obtain ⟨v79,hv80,hp81⟩:=bind_some' hp76
   have hq86 : ∀ x,Sum.inr x = v79 → x = (q0,q1,q2,q3,q4,q5):=by intro x hx; subst hx; simpa using hp81
   have J87 : ∀ (t82 : Int) (t83 : api_Token) (he89 : Sum.inl (t82,t83) = v79) (l88 : List Value) (w84 : World) (hS85 : St w0 Z (xblk ba0 93 ([.string y0,.int .i64 t11,.int .i64 t12,.int .i64 t13,.nilIface])::xblk b1 39 (enc_api_Token (⟨0,(⟨#[]⟩ : ByteArray),0,0,0,0,0⟩ : api_Token))::xblk b46 39 (enc_api_Token t83)::fs) w84),Runs Tryz.prog (fx 25) td123 (fill (mk 214 [(0,.pointer (some ⟨ba0,0,none⟩)),(2,.pointer (some ⟨b1,0,none⟩)),(6,.pointer (some ⟨b46,0,none⟩)),(8,.int .i64 t82)]) l88) w84 R:=by
    intro t82 t83 he89 l88 w84 hS85
    subst he89
    try dsimp only at hp81
    refine sR 3 [iR p25_26 1 5,.code p25_27] ?_
    refine rL1 3 (.tmp 205) 6 (hS85.blk 2 rfl) ?_
    refine sR 3 [.inRegion (opsOf p25_26) [5],.code p25_27] ?_
    have hS90:=hS85.pick2
    refine rS 3 (.tmp 209) (.tmp 208) 6 (.int .i64 (IntKind.i64.wrap (t83.End + t82))) [.int .i64 (IntKind.i64.wrap (t83.End + t82))] (enc_api_Token (⟨t83.Kind,t83.Text,t83.Value,t83.Line,t83.Col,t83.At,(IntKind.i64.wrap (t83.End + t82))⟩ : api_Token)) hS90 ?_
    intro w91 hS92
    refine sR 5 [.inRegion (opsOf (cd25 [1,1,1,1,1,1,1,1,1,0])) [2],.code (cd25 [1,1,1,1,1,1,1,1,1,1])] ?_
    obtain ⟨⟨t93,t94,t95⟩,hr96,hp97⟩:=bind_some' hp81
    try dsimp only at hp97
    have hS98:=hS92.pick1
    refine rC (lexis_Lexer__pass.ok y0 t11 t12 t13 t82 ba0 hS98 hr96) ?_
    rintro _ w99 ⟨rfl,hS100⟩
    refine ⟨_,rfl,?_⟩
    refine sR 3 [.inRegion (opsOf (cd25 [1,1,1,1,1,1,1,1,1,1,0])) [0,1,2],.code p25_31] ?_
    refine rLa 39 (.tmp 6) (hS100.blk 1 rfl) ?_
    have hS101:=hS100.pick2
    refine rSA 39 (.tmp 2) (.tmp 213) (enc_api_Token (⟨t83.Kind,t83.Text,t83.Value,t83.Line,t83.Col,t83.At,(IntKind.i64.wrap (t83.End + t82))⟩ : api_Token)) hS101 (one_api_Token _) ?_
    intro w102 hS103
    refine sR 2 [.code p25_31] ?_
    have hS106:=hS103.drop
    have hS107:=hS106.pick1
    have hS108:=hS107.drop
    refine rRc (.tuple #[.agg (enc_api_Token (⟨t83.Kind,t83.Text,t83.Value,t83.Line,t83.Col,t83.At,(IntKind.i64.wrap (t83.End + t82))⟩ : api_Token)).toArray,.nilIface]) (.ca 2 39 (hS103.blk 0 rfl) (.tm 3 .nil)) Tryz.func25 ?_
    cases Option.some.inj hp97
    exact hR _ _ ⟨.nilIface,.nilIface,Z,(Zm.Le.refl _),rfl,hS108,(RepE.of_nil),(RepE.of_nil)⟩
   cases t74
   ·have hp110:=ite_f hv80 rfl
    refine sR 5 (.inRegion (opsOf (cd25 [1,1,1,1,1,1,1,0,1,0,1,1,0,0])) [1,2]::.code p25_33::td125) ?_
    obtain ⟨t111,hr112,hp113⟩:=bind_some' hp110
    refine rC (lexis_digit.ok (byt (y0.extract t11.toNat y0.size) (0 : Int)) hS78 hr112) ?_
    rintro _ w114 ⟨rfl,hS115⟩
    refine ⟨_,rfl,?_⟩
    refine sR 2 (.code p25_33::td125) ?_
    obtain ⟨v116,hv117,hp118⟩:=bind_some' hp113
    have J122 : ∀ (t119 : Bool) (he124 : t119 = v116) (l123 : List Value) (w120 : World) (hS121 : St w0 Z (xblk ba0 93 ([.string y0,.int .i64 t11,.int .i64 t12,.int .i64 t13,.nilIface])::xblk b1 39 (enc_api_Token (⟨0,(⟨#[]⟩ : ByteArray),0,0,0,0,0⟩ : api_Token))::xblk b46 39 (enc_api_Token (⟨0,(⟨#[]⟩ : ByteArray),0,t12,t13,t11,t11⟩ : api_Token))::fs) w120),Runs Tryz.prog (fx 25) td125 (fill (mk 214 [(0,.pointer (some ⟨ba0,0,none⟩)),(2,.pointer (some ⟨b1,0,none⟩)),(6,.pointer (some ⟨b46,0,none⟩)),(7,.string (y0.extract t11.toNat y0.size)),(8,.int .i64 1),(9,.int .u8 (byt (y0.extract t11.toNat y0.size) (0 : Int))),(117,.bool t119)]) l123) w120 R:=by
     intro t119 he124 l123 w120 hS121
     subst he124
     try dsimp only at hp118
     cases t119
     ·have hp125:=ite_f hp118 rfl
      refine sS 5 (.inRegion (opsOf (cd25 [1,1,1,1,1,1,1,0,1,0,1,1,1,1,0])) [2]::.code (cd25 [1,1,1,1,1,1,1,0,1,0,1,1,1,1,1])::td124) 174 ((byt (y0.extract t11.toNat y0.size) (0 : Int)) == 34) (fun h126 => ?_) fun h127 => ?_
      ·have hp128:=ite_t hp125 h126
       refine sR 6 (.inRegion (opsOf (cd25 [1,1,1,1,1,1,1,0,1,0,1,1,1,1,1,0,0])) [1,2,3]::.code (cd25 [1,1,1,1,1,1,1,0,1,0,1,1,1,1,1,0,1])::td124) ?_
       obtain ⟨g129,hp130⟩:=ite_some hp128
       refine rV (.slice 9 (.tmp 175) (some (.const (.int .i64 1))) none none) (.string ((y0.extract t11.toNat y0.size).extract (1 : Int).toNat (y0.extract t11.toNat y0.size).size)) (fun o ho _ => x_cutStr_sn (k:=.i64) (by kernel_rfl) (by kernel_rfl) (by kernel_rfl) g129 ho) ?_
       obtain ⟨t131,hr132,hp133⟩:=bind_some' hp130
       refine rC (strings_IndexAny.ok ((y0.extract t11.toNat y0.size).extract (1 : Int).toNat (y0.extract t11.toNat y0.size).size) (⟨#[34,10]⟩ : ByteArray) hS121 hr132) ?_
       rintro _ w134 ⟨rfl,hS135⟩
       refine ⟨_,rfl,?_⟩
       refine sS 7 (.inRegion (opsOf (cd25 [1,1,1,1,1,1,1,0,1,0,1,1,1,1,1,0,1,0,0])) []::.code (cd25 [1,1,1,1,1,1,1,0,1,0,1,1,1,1,1,0,1,0,1])::td126) 179 (decide (t131 < 0)) (fun h136 => ?_) fun h137 => ?_
       ·have hp138:=ite_t hp133 h136
        refine sR 7 (iR p25_42 3 5::td127) ?_
        obtain ⟨⟨t139,t140,t141,t142,t143,t144⟩,hr147,hp148⟩:=bind_some' hp138
        try dsimp only at hp148
        refine rC (lexis_Lexer__fail_2.ok rec_lexis_Lexer__Next hrec_lexis_Lexer__Next y0 t11 t12 t13 ((y0.extract t11.toNat y0.size).size : Int) 50 ba0 hS135 hr147) ?_
        rintro _ w151 ⟨Q145,Q146,Z153,hz154,rfl,hS152,hs155,hs156⟩
        refine ⟨_,rfl,?_⟩
        refine sR 2 (.inRegion (opsOf p25_42) [6,7]::td127) ?_
        have hS157:=hS152.pick1
        refine rSA 39 (.tmp 2) (.tmp 184) (enc_api_Token t139) hS157 (one_api_Token _) ?_
        intro w158 hS159
        refine sR 2 td127 ?_
        refine r_isret (c:=p25_43) (by kernel_rfl) ?_
        have hS160:=hS159.drop
        have hS161:=hS160.pick1
        have hS162:=hS161.drop
        refine rRc (.tuple #[.agg (enc_api_Token t139).toArray,Q145]) (.ca 2 39 (hS159.blk 0 rfl) (.tm 3 .nil)) Tryz.func25 ?_
        cases hq86 _ (Option.some.inj hp148)
        exact hR _ _ ⟨Q145,Q146,Z153,hz154,rfl,hS162,hs155,hs156⟩
       have hp164:=ite_f hp133 h137
       refine sR 9 (.inRegion (opsOf p25_44) [3,4]::.code p25_45::td128) ?_
       obtain ⟨g165,hp166⟩:=ite_some hp164
       refine rV (.index 9 (.tmp 186) (.tmp 188)) (.int .u8 (byt (y0.extract t11.toNat y0.size) (IntKind.i64.wrap (1 + t131)))) (fun o ho _ => x_indexStr (kk:=.i64) (by kernel_rfl) (by kernel_rfl) (by kernel_rfl) g165.1 g165.2 ho) ?_
       refine sS 1 (.inRegion (opsOf p25_44) []::.code p25_45::td128) 190 ((byt (y0.extract t11.toNat y0.size) (IntKind.i64.wrap (1 + t131))) == 10) (fun h167 => ?_) fun h168 => ?_
       ·have hp169:=ite_t hp166 h167
        refine sR 7 (iR p25_47 3 5::td129) ?_
        obtain ⟨⟨t170,t171,t172,t173,t174,t175⟩,hr178,hp179⟩:=bind_some' hp169
        try dsimp only at hp179
        refine rC (lexis_Lexer__fail_2.ok rec_lexis_Lexer__Next hrec_lexis_Lexer__Next y0 t11 t12 t13 (IntKind.i64.wrap (1 + t131)) 50 ba0 hS135 hr178) ?_
        rintro _ w182 ⟨Q176,Q177,Z184,hz185,rfl,hS183,hs186,hs187⟩
        refine ⟨_,rfl,?_⟩
        refine sR 2 (.inRegion (opsOf p25_47) [6,7]::td129) ?_
        have hS188:=hS183.pick1
        refine rSA 39 (.tmp 2) (.tmp 195) (enc_api_Token t170) hS188 (one_api_Token _) ?_
        intro w189 hS190
        refine sR 2 td129 ?_
        refine r_isret (c:=p25_48) (by kernel_rfl) ?_
        have hS191:=hS190.drop
        have hS192:=hS191.pick1
        have hS193:=hS192.drop
        refine rRc (.tuple #[.agg (enc_api_Token t170).toArray,Q176]) (.ca 2 39 (hS190.blk 0 rfl) (.tm 3 .nil)) Tryz.func25 ?_
        cases hq86 _ (Option.some.inj hp179)
        exact hR _ _ ⟨Q176,Q177,Z184,hz185,rfl,hS193,hs186,hs187⟩
       have hp195:=ite_f hp166 h168
       refine sR 9 (.code p25_49::td124) ?_
       have hS196:=hS135.pick2
       generalize hg198 : (xblk ba0 93 ([.string y0,.int .i64 t11,.int .i64 t12,.int .i64 t13,.nilIface])::xblk b1 39 (enc_api_Token (⟨0,(⟨#[]⟩ : ByteArray),0,0,0,0,0⟩ : api_Token))::fs) = gs197 at hS196
       obtain ⟨g199,hp200⟩:=ite_some hp195
       refine r_drawnG (S:=Option (Unit × Option Unit)) (rank:=(fun st => match st with | none => 0 | some (x201,none) => 1 | some (x201,some x202) => 2)) (C:=(fun st w' => match st with | none => St w0 Z (xblk b46 39 (enc_api_Token (⟨0,(⟨#[]⟩ : ByteArray),0,t12,t13,t11,t11⟩ : api_Token))::gs197) w' | some (x201,none) => St w0 Z (xblk b46 39 (enc_api_Token (⟨3,(⟨#[]⟩ : ByteArray),0,t12,t13,t11,t11⟩ : api_Token))::gs197) w' | some (x201,some x202) => St w0 Z (xblk b46 39 (enc_api_Token (⟨3,((y0.extract t11.toNat y0.size).extract (1 : Int).toNat (IntKind.i64.wrap (1 + t131)).toNat),0,t12,t13,t11,t11⟩ : api_Token))::gs197) w')) (v:=(fun st => match st with | none => [.string (y0.extract t11.toNat y0.size),.int .i64 t131,.int .i64 (IntKind.i64.wrap (1 + t131)),.string ((y0.extract t11.toNat y0.size).extract (1 : Int).toNat (IntKind.i64.wrap (1 + t131)).toNat),.pointer (some ⟨b46,0,none⟩),undef,undef,undef] | some (x201,none) => [.string (y0.extract t11.toNat y0.size),.int .i64 t131,.int .i64 (IntKind.i64.wrap (1 + t131)),.string ((y0.extract t11.toNat y0.size).extract (1 : Int).toNat (IntKind.i64.wrap (1 + t131)).toNat),.pointer (some ⟨b46,0,none⟩),undef,.pointer (some ⟨b46,1,none⟩),undef] | some (x201,some x202) => [.string (y0.extract t11.toNat y0.size),.int .i64 t131,.int .i64 (IntKind.i64.wrap (1 + t131)),.string ((y0.extract t11.toNat y0.size).extract (1 : Int).toNat (IntKind.i64.wrap (1 + t131)).toNat),.pointer (some ⟨b46,0,none⟩),undef,.pointer (some ⟨b46,1,none⟩),undef])) (c:=p25_49) (id:=40) none 5 8 [5,7] [0,0,0,0,0,0,1,1] [1,1,1,1,0,1,1,2] [] (by kernel_rfl) (by kernel_rfl) (by kernel_rfl) (by kernel_rfl) (by kernel_rfl) (by kernel_rfl) (by kernel_rfl) (by kernel_rfl) (by kernel_rfl) (by kernel_rfl) rfl hS196.drew ?_ ?_ ?_ ?_
       ·intro st w hC
        rcases st with _ | ⟨x201,_ | x202⟩
        ·exact nbl rfl
        ·exact nbl rfl
        ·exact nbl rfl
       ·intro i hi he st w hC hr hu
        match i,hi,he with
        | 0,_,_ =>
         rcases st with _ | ⟨x201,_ | x202⟩
         ·dsimp only at hC
          exact dP (.string (y0.extract t11.toNat y0.size)) hC
         ·dsimp only at hC
          exact dP (.string (y0.extract t11.toNat y0.size)) hC
         ·exact absurd hu (nle rfl)
        | 1,_,_ =>
         rcases st with _ | ⟨x201,_ | x202⟩
         ·dsimp only at hC
          exact dP (.int .i64 t131) hC
         ·dsimp only at hC
          exact dP (.int .i64 t131) hC
         ·exact absurd hu (nle rfl)
        | 2,_,_ =>
         rcases st with _ | ⟨x201,_ | x202⟩
         ·dsimp only at hC
          exact dP (.int .i64 (IntKind.i64.wrap (1 + t131))) hC
         ·dsimp only at hC
          exact dP (.int .i64 (IntKind.i64.wrap (1 + t131))) hC
         ·exact absurd hu (nle rfl)
        | 3,_,_ =>
         rcases st with _ | ⟨x201,_ | x202⟩
         ·dsimp only at hC
          exact does_run (x_cutStr_ss (t:=9) (x:=(.tmp 199)) (lo:=(.const (.int .i64 1))) (hi:=(.tmp 201)) (k:=.i64) (k':=.i64) (by kernel_rfl) (by kernel_rfl) (by kernel_rfl) (by kernel_rfl) g199 (by kernel_rfl)) rfl hC
         ·dsimp only at hC
          exact does_run (x_cutStr_ss (t:=9) (x:=(.tmp 199)) (lo:=(.const (.int .i64 1))) (hi:=(.tmp 201)) (k:=.i64) (k':=.i64) (by kernel_rfl) (by kernel_rfl) (by kernel_rfl) (by kernel_rfl) g199 (by kernel_rfl)) rfl hC
         ·exact absurd hu (nle rfl)
        | 4,_,_ =>
         rcases st with _ | ⟨x201,_ | x202⟩
         ·dsimp only at hC
          exact dP (.pointer (some ⟨b46,0,none⟩)) hC
         ·exact absurd hu (nle rfl)
         ·exact absurd hu (nle rfl)
        | 5,_,he => exact absurd he (by decide)
        | 6,_,_ =>
         rcases st with _ | ⟨x201,_ | x202⟩
         ·exact absurd hr (nle rfl)
         ·dsimp only at hC
          exact dP (.pointer (some ⟨b46,1,none⟩)) hC
         ·exact absurd hu (nle rfl)
        | 7,_,he => exact absurd he (by decide)
        | i + 8,hi,_ => exact absurd hi (by omega)
       ·intro k hk st w hC hr
        match k,hk with
        | 0,_ =>
         rcases st with _ | ⟨x201,_ | x202⟩
         ·dsimp only at hC
          refine dS 3 (.tmp 203) (.const (.int .i64 3)) 0 (.int .i64 3) [.int .i64 3] (enc_api_Token (⟨3,(⟨#[]⟩ : ByteArray),0,t12,t13,t11,t11⟩ : api_Token)) hC ?_
          intro w2 h2
          refine ⟨some ((),none),rfl,?_,.inl rfl,h2⟩
          intro j hj
          match j,hj with
          | 0,_ => exact rfl
          | 1,_ => exact rfl
          | 2,_ => exact rfl
          | 3,_ => exact rfl
          | 4,_ => exact rfl
          | 5,hj => exact absurd hj (by decide)
          | 6,hj => exact absurd hj (by decide)
          | 7,hj => exact absurd hj (by decide)
          | j + 8,_ => exact rfl
         ·exact absurd hr (Nat.ne_of_beq_eq_false rfl)
         ·exact absurd hr (Nat.ne_of_beq_eq_false rfl)
        | 1,_ =>
         rcases st with _ | ⟨x201,_ | x202⟩
         ·exact absurd hr (Nat.ne_of_beq_eq_false rfl)
         ·dsimp only at hC
          refine dS 9 (.tmp 204) (.tmp 202) 1 (.string ((y0.extract t11.toNat y0.size).extract (1 : Int).toNat (IntKind.i64.wrap (1 + t131)).toNat)) [.string ((y0.extract t11.toNat y0.size).extract (1 : Int).toNat (IntKind.i64.wrap (1 + t131)).toNat)] (enc_api_Token (⟨3,((y0.extract t11.toNat y0.size).extract (1 : Int).toNat (IntKind.i64.wrap (1 + t131)).toNat),0,t12,t13,t11,t11⟩ : api_Token)) hC ?_
          intro w2 h2
          refine ⟨some (x201,some ()),rfl,?_,.inl rfl,h2⟩
          intro j hj
          match j,hj with
          | 0,_ => exact rfl
          | 1,_ => exact rfl
          | 2,_ => exact rfl
          | 3,_ => exact rfl
          | 4,_ => exact rfl
          | 5,_ => exact rfl
          | 6,_ => exact rfl
          | 7,hj => exact absurd hj (by decide)
          | j + 8,_ => exact rfl
         ·exact absurd hr (Nat.ne_of_beq_eq_false rfl)
        | k + 2,hk => exact absurd hk (by simp)
       intro st206 w203 hS204 hr205
       rcases st206 with _ | ⟨x201,_ | x202⟩
       ·exact absurd hr205 (nle rfl)
       ·exact absurd hr205 (nle rfl)
       replace hS204 : St w0 Z (xblk b46 39 (enc_api_Token (⟨3,((y0.extract t11.toNat y0.size).extract (1 : Int).toNat (IntKind.i64.wrap (1 + t131)).toNat),0,t12,t13,t11,t11⟩ : api_Token))::gs197) w203:=hS204
       subst hg198
       refine sR 1 td123 ?_
       have hS207:=hS204.pick2
       have hS208:=hS207.pick2
       refine rF (mk 214 [(0,.pointer (some ⟨ba0,0,none⟩)),(2,.pointer (some ⟨b1,0,none⟩)),(6,.pointer (some ⟨b46,0,none⟩)),(8,.int .i64 (IntKind.i64.wrap (t131 + 2)))]) ?_
       exact J87 (IntKind.i64.wrap (t131 + 2)) (⟨3,((y0.extract t11.toNat y0.size).extract (1 : Int).toNat (IntKind.i64.wrap (1 + t131)).toNat),0,t12,t13,t11,t11⟩ : api_Token) (Option.some.inj hp200) _ _ hS208
      have hp209:=ite_f hp125 h127
      refine sR 6 (.inRegion (opsOf (cd25 [1,1,1,1,1,1,1,0,1,0,1,1,1,1,1,1,0])) [1,2]::.code (cd25 [1,1,1,1,1,1,1,0,1,0,1,1,1,1,1,1,1])::td124) ?_
      obtain ⟨t210,hr211,hp212⟩:=bind_some' hp209
      refine rC (lexis_sign.ok (y0.extract t11.toNat y0.size) hS121 hr211) ?_
      rintro _ w213 ⟨rfl,hS214⟩
      refine ⟨_,rfl,?_⟩
      refine sS 7 (.inRegion (opsOf (cd25 [1,1,1,1,1,1,1,0,1,0,1,1,1,1,1,1,1,0,0])) []::.code (cd25 [1,1,1,1,1,1,1,0,1,0,1,1,1,1,1,1,1,0,1])::td130) 91 (t210 == 0) (fun h215 => ?_) fun h216 => ?_
      ·have hp217:=ite_t hp212 h215
       refine sR 5 (iR p25_55 1 5::td131) ?_
       obtain ⟨⟨t218,t219,t220,t221,t222,t223⟩,hr226,hp227⟩:=bind_some' hp217
       try dsimp only at hp227
       refine rC (lexis_Lexer__fail_2.ok rec_lexis_Lexer__Next hrec_lexis_Lexer__Next y0 t11 t12 t13 0 50 ba0 hS214 hr226) ?_
       rintro _ w230 ⟨Q224,Q225,Z232,hz233,rfl,hS231,hs234,hs235⟩
       refine ⟨_,rfl,?_⟩
       refine sR 2 (.inRegion (opsOf p25_55) [4,5]::td131) ?_
       have hS236:=hS231.pick1
       refine rSA 39 (.tmp 2) (.tmp 94) (enc_api_Token t218) hS236 (one_api_Token _) ?_
       intro w237 hS238
       refine sR 2 td131 ?_
       refine r_isret (c:=p25_56) (by kernel_rfl) ?_
       have hS239:=hS238.drop
       have hS240:=hS239.pick1
       have hS241:=hS240.drop
       refine rRc (.tuple #[.agg (enc_api_Token t218).toArray,Q224]) (.ca 2 39 (hS238.blk 0 rfl) (.tm 3 .nil)) Tryz.func25 ?_
       cases hq86 _ (Option.some.inj hp227)
       exact hR _ _ ⟨Q224,Q225,Z232,hz233,rfl,hS241,hs234,hs235⟩
      have hp243:=ite_f hp212 h216
      refine sR 3 td130 ?_
      have hS244:=hS214.pick2
      generalize hg246 : (xblk ba0 93 ([.string y0,.int .i64 t11,.int .i64 t12,.int .i64 t13,.nilIface])::xblk b1 39 (enc_api_Token (⟨0,(⟨#[]⟩ : ByteArray),0,0,0,0,0⟩ : api_Token))::fs) = gs245 at hS244
      obtain ⟨g247,hp248⟩:=ite_some hp243
      refine r_drawnG (S:=Option (Unit × Option Unit)) (rank:=(fun st => match st with | none => 0 | some (x249,none) => 1 | some (x249,some x250) => 2)) (C:=(fun st w' => match st with | none => St w0 Z (xblk b46 39 (enc_api_Token (⟨0,(⟨#[]⟩ : ByteArray),0,t12,t13,t11,t11⟩ : api_Token))::gs245) w' | some (x249,none) => St w0 Z (xblk b46 39 (enc_api_Token (⟨4,(⟨#[]⟩ : ByteArray),0,t12,t13,t11,t11⟩ : api_Token))::gs245) w' | some (x249,some x250) => St w0 Z (xblk b46 39 (enc_api_Token (⟨4,((y0.extract t11.toNat y0.size).extract 0 t210.toNat),0,t12,t13,t11,t11⟩ : api_Token))::gs245) w')) (v:=(fun st => match st with | none => [.string (y0.extract t11.toNat y0.size),.int .i64 t210,.string ((y0.extract t11.toNat y0.size).extract 0 t210.toNat),.pointer (some ⟨b46,0,none⟩),undef,undef,undef] | some (x249,none) => [.string (y0.extract t11.toNat y0.size),.int .i64 t210,.string ((y0.extract t11.toNat y0.size).extract 0 t210.toNat),.pointer (some ⟨b46,0,none⟩),undef,.pointer (some ⟨b46,1,none⟩),undef] | some (x249,some x250) => [.string (y0.extract t11.toNat y0.size),.int .i64 t210,.string ((y0.extract t11.toNat y0.size).extract 0 t210.toNat),.pointer (some ⟨b46,0,none⟩),undef,.pointer (some ⟨b46,1,none⟩),undef])) (c:=p25_54) (id:=19) none 4 7 [4,6] [0,0,0,0,0,1,1] [1,1,1,0,1,1,2] [] (by kernel_rfl) (by kernel_rfl) (by kernel_rfl) (by kernel_rfl) (by kernel_rfl) (by kernel_rfl) (by kernel_rfl) (by kernel_rfl) (by kernel_rfl) (by kernel_rfl) rfl hS244.drew ?_ ?_ ?_ ?_
      ·intro st w hC
       rcases st with _ | ⟨x249,_ | x250⟩
       ·exact nbl rfl
       ·exact nbl rfl
       ·exact nbl rfl
      ·intro i hi he st w hC hr hu
       match i,hi,he with
       | 0,_,_ =>
        rcases st with _ | ⟨x249,_ | x250⟩
        ·dsimp only at hC
         exact dP (.string (y0.extract t11.toNat y0.size)) hC
        ·dsimp only at hC
         exact dP (.string (y0.extract t11.toNat y0.size)) hC
        ·exact absurd hu (nle rfl)
       | 1,_,_ =>
        rcases st with _ | ⟨x249,_ | x250⟩
        ·dsimp only at hC
         exact dP (.int .i64 t210) hC
        ·dsimp only at hC
         exact dP (.int .i64 t210) hC
        ·exact absurd hu (nle rfl)
       | 2,_,_ =>
        rcases st with _ | ⟨x249,_ | x250⟩
        ·dsimp only at hC
         exact does_run (x_cutStr_ns (t:=9) (x:=(.tmp 96)) (hi:=(.tmp 97)) (k:=.i64) (by kernel_rfl) (by kernel_rfl) (by kernel_rfl) g247 (by kernel_rfl)) rfl hC
        ·dsimp only at hC
         exact does_run (x_cutStr_ns (t:=9) (x:=(.tmp 96)) (hi:=(.tmp 97)) (k:=.i64) (by kernel_rfl) (by kernel_rfl) (by kernel_rfl) g247 (by kernel_rfl)) rfl hC
        ·exact absurd hu (nle rfl)
       | 3,_,_ =>
        rcases st with _ | ⟨x249,_ | x250⟩
        ·dsimp only at hC
         exact dP (.pointer (some ⟨b46,0,none⟩)) hC
        ·exact absurd hu (nle rfl)
        ·exact absurd hu (nle rfl)
       | 4,_,he => exact absurd he (by decide)
       | 5,_,_ =>
        rcases st with _ | ⟨x249,_ | x250⟩
        ·exact absurd hr (nle rfl)
        ·dsimp only at hC
         exact dP (.pointer (some ⟨b46,1,none⟩)) hC
        ·exact absurd hu (nle rfl)
       | 6,_,he => exact absurd he (by decide)
       | i + 7,hi,_ => exact absurd hi (by omega)
      ·intro k hk st w hC hr
       match k,hk with
       | 0,_ =>
        rcases st with _ | ⟨x249,_ | x250⟩
        ·dsimp only at hC
         refine dS 3 (.tmp 99) (.const (.int .i64 4)) 0 (.int .i64 4) [.int .i64 4] (enc_api_Token (⟨4,(⟨#[]⟩ : ByteArray),0,t12,t13,t11,t11⟩ : api_Token)) hC ?_
         intro w2 h2
         refine ⟨some ((),none),rfl,?_,.inl rfl,h2⟩
         intro j hj
         match j,hj with
         | 0,_ => exact rfl
         | 1,_ => exact rfl
         | 2,_ => exact rfl
         | 3,_ => exact rfl
         | 4,hj => exact absurd hj (by decide)
         | 5,hj => exact absurd hj (by decide)
         | 6,hj => exact absurd hj (by decide)
         | j + 7,_ => exact rfl
        ·exact absurd hr (Nat.ne_of_beq_eq_false rfl)
        ·exact absurd hr (Nat.ne_of_beq_eq_false rfl)
       | 1,_ =>
        rcases st with _ | ⟨x249,_ | x250⟩
        ·exact absurd hr (Nat.ne_of_beq_eq_false rfl)
        ·dsimp only at hC
         refine dS 9 (.tmp 100) (.tmp 98) 1 (.string ((y0.extract t11.toNat y0.size).extract 0 t210.toNat)) [.string ((y0.extract t11.toNat y0.size).extract 0 t210.toNat)] (enc_api_Token (⟨4,((y0.extract t11.toNat y0.size).extract 0 t210.toNat),0,t12,t13,t11,t11⟩ : api_Token)) hC ?_
         intro w2 h2
         refine ⟨some (x249,some ()),rfl,?_,.inl rfl,h2⟩
         intro j hj
         match j,hj with
         | 0,_ => exact rfl
         | 1,_ => exact rfl
         | 2,_ => exact rfl
         | 3,_ => exact rfl
         | 4,_ => exact rfl
         | 5,_ => exact rfl
         | 6,hj => exact absurd hj (by decide)
         | j + 7,_ => exact rfl
        ·exact absurd hr (Nat.ne_of_beq_eq_false rfl)
       | k + 2,hk => exact absurd hk (by simp)
      intro st254 w251 hS252 hr253
      rcases st254 with _ | ⟨x249,_ | x250⟩
      ·exact absurd hr253 (nle rfl)
      ·exact absurd hr253 (nle rfl)
      replace hS252 : St w0 Z (xblk b46 39 (enc_api_Token (⟨4,((y0.extract t11.toNat y0.size).extract 0 t210.toNat),0,t12,t13,t11,t11⟩ : api_Token))::gs245) w251:=hS252
      subst hg246
      refine sR 1 td123 ?_
      have hS255:=hS252.pick2
      have hS256:=hS255.pick2
      refine rF (mk 214 [(0,.pointer (some ⟨ba0,0,none⟩)),(2,.pointer (some ⟨b1,0,none⟩)),(6,.pointer (some ⟨b46,0,none⟩)),(8,.int .i64 t210)]) ?_
      exact J87 t210 (⟨4,((y0.extract t11.toNat y0.size).extract 0 t210.toNat),0,t12,t13,t11,t11⟩ : api_Token) (Option.some.inj hp248) _ _ hS256
     have hp257:=ite_t hp118 rfl
     refine sR 4 td135 ?_
     obtain ⟨v258,hv259,hp260⟩:=bind_some' hp257
     have J264 : ∀ (t261 : Int) (he266 : t261 = v258) (l265 : List Value) (w262 : World) (hS263 : St w0 Z (xblk ba0 93 ([.string y0,.int .i64 t11,.int .i64 t12,.int .i64 t13,.nilIface])::xblk b1 39 (enc_api_Token (⟨0,(⟨#[]⟩ : ByteArray),0,0,0,0,0⟩ : api_Token))::xblk b46 39 (enc_api_Token (⟨0,(⟨#[]⟩ : ByteArray),0,t12,t13,t11,t11⟩ : api_Token))::fs) w262),Runs Tryz.prog (fx 25) td132 (fill (mk 214 [(0,.pointer (some ⟨ba0,0,none⟩)),(2,.pointer (some ⟨b1,0,none⟩)),(6,.pointer (some ⟨b46,0,none⟩)),(7,.string (y0.extract t11.toNat y0.size)),(8,.int .i64 t261)]) l265) w262 R:=by
      intro t261 he266 l265 w262 hS263
      subst he266
      try dsimp only at hp260
      refine sR 4 (iR (cd25 [1,1,1,1,1,1,1,0,1,0,1,1,1,0,1,0]) 2 7::.code (cd25 [1,1,1,1,1,1,1,0,1,0,1,1,1,0,1,1])::td124) ?_
      obtain ⟨g267,hp268⟩:=ite_some hp260
      refine rV (.slice 9 (.tmp 152) none (some (.tmp 153)) none) (.string ((y0.extract t11.toNat y0.size).extract 0 t261.toNat)) (fun o ho _ => x_cutStr_ns (k:=.i64) (by kernel_rfl) (by kernel_rfl) (by kernel_rfl) g267 ho) ?_
      obtain ⟨⟨t269,t270⟩,hr271,hp272⟩:=bind_some' hp268
      try dsimp only at hp272
      refine rC (word_Parse.ok ((y0.extract t11.toNat y0.size).extract 0 t261.toNat) hS263 hr271) ?_
      rintro _ w273 ⟨rfl,hS274⟩
      refine ⟨_,rfl,?_⟩
      refine sS 11 (.inRegion (opsOf (cd25 [1,1,1,1,1,1,1,0,1,0,1,1,1,0,1,1,0,0])) []::.code (cd25 [1,1,1,1,1,1,1,0,1,0,1,1,1,0,1,1,0,1])::td136) 159 (t270 != 0) (fun h275 => ?_) fun h276 => ?_
      ·have hp277:=ite_t hp272 h275
       refine sR 6 (iR p25_64 2 5::td137) ?_
       obtain ⟨⟨t278,t279,t280,t281,t282,t283⟩,hr286,hp287⟩:=bind_some' hp277
       try dsimp only at hp287
       refine rC (lexis_Lexer__fail_2.ok rec_lexis_Lexer__Next hrec_lexis_Lexer__Next y0 t11 t12 t13 0 t270 ba0 hS274 hr286) ?_
       rintro _ w290 ⟨Q284,Q285,Z292,hz293,rfl,hS291,hs294,hs295⟩
       refine ⟨_,rfl,?_⟩
       refine sR 2 (.inRegion (opsOf p25_64) [5,6]::td137) ?_
       have hS296:=hS291.pick1
       refine rSA 39 (.tmp 2) (.tmp 163) (enc_api_Token t278) hS296 (one_api_Token _) ?_
       intro w297 hS298
       refine sR 2 td137 ?_
       refine r_isret (c:=p25_65) (by kernel_rfl) ?_
       have hS299:=hS298.drop
       have hS300:=hS299.pick1
       have hS301:=hS300.drop
       refine rRc (.tuple #[.agg (enc_api_Token t278).toArray,Q284]) (.ca 2 39 (hS298.blk 0 rfl) (.tm 3 .nil)) Tryz.func25 ?_
       cases hq86 _ (Option.some.inj hp287)
       exact hR _ _ ⟨Q284,Q285,Z292,hz293,rfl,hS301,hs294,hs295⟩
      have hp303:=ite_f hp272 h276
      refine sR 3 td136 ?_
      have hS304:=hS274.pick2
      generalize hg306 : (xblk ba0 93 ([.string y0,.int .i64 t11,.int .i64 t12,.int .i64 t13,.nilIface])::xblk b1 39 (enc_api_Token (⟨0,(⟨#[]⟩ : ByteArray),0,0,0,0,0⟩ : api_Token))::fs) = gs305 at hS304
      obtain ⟨g307,hp308⟩:=ite_some hp303
      refine r_drawnG (S:=Option (Unit × Option (Unit × Option Unit))) (rank:=(fun st => match st with | none => 0 | some (x309,none) => 1 | some (x309,some (x310,none)) => 2 | some (x309,some (x310,some x311)) => 3)) (C:=(fun st w' => match st with | none => St w0 Z (xblk b46 39 (enc_api_Token (⟨0,(⟨#[]⟩ : ByteArray),0,t12,t13,t11,t11⟩ : api_Token))::gs305) w' | some (x309,none) => St w0 Z (xblk b46 39 (enc_api_Token (⟨2,(⟨#[]⟩ : ByteArray),0,t12,t13,t11,t11⟩ : api_Token))::gs305) w' | some (x309,some (x310,none)) => St w0 Z (xblk b46 39 (enc_api_Token (⟨2,((y0.extract t11.toNat y0.size).extract 0 t261.toNat),0,t12,t13,t11,t11⟩ : api_Token))::gs305) w' | some (x309,some (x310,some x311)) => St w0 Z (xblk b46 39 (enc_api_Token (⟨2,((y0.extract t11.toNat y0.size).extract 0 t261.toNat),t269,t12,t13,t11,t11⟩ : api_Token))::gs305) w')) (v:=(fun st => match st with | none => [.string (y0.extract t11.toNat y0.size),.int .i64 t261,.string ((y0.extract t11.toNat y0.size).extract 0 t261.toNat),.int .i64 t269,.pointer (some ⟨b46,0,none⟩),undef,undef,undef,undef,undef] | some (x309,none) => [.string (y0.extract t11.toNat y0.size),.int .i64 t261,.string ((y0.extract t11.toNat y0.size).extract 0 t261.toNat),.int .i64 t269,.pointer (some ⟨b46,0,none⟩),undef,.pointer (some ⟨b46,1,none⟩),undef,undef,undef] | some (x309,some (x310,none)) => [.string (y0.extract t11.toNat y0.size),.int .i64 t261,.string ((y0.extract t11.toNat y0.size).extract 0 t261.toNat),.int .i64 t269,.pointer (some ⟨b46,0,none⟩),undef,.pointer (some ⟨b46,1,none⟩),undef,.pointer (some ⟨b46,2,none⟩),undef] | some (x309,some (x310,some x311)) => [.string (y0.extract t11.toNat y0.size),.int .i64 t261,.string ((y0.extract t11.toNat y0.size).extract 0 t261.toNat),.int .i64 t269,.pointer (some ⟨b46,0,none⟩),undef,.pointer (some ⟨b46,1,none⟩),undef,.pointer (some ⟨b46,2,none⟩),undef])) (c:=p25_63) (id:=32) none 5 10 [5,7,9] [0,0,0,0,0,0,1,1,2,2] [1,1,1,2,0,1,1,2,2,3] [] (by kernel_rfl) (by kernel_rfl) (by kernel_rfl) (by kernel_rfl) (by kernel_rfl) (by kernel_rfl) (by kernel_rfl) (by kernel_rfl) (by kernel_rfl) (by kernel_rfl) rfl hS304.drew ?_ ?_ ?_ ?_
      ·intro st w hC
       rcases st with _ | ⟨x309,_ | ⟨x310,_ | x311⟩⟩
       ·exact nbl rfl
       ·exact nbl rfl
       ·exact nbl rfl
       ·exact nbl rfl
      ·intro i hi he st w hC hr hu
       match i,hi,he with
       | 0,_,_ =>
        rcases st with _ | ⟨x309,_ | ⟨x310,_ | x311⟩⟩
        ·dsimp only at hC
         exact dP (.string (y0.extract t11.toNat y0.size)) hC
        ·dsimp only at hC
         exact dP (.string (y0.extract t11.toNat y0.size)) hC
        ·exact absurd hu (nle rfl)
        ·exact absurd hu (nle rfl)
       | 1,_,_ =>
        rcases st with _ | ⟨x309,_ | ⟨x310,_ | x311⟩⟩
        ·dsimp only at hC
         exact dP (.int .i64 t261) hC
        ·dsimp only at hC
         exact dP (.int .i64 t261) hC
        ·exact absurd hu (nle rfl)
        ·exact absurd hu (nle rfl)
       | 2,_,_ =>
        rcases st with _ | ⟨x309,_ | ⟨x310,_ | x311⟩⟩
        ·dsimp only at hC
         exact does_run (x_cutStr_ns (t:=9) (x:=(.tmp 165)) (hi:=(.tmp 166)) (k:=.i64) (by kernel_rfl) (by kernel_rfl) (by kernel_rfl) g307 (by kernel_rfl)) rfl hC
        ·dsimp only at hC
         exact does_run (x_cutStr_ns (t:=9) (x:=(.tmp 165)) (hi:=(.tmp 166)) (k:=.i64) (by kernel_rfl) (by kernel_rfl) (by kernel_rfl) g307 (by kernel_rfl)) rfl hC
        ·exact absurd hu (nle rfl)
        ·exact absurd hu (nle rfl)
       | 3,_,_ =>
        rcases st with _ | ⟨x309,_ | ⟨x310,_ | x311⟩⟩
        ·dsimp only at hC
         exact dP (.int .i64 t269) hC
        ·dsimp only at hC
         exact dP (.int .i64 t269) hC
        ·dsimp only at hC
         exact dP (.int .i64 t269) hC
        ·exact absurd hu (nle rfl)
       | 4,_,_ =>
        rcases st with _ | ⟨x309,_ | ⟨x310,_ | x311⟩⟩
        ·dsimp only at hC
         exact dP (.pointer (some ⟨b46,0,none⟩)) hC
        ·exact absurd hu (nle rfl)
        ·exact absurd hu (nle rfl)
        ·exact absurd hu (nle rfl)
       | 5,_,he => exact absurd he (by decide)
       | 6,_,_ =>
        rcases st with _ | ⟨x309,_ | ⟨x310,_ | x311⟩⟩
        ·exact absurd hr (nle rfl)
        ·dsimp only at hC
         exact dP (.pointer (some ⟨b46,1,none⟩)) hC
        ·exact absurd hu (nle rfl)
        ·exact absurd hu (nle rfl)
       | 7,_,he => exact absurd he (by decide)
       | 8,_,_ =>
        rcases st with _ | ⟨x309,_ | ⟨x310,_ | x311⟩⟩
        ·exact absurd hr (nle rfl)
        ·exact absurd hr (nle rfl)
        ·dsimp only at hC
         exact dP (.pointer (some ⟨b46,2,none⟩)) hC
        ·exact absurd hu (nle rfl)
       | 9,_,he => exact absurd he (by decide)
       | i + 10,hi,_ => exact absurd hi (by omega)
      ·intro k hk st w hC hr
       match k,hk with
       | 0,_ =>
        rcases st with _ | ⟨x309,_ | ⟨x310,_ | x311⟩⟩
        ·dsimp only at hC
         refine dS 3 (.tmp 169) (.const (.int .i64 2)) 0 (.int .i64 2) [.int .i64 2] (enc_api_Token (⟨2,(⟨#[]⟩ : ByteArray),0,t12,t13,t11,t11⟩ : api_Token)) hC ?_
         intro w2 h2
         refine ⟨some ((),none),rfl,?_,.inl rfl,h2⟩
         intro j hj
         match j,hj with
         | 0,_ => exact rfl
         | 1,_ => exact rfl
         | 2,_ => exact rfl
         | 3,_ => exact rfl
         | 4,_ => exact rfl
         | 5,hj => exact absurd hj (by decide)
         | 6,hj => exact absurd hj (by decide)
         | 7,hj => exact absurd hj (by decide)
         | 8,hj => exact absurd hj (by decide)
         | 9,hj => exact absurd hj (by decide)
         | j + 10,_ => exact rfl
        ·exact absurd hr (Nat.ne_of_beq_eq_false rfl)
        ·exact absurd hr (Nat.ne_of_beq_eq_false rfl)
        ·exact absurd hr (Nat.ne_of_beq_eq_false rfl)
       | 1,_ =>
        rcases st with _ | ⟨x309,_ | ⟨x310,_ | x311⟩⟩
        ·exact absurd hr (Nat.ne_of_beq_eq_false rfl)
        ·dsimp only at hC
         refine dS 9 (.tmp 170) (.tmp 167) 1 (.string ((y0.extract t11.toNat y0.size).extract 0 t261.toNat)) [.string ((y0.extract t11.toNat y0.size).extract 0 t261.toNat)] (enc_api_Token (⟨2,((y0.extract t11.toNat y0.size).extract 0 t261.toNat),0,t12,t13,t11,t11⟩ : api_Token)) hC ?_
         intro w2 h2
         refine ⟨some (x309,some ((),none)),rfl,?_,.inl rfl,h2⟩
         intro j hj
         match j,hj with
         | 0,_ => exact rfl
         | 1,_ => exact rfl
         | 2,_ => exact rfl
         | 3,_ => exact rfl
         | 4,_ => exact rfl
         | 5,_ => exact rfl
         | 6,_ => exact rfl
         | 7,hj => exact absurd hj (by decide)
         | 8,hj => exact absurd hj (by decide)
         | 9,hj => exact absurd hj (by decide)
         | j + 10,_ => exact rfl
        ·exact absurd hr (Nat.ne_of_beq_eq_false rfl)
        ·exact absurd hr (Nat.ne_of_beq_eq_false rfl)
       | 2,_ =>
        rcases st with _ | ⟨x309,_ | ⟨x310,_ | x311⟩⟩
        ·exact absurd hr (Nat.ne_of_beq_eq_false rfl)
        ·exact absurd hr (Nat.ne_of_beq_eq_false rfl)
        ·dsimp only at hC
         refine dS 2 (.tmp 171) (.tmp 168) 2 (.int .i64 t269) [.int .i64 t269] (enc_api_Token (⟨2,((y0.extract t11.toNat y0.size).extract 0 t261.toNat),t269,t12,t13,t11,t11⟩ : api_Token)) hC ?_
         intro w2 h2
         refine ⟨some (x309,some (x310,some ())),rfl,?_,.inl rfl,h2⟩
         intro j hj
         match j,hj with
         | 0,_ => exact rfl
         | 1,_ => exact rfl
         | 2,_ => exact rfl
         | 3,_ => exact rfl
         | 4,_ => exact rfl
         | 5,_ => exact rfl
         | 6,_ => exact rfl
         | 7,_ => exact rfl
         | 8,_ => exact rfl
         | 9,hj => exact absurd hj (by decide)
         | j + 10,_ => exact rfl
        ·exact absurd hr (Nat.ne_of_beq_eq_false rfl)
       | k + 3,hk => exact absurd hk (by simp)
      intro st315 w312 hS313 hr314
      rcases st315 with _ | ⟨x309,_ | ⟨x310,_ | x311⟩⟩
      ·exact absurd hr314 (nle rfl)
      ·exact absurd hr314 (nle rfl)
      ·exact absurd hr314 (nle rfl)
      replace hS313 : St w0 Z (xblk b46 39 (enc_api_Token (⟨2,((y0.extract t11.toNat y0.size).extract 0 t261.toNat),t269,t12,t13,t11,t11⟩ : api_Token))::gs305) w312:=hS313
      subst hg306
      refine sR 1 td123 ?_
      have hS316:=hS313.pick2
      have hS317:=hS316.pick2
      refine rF (mk 214 [(0,.pointer (some ⟨ba0,0,none⟩)),(2,.pointer (some ⟨b1,0,none⟩)),(6,.pointer (some ⟨b46,0,none⟩)),(8,.int .i64 t261)]) ?_
      exact J87 t261 (⟨2,((y0.extract t11.toNat y0.size).extract 0 t261.toNat),t269,t12,t13,t11,t11⟩ : api_Token) (Option.some.inj hp308) _ _ hS317
     have L327 : ∀ (t318 : Int) (e322 : Int),lexis_Lexer__Next.l0 y0 t11 t318 = some e322 → e322 = v258 → ∀ (l321 : List Value) (w319 : World) (hS320 : St w0 Z (xblk ba0 93 ([.string y0,.int .i64 t11,.int .i64 t12,.int .i64 t13,.nilIface])::xblk b1 39 (enc_api_Token (⟨0,(⟨#[]⟩ : ByteArray),0,0,0,0,0⟩ : api_Token))::xblk b46 39 (enc_api_Token (⟨0,(⟨#[]⟩ : ByteArray),0,t12,t13,t11,t11⟩ : api_Token))::fs) w319),Runs Tryz.prog (fx 25) td135 (fill (mk 214 [(0,.pointer (some ⟨ba0,0,none⟩)),(2,.pointer (some ⟨b1,0,none⟩)),(6,.pointer (some ⟨b46,0,none⟩)),(7,.string (y0.extract t11.toNat y0.size)),(8,.int .i64 t318)]) l321) w319 R:=by
      refine lexis_Lexer__Next.l0.partial_correctness y0 t11 (fun t318 e322 => e322 = v258 → ∀ (l321 : List Value) (w319 : World) (hS320 : St w0 Z (xblk ba0 93 ([.string y0,.int .i64 t11,.int .i64 t12,.int .i64 t13,.nilIface])::xblk b1 39 (enc_api_Token (⟨0,(⟨#[]⟩ : ByteArray),0,0,0,0,0⟩ : api_Token))::xblk b46 39 (enc_api_Token (⟨0,(⟨#[]⟩ : ByteArray),0,t12,t13,t11,t11⟩ : api_Token))::fs) w319),Runs Tryz.prog (fx 25) td135 (fill (mk 214 [(0,.pointer (some ⟨ba0,0,none⟩)),(2,.pointer (some ⟨b1,0,none⟩)),(6,.pointer (some ⟨b46,0,none⟩)),(7,.string (y0.extract t11.toNat y0.size)),(8,.int .i64 t318)]) l321) w319 R) ?_
      intro rec326 ih325 t318 e322 hb324 he323 l321 w319 hS320
      obtain ⟨v328,hv329,hp330⟩:=bind_some' hb324
      have hq333 : ∀ x,Sum.inr x = v328 → x = e322:=by intro x hx; subst hx; simpa using hp330
      have J334 : ∀ (he336 : Sum.inl () = v328) (l335 : List Value) (w331 : World) (hS332 : St w0 Z (xblk ba0 93 ([.string y0,.int .i64 t11,.int .i64 t12,.int .i64 t13,.nilIface])::xblk b1 39 (enc_api_Token (⟨0,(⟨#[]⟩ : ByteArray),0,0,0,0,0⟩ : api_Token))::xblk b46 39 (enc_api_Token (⟨0,(⟨#[]⟩ : ByteArray),0,t12,t13,t11,t11⟩ : api_Token))::fs) w331),Runs Tryz.prog (fx 25) td138 (fill (mk 214 [(0,.pointer (some ⟨ba0,0,none⟩)),(2,.pointer (some ⟨b1,0,none⟩)),(6,.pointer (some ⟨b46,0,none⟩)),(7,.string (y0.extract t11.toNat y0.size)),(8,.int .i64 t318)]) l335) w331 R:=by
       intro he336 l335 w331 hS332
       subst he336
       try dsimp only at hp330
       refine sR 7 td134 ?_
       refine sR 1 td135 ?_
       refine rF (mk 214 [(0,.pointer (some ⟨ba0,0,none⟩)),(2,.pointer (some ⟨b1,0,none⟩)),(6,.pointer (some ⟨b46,0,none⟩)),(7,.string (y0.extract t11.toNat y0.size)),(8,.int .i64 (IntKind.i64.wrap (t318 + 1)))]) ?_
       exact ih325 (IntKind.i64.wrap (t318 + 1)) _ hp330 he323 _ _ hS332
      refine sS 7 (iR p25_67 4 18::td139) 130 (decide (t318 < ((y0.extract t11.toNat y0.size).size : Int))) (fun h337 => ?_) fun h338 => ?_
      ·have hp339:=ite_t hv329 h337
       refine sR 3 (iR p25_67 7 15::td139) ?_
       obtain ⟨g340,hp341⟩:=ite_some hp339
       refine rV (.index 9 (.tmp 132) (.tmp 133)) (.int .u8 (byt (y0.extract t11.toNat y0.size) t318)) (fun o ho _ => x_indexStr (kk:=.i64) (by kernel_rfl) (by kernel_rfl) (by kernel_rfl) g340.1 g340.2 ho) ?_
       obtain ⟨t342,hr343,hp344⟩:=bind_some' hp341
       refine rC (lexis_letter.ok (byt (y0.extract t11.toNat y0.size) t318) hS320 hr343) ?_
       rintro _ w345 ⟨rfl,hS346⟩
       refine ⟨_,rfl,?_⟩
       refine sR 1 (iR p25_67 10 12::td139) ?_
       cases t342
       ·have hp347:=ite_f hp344 rfl
        refine sR 2 (iR p25_67 12 10::td139) ?_
        obtain ⟨g348,hp349⟩:=ite_some hp347
        refine rV (.index 9 (.tmp 137) (.tmp 138)) (.int .u8 (byt (y0.extract t11.toNat y0.size) t318)) (fun o ho _ => x_indexStr (kk:=.i64) (by kernel_rfl) (by kernel_rfl) (by kernel_rfl) g348.1 g348.2 ho) ?_
        obtain ⟨t350,hr351,hp352⟩:=bind_some' hp349
        refine rC (lexis_digit.ok (byt (y0.extract t11.toNat y0.size) t318) hS346 hr351) ?_
        rintro _ w353 ⟨rfl,hS354⟩
        refine ⟨_,rfl,?_⟩
        refine sR 2 (iR p25_67 16 6::td139) ?_
        cases t350
        ·have hp355:=ite_f hp352 rfl
         refine sR 2 (iR p25_67 18 4::td139) ?_
         obtain ⟨g356,hp357⟩:=ite_some hp355
         refine rV (.index 9 (.tmp 143) (.tmp 144)) (.int .u8 (byt (y0.extract t11.toNat y0.size) t318)) (fun o ho _ => x_indexStr (kk:=.i64) (by kernel_rfl) (by kernel_rfl) (by kernel_rfl) g356.1 g356.2 ho) ?_
         refine sS 1 (.inRegion (opsOf p25_67) [20,21]::td139) 146 ((byt (y0.extract t11.toNat y0.size) t318) == 46) (fun h358 => ?_) fun h359 => ?_
         ·have hp360:=ite_t hp357 h358
          refine sR 5 td138 ?_
          refine rF (mk 214 [(0,.pointer (some ⟨ba0,0,none⟩)),(2,.pointer (some ⟨b1,0,none⟩)),(6,.pointer (some ⟨b46,0,none⟩)),(7,.string (y0.extract t11.toNat y0.size)),(8,.int .i64 t318)]) ?_
          exact J334 (Option.some.inj hp360) _ _ hS354
         have hp361:=ite_f hp357 h359
         refine sR 5 td132 ?_
         refine rF (mk 214 [(0,.pointer (some ⟨ba0,0,none⟩)),(2,.pointer (some ⟨b1,0,none⟩)),(6,.pointer (some ⟨b46,0,none⟩)),(7,.string (y0.extract t11.toNat y0.size)),(8,.int .i64 t318)]) ?_
         exact J264 t318 ((hq333 _ (Option.some.inj hp361)).trans he323) _ _ hS354
        have hp362:=ite_t hp352 rfl
        refine sR 9 td138 ?_
        refine rF (mk 214 [(0,.pointer (some ⟨ba0,0,none⟩)),(2,.pointer (some ⟨b1,0,none⟩)),(6,.pointer (some ⟨b46,0,none⟩)),(7,.string (y0.extract t11.toNat y0.size)),(8,.int .i64 t318)]) ?_
        exact J334 (Option.some.inj hp362) _ _ hS354
       have hp363:=ite_t hp344 rfl
       refine sR 15 td138 ?_
       refine rF (mk 214 [(0,.pointer (some ⟨ba0,0,none⟩)),(2,.pointer (some ⟨b1,0,none⟩)),(6,.pointer (some ⟨b46,0,none⟩)),(7,.string (y0.extract t11.toNat y0.size)),(8,.int .i64 t318)]) ?_
       exact J334 (Option.some.inj hp363) _ _ hS346
      have hp364:=ite_f hv329 h338
      refine sR 21 td132 ?_
      refine rF (mk 214 [(0,.pointer (some ⟨ba0,0,none⟩)),(2,.pointer (some ⟨b1,0,none⟩)),(6,.pointer (some ⟨b46,0,none⟩)),(7,.string (y0.extract t11.toNat y0.size)),(8,.int .i64 t318)]) ?_
      exact J264 t318 ((hq333 _ (Option.some.inj hp364)).trans he323) _ _ hS320
     refine rF (mk 214 [(0,.pointer (some ⟨ba0,0,none⟩)),(2,.pointer (some ⟨b1,0,none⟩)),(6,.pointer (some ⟨b46,0,none⟩)),(7,.string (y0.extract t11.toNat y0.size)),(8,.int .i64 1)]) ?_
     exact L327 1 _ hv259 rfl _ _ hS121
    cases t111
    ·have hp365:=ite_f hv117 rfl
     refine sS 4 (iR p25_69 2 6::td125) 121 ((byt (y0.extract t11.toNat y0.size) (0 : Int)) == 45) (fun h366 => ?_) fun h367 => ?_
     ·have hp368:=ite_t hp365 h366
      refine sR 2 (iR p25_69 4 4::td125) ?_
      obtain ⟨t369,hr370,hp371⟩:=bind_some' hp368
      refine rC (lexis_byteAt.ok (y0.extract t11.toNat y0.size) 1 hS115 hr370) ?_
      rintro _ w372 ⟨rfl,hS373⟩
      refine ⟨_,rfl,?_⟩
      obtain ⟨t374,hr375,hp376⟩:=bind_some' hp371
      refine rC (lexis_digit.ok t369 hS373 hr375) ?_
      rintro _ w377 ⟨rfl,hS378⟩
      refine ⟨_,rfl,?_⟩
      refine sR 3 td125 ?_
      have hS379:=hS378.pick2
      have hS380:=hS379.pick2
      refine rF (mk 214 [(0,.pointer (some ⟨ba0,0,none⟩)),(2,.pointer (some ⟨b1,0,none⟩)),(6,.pointer (some ⟨b46,0,none⟩)),(7,.string (y0.extract t11.toNat y0.size)),(8,.int .i64 1),(9,.int .u8 (byt (y0.extract t11.toNat y0.size) (0 : Int))),(117,.bool t374)]) ?_
      exact J122 t374 (Option.some.inj hp376) _ _ hS380
     have hp381:=ite_f hp365 h367
     refine sR 7 td125 ?_
     have hS382:=hS115.pick2
     have hS383:=hS382.pick2
     refine rF (mk 214 [(0,.pointer (some ⟨ba0,0,none⟩)),(2,.pointer (some ⟨b1,0,none⟩)),(6,.pointer (some ⟨b46,0,none⟩)),(7,.string (y0.extract t11.toNat y0.size)),(8,.int .i64 1),(9,.int .u8 (byt (y0.extract t11.toNat y0.size) (0 : Int))),(117,.bool false)]) ?_
     exact J122 false (Option.some.inj hp381) _ _ hS383
    have hp384:=ite_t hv117 rfl
    refine sR 2 td125 ?_
    have hS385:=hS115.pick2
    have hS386:=hS385.pick2
    refine rF (mk 214 [(0,.pointer (some ⟨ba0,0,none⟩)),(2,.pointer (some ⟨b1,0,none⟩)),(6,.pointer (some ⟨b46,0,none⟩)),(7,.string (y0.extract t11.toNat y0.size)),(8,.int .i64 1),(9,.int .u8 (byt (y0.extract t11.toNat y0.size) (0 : Int))),(117,.bool true)]) ?_
    exact J122 true (Option.some.inj hp384) _ _ hS386
   have hp387:=ite_t hv80 rfl
   refine sR 4 (.inRegion (opsOf (cd25 [1,1,1,1,1,1,1,0,1,0,1,0,0])) [1,2]::.code (cd25 [1,1,1,1,1,1,1,0,1,0,1,0,1])::td124) ?_
   obtain ⟨t388,hr389,hp390⟩:=bind_some' hp387
   refine rC (lexis_name.ok (y0.extract t11.toNat y0.size) hS78 hr389) ?_
   rintro _ w391 ⟨rfl,hS392⟩
   refine ⟨_,rfl,?_⟩
   refine sS 7 (.inRegion (opsOf (cd25 [1,1,1,1,1,1,1,0,1,0,1,0,1,0,0])) []::.code (cd25 [1,1,1,1,1,1,1,0,1,0,1,0,1,0,1])::td140) 107 (decide (t388 > 64)) (fun h393 => ?_) fun h394 => ?_
   ·have hp395:=ite_t hp390 h393
    refine sR 5 (iR p25_75 1 5::td141) ?_
    obtain ⟨⟨t396,t397,t398,t399,t400,t401⟩,hr404,hp405⟩:=bind_some' hp395
    try dsimp only at hp405
    have hS408:=hS392.pick1
    refine rC (lexis_Lexer__fail_2.ok rec_lexis_Lexer__Next hrec_lexis_Lexer__Next y0 t11 t12 t13 0 1 ba0 hS408 hr404) ?_
    rintro _ w409 ⟨Q402,Q403,Z411,hz412,rfl,hS410,hs413,hs414⟩
    refine ⟨_,rfl,?_⟩
    refine sR 2 (.inRegion (opsOf p25_75) [4,5]::td141) ?_
    have hS415:=hS410.pick2
    refine rSA 39 (.tmp 2) (.tmp 110) (enc_api_Token t396) hS415 (one_api_Token _) ?_
    intro w416 hS417
    refine sR 2 td141 ?_
    refine r_isret (c:=p25_76) (by kernel_rfl) ?_
    have hS418:=hS417.drop
    have hS419:=hS418.pick1
    have hS420:=hS419.drop
    refine rRc (.tuple #[.agg (enc_api_Token t396).toArray,Q402]) (.ca 2 39 (hS417.blk 0 rfl) (.tm 3 .nil)) Tryz.func25 ?_
    cases hq86 _ (Option.some.inj hp405)
    exact hR _ _ ⟨Q402,Q403,Z411,hz412,rfl,hS420,hs413,hs414⟩
   have hp422:=ite_f hp390 h394
   refine sR 3 td140 ?_
   generalize hg424 : (xblk ba0 93 ([.string y0,.int .i64 t11,.int .i64 t12,.int .i64 t13,.nilIface])::xblk b1 39 (enc_api_Token (⟨0,(⟨#[]⟩ : ByteArray),0,0,0,0,0⟩ : api_Token))::fs) = gs423 at hS392
   obtain ⟨g425,hp426⟩:=ite_some hp422
   refine r_drawnG (S:=Option (Unit × Option Unit)) (rank:=(fun st => match st with | none => 0 | some (x427,none) => 1 | some (x427,some x428) => 2)) (C:=(fun st w' => match st with | none => St w0 Z (xblk b46 39 (enc_api_Token (⟨0,(⟨#[]⟩ : ByteArray),0,t12,t13,t11,t11⟩ : api_Token))::gs423) w' | some (x427,none) => St w0 Z (xblk b46 39 (enc_api_Token (⟨1,(⟨#[]⟩ : ByteArray),0,t12,t13,t11,t11⟩ : api_Token))::gs423) w' | some (x427,some x428) => St w0 Z (xblk b46 39 (enc_api_Token (⟨1,((y0.extract t11.toNat y0.size).extract 0 t388.toNat),0,t12,t13,t11,t11⟩ : api_Token))::gs423) w')) (v:=(fun st => match st with | none => [.string (y0.extract t11.toNat y0.size),.int .i64 t388,.string ((y0.extract t11.toNat y0.size).extract 0 t388.toNat),.pointer (some ⟨b46,0,none⟩),undef,undef,undef] | some (x427,none) => [.string (y0.extract t11.toNat y0.size),.int .i64 t388,.string ((y0.extract t11.toNat y0.size).extract 0 t388.toNat),.pointer (some ⟨b46,0,none⟩),undef,.pointer (some ⟨b46,1,none⟩),undef] | some (x427,some x428) => [.string (y0.extract t11.toNat y0.size),.int .i64 t388,.string ((y0.extract t11.toNat y0.size).extract 0 t388.toNat),.pointer (some ⟨b46,0,none⟩),undef,.pointer (some ⟨b46,1,none⟩),undef])) (c:=p25_74) (id:=24) none 4 7 [4,6] [0,0,0,0,0,1,1] [1,1,1,0,1,1,2] [] (by kernel_rfl) (by kernel_rfl) (by kernel_rfl) (by kernel_rfl) (by kernel_rfl) (by kernel_rfl) (by kernel_rfl) (by kernel_rfl) (by kernel_rfl) (by kernel_rfl) rfl hS392.drew ?_ ?_ ?_ ?_
   ·intro st w hC
    rcases st with _ | ⟨x427,_ | x428⟩
    ·exact nbl rfl
    ·exact nbl rfl
    ·exact nbl rfl
   ·intro i hi he st w hC hr hu
    match i,hi,he with
    | 0,_,_ =>
     rcases st with _ | ⟨x427,_ | x428⟩
     ·dsimp only at hC
      exact dP (.string (y0.extract t11.toNat y0.size)) hC
     ·dsimp only at hC
      exact dP (.string (y0.extract t11.toNat y0.size)) hC
     ·exact absurd hu (nle rfl)
    | 1,_,_ =>
     rcases st with _ | ⟨x427,_ | x428⟩
     ·dsimp only at hC
      exact dP (.int .i64 t388) hC
     ·dsimp only at hC
      exact dP (.int .i64 t388) hC
     ·exact absurd hu (nle rfl)
    | 2,_,_ =>
     rcases st with _ | ⟨x427,_ | x428⟩
     ·dsimp only at hC
      exact does_run (x_cutStr_ns (t:=9) (x:=(.tmp 112)) (hi:=(.tmp 113)) (k:=.i64) (by kernel_rfl) (by kernel_rfl) (by kernel_rfl) g425 (by kernel_rfl)) rfl hC
     ·dsimp only at hC
      exact does_run (x_cutStr_ns (t:=9) (x:=(.tmp 112)) (hi:=(.tmp 113)) (k:=.i64) (by kernel_rfl) (by kernel_rfl) (by kernel_rfl) g425 (by kernel_rfl)) rfl hC
     ·exact absurd hu (nle rfl)
    | 3,_,_ =>
     rcases st with _ | ⟨x427,_ | x428⟩
     ·dsimp only at hC
      exact dP (.pointer (some ⟨b46,0,none⟩)) hC
     ·exact absurd hu (nle rfl)
     ·exact absurd hu (nle rfl)
    | 4,_,he => exact absurd he (by decide)
    | 5,_,_ =>
     rcases st with _ | ⟨x427,_ | x428⟩
     ·exact absurd hr (nle rfl)
     ·dsimp only at hC
      exact dP (.pointer (some ⟨b46,1,none⟩)) hC
     ·exact absurd hu (nle rfl)
    | 6,_,he => exact absurd he (by decide)
    | i + 7,hi,_ => exact absurd hi (by omega)
   ·intro k hk st w hC hr
    match k,hk with
    | 0,_ =>
     rcases st with _ | ⟨x427,_ | x428⟩
     ·dsimp only at hC
      refine dS 3 (.tmp 115) (.const (.int .i64 1)) 0 (.int .i64 1) [.int .i64 1] (enc_api_Token (⟨1,(⟨#[]⟩ : ByteArray),0,t12,t13,t11,t11⟩ : api_Token)) hC ?_
      intro w2 h2
      refine ⟨some ((),none),rfl,?_,.inl rfl,h2⟩
      intro j hj
      match j,hj with
      | 0,_ => exact rfl
      | 1,_ => exact rfl
      | 2,_ => exact rfl
      | 3,_ => exact rfl
      | 4,hj => exact absurd hj (by decide)
      | 5,hj => exact absurd hj (by decide)
      | 6,hj => exact absurd hj (by decide)
      | j + 7,_ => exact rfl
     ·exact absurd hr (Nat.ne_of_beq_eq_false rfl)
     ·exact absurd hr (Nat.ne_of_beq_eq_false rfl)
    | 1,_ =>
     rcases st with _ | ⟨x427,_ | x428⟩
     ·exact absurd hr (Nat.ne_of_beq_eq_false rfl)
     ·dsimp only at hC
      refine dS 9 (.tmp 116) (.tmp 114) 1 (.string ((y0.extract t11.toNat y0.size).extract 0 t388.toNat)) [.string ((y0.extract t11.toNat y0.size).extract 0 t388.toNat)] (enc_api_Token (⟨1,((y0.extract t11.toNat y0.size).extract 0 t388.toNat),0,t12,t13,t11,t11⟩ : api_Token)) hC ?_
      intro w2 h2
      refine ⟨some (x427,some ()),rfl,?_,.inl rfl,h2⟩
      intro j hj
      match j,hj with
      | 0,_ => exact rfl
      | 1,_ => exact rfl
      | 2,_ => exact rfl
      | 3,_ => exact rfl
      | 4,_ => exact rfl
      | 5,_ => exact rfl
      | 6,hj => exact absurd hj (by decide)
      | j + 7,_ => exact rfl
     ·exact absurd hr (Nat.ne_of_beq_eq_false rfl)
    | k + 2,hk => exact absurd hk (by simp)
   intro st432 w429 hS430 hr431
   rcases st432 with _ | ⟨x427,_ | x428⟩
   ·exact absurd hr431 (nle rfl)
   ·exact absurd hr431 (nle rfl)
   replace hS430 : St w0 Z (xblk b46 39 (enc_api_Token (⟨1,((y0.extract t11.toNat y0.size).extract 0 t388.toNat),0,t12,t13,t11,t11⟩ : api_Token))::gs423) w429:=hS430
   subst hg424
   refine sR 1 td123 ?_
   have hS433:=hS430.pick2
   have hS434:=hS433.pick2
   refine rF (mk 214 [(0,.pointer (some ⟨ba0,0,none⟩)),(2,.pointer (some ⟨b1,0,none⟩)),(6,.pointer (some ⟨b46,0,none⟩)),(8,.int .i64 t388)]) ?_
   exact J87 t388 (⟨1,((y0.extract t11.toNat y0.size).extract 0 t388.toNat),0,t12,t13,t11,t11⟩ : api_Token) (Option.some.inj hp426) _ _ hS434
  ·have hp435:=cas_num hp0
   have y6 : y5 = .iface 57 (.int .i64 n5):=y6
   subst y6
   refine sR 21 (.inRegion (opsOf (cd25 [1,0,1,0,1,1,1,0,1,0])) [3,4]::.code p25_78::td121) ?_
   refine rSA 39 (.tmp 2) (.tmp 39) (enc_api_Token (⟨0,(⟨#[]⟩ : ByteArray),0,0,0,0,0⟩ : api_Token)) hS3 (one_api_Token _) ?_
   intro w436 hS437
   refine sR 2 (.code p25_78::td121) ?_
   have hS440:=hS437.drop
   refine rRc (.tuple #[.agg (enc_api_Token (⟨0,(⟨#[]⟩ : ByteArray),0,0,0,0,0⟩ : api_Token)).toArray,.iface 57 (.int .i64 n5)]) (.ca 2 39 (hS437.blk 0 rfl) (.tm 3 .nil)) Tryz.func25 ?_
   cases Option.some.inj hp435
   exact hR _ _ ⟨(.iface 57 (.int .i64 n5)),(.iface 57 (.int .i64 n5)),Z,(Zm.Le.refl _),rfl,hS440,(RepE.of_num),(RepE.of_num)⟩
  have hp442:=cas_pos hp0
  obtain ⟨b443,y6,hs444⟩:=y6
  subst y6
  refine sR 10 (.code (cd25 [1,0,1,0,1,0,1,0])::.code (cd25 [1,0,1,0,1,0,1,1])::td121) ?_
  generalize hg447 : (xblk ba0 93 ([.string y0,.int .i64 y1,.int .i64 y2,.int .i64 y3,.iface 58 (.pointer (some ⟨b443,0,none⟩))])::fs) = gs446 at hS3
  refine r_drawnP (S:=Option Nat × Option Unit) (dn:=(fun (st : Option Nat × Option Unit) k => [st.1.isSome,st.2.isSome].getD k true)) (C:=(fun st w' => match st with | (none,none) => St w0 Z (xblk b1 39 (enc_api_Token (⟨0,(⟨#[]⟩ : ByteArray),0,0,0,0,0⟩ : api_Token))::gs446) w' | (none,some _) => St w0 Z (xblk b1 39 (enc_api_Token (⟨0,(⟨#[]⟩ : ByteArray),0,0,0,0,0⟩ : api_Token))::gs446) w' | (some b448,none) => St w0 Z (xblk b448 60 ([.int .i64 n6,.int .i64 n7,.iface 57 (.int .i64 n8)])::xblk b1 39 (enc_api_Token (⟨0,(⟨#[]⟩ : ByteArray),0,0,0,0,0⟩ : api_Token))::gs446) w' | (some b448,some _) => St w0 Z (xblk b1 39 (enc_api_Token (⟨0,(⟨#[]⟩ : ByteArray),0,0,0,0,0⟩ : api_Token))::xblk b448 60 ([.int .i64 n6,.int .i64 n7,.iface 57 (.int .i64 n8)])::gs446) w')) (v:=(fun st => match st with | (none,none) => [.agg (enc_api_Token (⟨0,(⟨#[]⟩ : ByteArray),0,0,0,0,0⟩ : api_Token)).toArray,.pointer (some ⟨b443,0,none⟩),.pointer (some ⟨b443,0,none⟩),.pointer (some ⟨b443,0,none⟩),.int .i64 n6,.pointer (some ⟨b443,0,none⟩),.pointer (some ⟨b443,0,none⟩),.pointer (some ⟨b443,1,none⟩),.int .i64 n7,.pointer (some ⟨b443,0,none⟩),.pointer (some ⟨b443,0,none⟩),.pointer (some ⟨b443,2,none⟩),.iface 57 (.int .i64 n8),.agg #[.int .i64 n6,.int .i64 n7,.iface 57 (.int .i64 n8)],undef,undef,undef,undef] | (none,some _) => [.agg (enc_api_Token (⟨0,(⟨#[]⟩ : ByteArray),0,0,0,0,0⟩ : api_Token)).toArray,.pointer (some ⟨b443,0,none⟩),.pointer (some ⟨b443,0,none⟩),.pointer (some ⟨b443,0,none⟩),.int .i64 n6,.pointer (some ⟨b443,0,none⟩),.pointer (some ⟨b443,0,none⟩),.pointer (some ⟨b443,1,none⟩),.int .i64 n7,.pointer (some ⟨b443,0,none⟩),.pointer (some ⟨b443,0,none⟩),.pointer (some ⟨b443,2,none⟩),.iface 57 (.int .i64 n8),.agg #[.int .i64 n6,.int .i64 n7,.iface 57 (.int .i64 n8)],undef,undef,undef,undef] | (some b448,none) => [.agg (enc_api_Token (⟨0,(⟨#[]⟩ : ByteArray),0,0,0,0,0⟩ : api_Token)).toArray,.pointer (some ⟨b443,0,none⟩),.pointer (some ⟨b443,0,none⟩),.pointer (some ⟨b443,0,none⟩),.int .i64 n6,.pointer (some ⟨b443,0,none⟩),.pointer (some ⟨b443,0,none⟩),.pointer (some ⟨b443,1,none⟩),.int .i64 n7,.pointer (some ⟨b443,0,none⟩),.pointer (some ⟨b443,0,none⟩),.pointer (some ⟨b443,2,none⟩),.iface 57 (.int .i64 n8),.agg #[.int .i64 n6,.int .i64 n7,.iface 57 (.int .i64 n8)],.pointer (some ⟨b448,0,none⟩),.iface 58 (.pointer (some ⟨b448,0,none⟩)),undef,undef] | (some b448,some _) => [.agg (enc_api_Token (⟨0,(⟨#[]⟩ : ByteArray),0,0,0,0,0⟩ : api_Token)).toArray,.pointer (some ⟨b443,0,none⟩),.pointer (some ⟨b443,0,none⟩),.pointer (some ⟨b443,0,none⟩),.int .i64 n6,.pointer (some ⟨b443,0,none⟩),.pointer (some ⟨b443,0,none⟩),.pointer (some ⟨b443,1,none⟩),.int .i64 n7,.pointer (some ⟨b443,0,none⟩),.pointer (some ⟨b443,0,none⟩),.pointer (some ⟨b443,2,none⟩),.iface 57 (.int .i64 n8),.agg #[.int .i64 n6,.int .i64 n7,.iface 57 (.int .i64 n8)],.pointer (some ⟨b448,0,none⟩),.iface 58 (.pointer (some ⟨b448,0,none⟩)),undef,.iface 58 (.pointer (some ⟨b448,0,none⟩))])) (c:=(cd25 [1,0,1,0,1,0,1,0])) (id:=4) (none,none) 16 18 [14,16] [[],[],[],[],[],[],[],[],[],[],[],[],[],[],[],[0],[],[0,1]] [[1],[],[],[],[],[],[],[],[],[],[],[],[],[0],[],[],[],[]] [] [true,true,true,true,true,true,true,true,true,true,true,true,true,true,true,true,true,true] (by kernel_rfl) (by kernel_rfl) (by kernel_rfl) (by kernel_rfl) (by kernel_rfl) (by kernel_rfl) (by kernel_rfl) (by kernel_rfl) (by kernel_rfl) (fun k hk => match k,hk with | 0,_ => rfl | 1,_ => rfl | k + 2,hk => absurd hk (by simp)) hS3.drew ?_ (fun k hk => match k,hk with | 0,_ => rfl | 1,_ => rfl | k + 2,hk => absurd hk (by simp)) ?_ ?_ ?_
  ·intro i hi st w hC hd
   match i,hi with
   | 0,_ => (show _ = _; kernel_rfl)
   | 1,_ => (show _ = _; kernel_rfl)
   | 2,_ => (show _ = _; kernel_rfl)
   | 3,_ => (show _ = _; kernel_rfl)
   | 4,_ => (show _ = _; kernel_rfl)
   | 5,_ => (show _ = _; kernel_rfl)
   | 6,_ => (show _ = _; kernel_rfl)
   | 7,_ => (show _ = _; kernel_rfl)
   | 8,_ => (show _ = _; kernel_rfl)
   | 9,_ => (show _ = _; kernel_rfl)
   | 10,_ => (show _ = _; kernel_rfl)
   | 11,_ => (show _ = _; kernel_rfl)
   | 12,_ => (show _ = _; kernel_rfl)
   | 13,_ => (show _ = _; kernel_rfl)
   | 14,_ => (show _ = _; kernel_rfl)
   | 15,_ => (show _ = _; kernel_rfl)
   | 16,_ => (show _ = _; kernel_rfl)
   | 17,_ => (show _ = _; kernel_rfl)
   | i + 18,hi => exact absurd hi (by omega)
  ·intro i hi he st w hC hd hu
   match i,hi,he with
   | 0,_,_ =>
    rcases st with ⟨_ | b448,_ | _⟩
    ·dsimp only at hC
     exact dG (.agg (enc_api_Token (⟨0,(⟨#[]⟩ : ByteArray),0,0,0,0,0⟩ : api_Token)).toArray) hC
    ·exact Bool.noConfusion (hu 1 (by decide))
    ·dsimp only at hC
     exact dG (.agg (enc_api_Token (⟨0,(⟨#[]⟩ : ByteArray),0,0,0,0,0⟩ : api_Token)).toArray) hC
    ·exact Bool.noConfusion (hu 1 (by decide))
   | 1,_,_ =>
    rcases st with ⟨_ | b448,_ | _⟩
    ·dsimp only at hC
     exact dG (.pointer (some ⟨b443,0,none⟩)) hC
    ·dsimp only at hC
     exact dG (.pointer (some ⟨b443,0,none⟩)) hC
    ·dsimp only at hC
     exact dG (.pointer (some ⟨b443,0,none⟩)) hC
    ·dsimp only at hC
     exact dG (.pointer (some ⟨b443,0,none⟩)) hC
   | 2,_,_ =>
    rcases st with ⟨_ | b448,_ | _⟩
    ·dsimp only at hC
     exact dG (.pointer (some ⟨b443,0,none⟩)) hC
    ·dsimp only at hC
     exact dG (.pointer (some ⟨b443,0,none⟩)) hC
    ·dsimp only at hC
     exact dG (.pointer (some ⟨b443,0,none⟩)) hC
    ·dsimp only at hC
     exact dG (.pointer (some ⟨b443,0,none⟩)) hC
   | 3,_,_ =>
    rcases st with ⟨_ | b448,_ | _⟩
    ·dsimp only at hC
     exact dG (.pointer (some ⟨b443,0,none⟩)) hC
    ·dsimp only at hC
     exact dG (.pointer (some ⟨b443,0,none⟩)) hC
    ·dsimp only at hC
     exact dG (.pointer (some ⟨b443,0,none⟩)) hC
    ·dsimp only at hC
     exact dG (.pointer (some ⟨b443,0,none⟩)) hC
   | 4,_,_ =>
    rcases st with ⟨_ | b448,_ | _⟩
    ·dsimp only at hC
     exact ⟨fun _ => does_run (x_load (t:=3) (x:=(.tmp 23)) (p:=⟨b443,0,none⟩) (v:=.int .i64 n6) (by kernel_rfl) (loads_at 0 (hs444.cells hC) (by kernel_rfl) (by kernel_rfl)) (by kernel_rfl)) rfl hC,fun h => absurd h (by decide)⟩
    ·dsimp only at hC
     exact ⟨fun _ => does_run (x_load (t:=3) (x:=(.tmp 23)) (p:=⟨b443,0,none⟩) (v:=.int .i64 n6) (by kernel_rfl) (loads_at 0 (hs444.cells hC) (by kernel_rfl) (by kernel_rfl)) (by kernel_rfl)) rfl hC,fun h => absurd h (by decide)⟩
    ·dsimp only at hC
     exact ⟨fun _ => does_run (x_load (t:=3) (x:=(.tmp 23)) (p:=⟨b443,0,none⟩) (v:=.int .i64 n6) (by kernel_rfl) (loads_at 0 (hs444.cells hC) (by kernel_rfl) (by kernel_rfl)) (by kernel_rfl)) rfl hC,fun h => absurd h (by decide)⟩
    ·dsimp only at hC
     exact ⟨fun _ => does_run (x_load (t:=3) (x:=(.tmp 23)) (p:=⟨b443,0,none⟩) (v:=.int .i64 n6) (by kernel_rfl) (loads_at 0 (hs444.cells hC) (by kernel_rfl) (by kernel_rfl)) (by kernel_rfl)) rfl hC,fun h => absurd h (by decide)⟩
   | 5,_,_ =>
    rcases st with ⟨_ | b448,_ | _⟩
    ·dsimp only at hC
     exact dG (.pointer (some ⟨b443,0,none⟩)) hC
    ·dsimp only at hC
     exact dG (.pointer (some ⟨b443,0,none⟩)) hC
    ·dsimp only at hC
     exact dG (.pointer (some ⟨b443,0,none⟩)) hC
    ·dsimp only at hC
     exact dG (.pointer (some ⟨b443,0,none⟩)) hC
   | 6,_,_ =>
    rcases st with ⟨_ | b448,_ | _⟩
    ·dsimp only at hC
     exact dG (.pointer (some ⟨b443,0,none⟩)) hC
    ·dsimp only at hC
     exact dG (.pointer (some ⟨b443,0,none⟩)) hC
    ·dsimp only at hC
     exact dG (.pointer (some ⟨b443,0,none⟩)) hC
    ·dsimp only at hC
     exact dG (.pointer (some ⟨b443,0,none⟩)) hC
   | 7,_,_ =>
    rcases st with ⟨_ | b448,_ | _⟩
    ·dsimp only at hC
     exact dG (.pointer (some ⟨b443,1,none⟩)) hC
    ·dsimp only at hC
     exact dG (.pointer (some ⟨b443,1,none⟩)) hC
    ·dsimp only at hC
     exact dG (.pointer (some ⟨b443,1,none⟩)) hC
    ·dsimp only at hC
     exact dG (.pointer (some ⟨b443,1,none⟩)) hC
   | 8,_,_ =>
    rcases st with ⟨_ | b448,_ | _⟩
    ·dsimp only at hC
     exact ⟨fun _ => does_run (x_load (t:=3) (x:=(.tmp 27)) (p:=⟨b443,1,none⟩) (v:=.int .i64 n7) (by kernel_rfl) (loads_at 1 (hs444.cells hC) (by kernel_rfl) (by kernel_rfl)) (by kernel_rfl)) rfl hC,fun h => absurd h (by decide)⟩
    ·dsimp only at hC
     exact ⟨fun _ => does_run (x_load (t:=3) (x:=(.tmp 27)) (p:=⟨b443,1,none⟩) (v:=.int .i64 n7) (by kernel_rfl) (loads_at 1 (hs444.cells hC) (by kernel_rfl) (by kernel_rfl)) (by kernel_rfl)) rfl hC,fun h => absurd h (by decide)⟩
    ·dsimp only at hC
     exact ⟨fun _ => does_run (x_load (t:=3) (x:=(.tmp 27)) (p:=⟨b443,1,none⟩) (v:=.int .i64 n7) (by kernel_rfl) (loads_at 1 (hs444.cells hC) (by kernel_rfl) (by kernel_rfl)) (by kernel_rfl)) rfl hC,fun h => absurd h (by decide)⟩
    ·dsimp only at hC
     exact ⟨fun _ => does_run (x_load (t:=3) (x:=(.tmp 27)) (p:=⟨b443,1,none⟩) (v:=.int .i64 n7) (by kernel_rfl) (loads_at 1 (hs444.cells hC) (by kernel_rfl) (by kernel_rfl)) (by kernel_rfl)) rfl hC,fun h => absurd h (by decide)⟩
   | 9,_,_ =>
    rcases st with ⟨_ | b448,_ | _⟩
    ·dsimp only at hC
     exact dG (.pointer (some ⟨b443,0,none⟩)) hC
    ·dsimp only at hC
     exact dG (.pointer (some ⟨b443,0,none⟩)) hC
    ·dsimp only at hC
     exact dG (.pointer (some ⟨b443,0,none⟩)) hC
    ·dsimp only at hC
     exact dG (.pointer (some ⟨b443,0,none⟩)) hC
   | 10,_,_ =>
    rcases st with ⟨_ | b448,_ | _⟩
    ·dsimp only at hC
     exact dG (.pointer (some ⟨b443,0,none⟩)) hC
    ·dsimp only at hC
     exact dG (.pointer (some ⟨b443,0,none⟩)) hC
    ·dsimp only at hC
     exact dG (.pointer (some ⟨b443,0,none⟩)) hC
    ·dsimp only at hC
     exact dG (.pointer (some ⟨b443,0,none⟩)) hC
   | 11,_,_ =>
    rcases st with ⟨_ | b448,_ | _⟩
    ·dsimp only at hC
     exact dG (.pointer (some ⟨b443,2,none⟩)) hC
    ·dsimp only at hC
     exact dG (.pointer (some ⟨b443,2,none⟩)) hC
    ·dsimp only at hC
     exact dG (.pointer (some ⟨b443,2,none⟩)) hC
    ·dsimp only at hC
     exact dG (.pointer (some ⟨b443,2,none⟩)) hC
   | 12,_,_ =>
    rcases st with ⟨_ | b448,_ | _⟩
    ·dsimp only at hC
     exact ⟨fun _ => does_run (x_load (t:=25) (x:=(.tmp 31)) (p:=⟨b443,2,none⟩) (v:=.iface 57 (.int .i64 n8)) (by kernel_rfl) (loads_at 2 (hs444.cells hC) (by kernel_rfl) (by kernel_rfl)) (by kernel_rfl)) rfl hC,fun h => absurd h (by decide)⟩
    ·dsimp only at hC
     exact ⟨fun _ => does_run (x_load (t:=25) (x:=(.tmp 31)) (p:=⟨b443,2,none⟩) (v:=.iface 57 (.int .i64 n8)) (by kernel_rfl) (loads_at 2 (hs444.cells hC) (by kernel_rfl) (by kernel_rfl)) (by kernel_rfl)) rfl hC,fun h => absurd h (by decide)⟩
    ·dsimp only at hC
     exact ⟨fun _ => does_run (x_load (t:=25) (x:=(.tmp 31)) (p:=⟨b443,2,none⟩) (v:=.iface 57 (.int .i64 n8)) (by kernel_rfl) (loads_at 2 (hs444.cells hC) (by kernel_rfl) (by kernel_rfl)) (by kernel_rfl)) rfl hC,fun h => absurd h (by decide)⟩
    ·dsimp only at hC
     exact ⟨fun _ => does_run (x_load (t:=25) (x:=(.tmp 31)) (p:=⟨b443,2,none⟩) (v:=.iface 57 (.int .i64 n8)) (by kernel_rfl) (loads_at 2 (hs444.cells hC) (by kernel_rfl) (by kernel_rfl)) (by kernel_rfl)) rfl hC,fun h => absurd h (by decide)⟩
   | 13,_,_ =>
    rcases st with ⟨_ | b448,_ | _⟩
    ·dsimp only at hC
     exact dG (.agg #[.int .i64 n6,.int .i64 n7,.iface 57 (.int .i64 n8)]) hC
    ·dsimp only at hC
     exact dG (.agg #[.int .i64 n6,.int .i64 n7,.iface 57 (.int .i64 n8)]) hC
    ·exact Bool.noConfusion (hu 0 (by decide))
    ·exact Bool.noConfusion (hu 0 (by decide))
   | 14,_,he => exact absurd he (by decide)
   | 15,_,_ =>
    rcases st with ⟨_ | b448,_ | _⟩
    ·exact Bool.noConfusion (hd 0 (by decide))
    ·exact Bool.noConfusion (hd 0 (by decide))
    ·dsimp only at hC
     exact dG (.iface 58 (.pointer (some ⟨b448,0,none⟩))) hC
    ·dsimp only at hC
     exact dG (.iface 58 (.pointer (some ⟨b448,0,none⟩))) hC
   | 16,_,he => exact absurd he (by decide)
   | 17,_,_ =>
    rcases st with ⟨_ | b448,_ | _⟩
    ·exact Bool.noConfusion (hd 0 (by decide))
    ·exact Bool.noConfusion (hd 0 (by decide))
    ·exact Bool.noConfusion (hd 1 (by decide))
    ·dsimp only at hC
     exact dG (.iface 58 (.pointer (some ⟨b448,0,none⟩))) hC
   | i + 18,hi,_ => exact absurd hi (by omega)
  ·intro k hk st w hC hr hm
   match k,hk with
   | 0,_ =>
    rcases st with ⟨_ | b448,_ | _⟩
    ·dsimp only at hC
     refine does_box (t:=60) (x:=(.tmp 33)) (v:=.agg #[.int .i64 n6,.int .i64 n7,.iface 57 (.int .i64 n8)]) (cs:=[.int .i64 n6,.int .i64 n7,.iface 57 (.int .i64 n8)]) hC (by kernel_rfl) (by kernel_rfl) (by kernel_rfl) ?_
     intro b448 w2 h2
     have h2:=h2.pick1
     have h2:=h2.pick1
     refine ⟨(some b448,none),rfl,?_,?_,.inr rfl,h2⟩
     ·intro m hne; match m,hne with
      | 0,hne => exact absurd rfl hne
      | 1,hne => exact rfl
      | m + 2,_ => exact rfl
     ·intro j hj; match j,hj with
      | 0,hj => exact rfl
      | 1,hj => exact rfl
      | 2,hj => exact rfl
      | 3,hj => exact rfl
      | 4,hj => exact rfl
      | 5,hj => exact rfl
      | 6,hj => exact rfl
      | 7,hj => exact rfl
      | 8,hj => exact rfl
      | 9,hj => exact rfl
      | 10,hj => exact rfl
      | 11,hj => exact rfl
      | 12,hj => exact rfl
      | 13,hj => exact rfl
      | 14,hj => exact absurd (by decide) hj
      | 15,hj => exact absurd (by decide) hj
      | 16,hj => exact rfl
      | 17,hj => exact absurd (by decide) hj
      | j + 18,_ => exact rfl
    ·dsimp only at hC
     refine does_box (t:=60) (x:=(.tmp 33)) (v:=.agg #[.int .i64 n6,.int .i64 n7,.iface 57 (.int .i64 n8)]) (cs:=[.int .i64 n6,.int .i64 n7,.iface 57 (.int .i64 n8)]) hC (by kernel_rfl) (by kernel_rfl) (by kernel_rfl) ?_
     intro b448 w2 h2
     have h2:=h2.pick1
     refine ⟨(some b448,some ()),rfl,?_,?_,.inr rfl,h2⟩
     ·intro m hne; match m,hne with
      | 0,hne => exact absurd rfl hne
      | 1,hne => exact rfl
      | m + 2,_ => exact rfl
     ·intro j hj; match j,hj with
      | 0,hj => exact rfl
      | 1,hj => exact rfl
      | 2,hj => exact rfl
      | 3,hj => exact rfl
      | 4,hj => exact rfl
      | 5,hj => exact rfl
      | 6,hj => exact rfl
      | 7,hj => exact rfl
      | 8,hj => exact rfl
      | 9,hj => exact rfl
      | 10,hj => exact rfl
      | 11,hj => exact rfl
      | 12,hj => exact rfl
      | 13,hj => exact rfl
      | 14,hj => exact absurd (by decide) hj
      | 15,hj => exact absurd (by decide) hj
      | 16,hj => exact rfl
      | 17,hj => exact absurd (by decide) hj
      | j + 18,_ => exact rfl
    ·exact Bool.noConfusion hr
    ·exact Bool.noConfusion hr
   | 1,_ =>
    rcases st with ⟨_ | b448,_ | _⟩
    ·dsimp only at hC
     refine dSG 39 (.tmp 2) (.tmp 20) 0 (.agg (enc_api_Token (⟨0,(⟨#[]⟩ : ByteArray),0,0,0,0,0⟩ : api_Token)).toArray) (enc_api_Token (⟨0,(⟨#[]⟩ : ByteArray),0,0,0,0,0⟩ : api_Token)) (enc_api_Token (⟨0,(⟨#[]⟩ : ByteArray),0,0,0,0,0⟩ : api_Token)) hC (one_api_Token _) ?_
     intro w2 h2
     refine ⟨(none,some ()),rfl,?_,?_,.inl rfl,h2⟩
     ·intro m hne; match m,hne with
      | 0,hne => exact rfl
      | 1,hne => exact absurd rfl hne
      | m + 2,_ => exact rfl
     ·intro j hj; match j,hj with
      | 0,hj => exact rfl
      | 1,hj => exact rfl
      | 2,hj => exact rfl
      | 3,hj => exact rfl
      | 4,hj => exact rfl
      | 5,hj => exact rfl
      | 6,hj => exact rfl
      | 7,hj => exact rfl
      | 8,hj => exact rfl
      | 9,hj => exact rfl
      | 10,hj => exact rfl
      | 11,hj => exact rfl
      | 12,hj => exact rfl
      | 13,hj => exact rfl
      | 14,hj => exact rfl
      | 15,hj => exact rfl
      | 16,hj => exact absurd (by decide) hj
      | 17,hj => exact absurd (by decide) hj
      | j + 18,_ => exact rfl
    ·exact Bool.noConfusion hr
    ·dsimp only at hC
     have hC:=hC.pick1
     refine dSG 39 (.tmp 2) (.tmp 20) 0 (.agg (enc_api_Token (⟨0,(⟨#[]⟩ : ByteArray),0,0,0,0,0⟩ : api_Token)).toArray) (enc_api_Token (⟨0,(⟨#[]⟩ : ByteArray),0,0,0,0,0⟩ : api_Token)) (enc_api_Token (⟨0,(⟨#[]⟩ : ByteArray),0,0,0,0,0⟩ : api_Token)) hC (one_api_Token _) ?_
     intro w2 h2
     have h2:=h2.pick1
     have h2:=h2.pick1
     refine ⟨(some b448,some ()),rfl,?_,?_,.inl rfl,h2⟩
     ·intro m hne; match m,hne with
      | 0,hne => exact rfl
      | 1,hne => exact absurd rfl hne
      | m + 2,_ => exact rfl
     ·intro j hj; match j,hj with
      | 0,hj => exact rfl
      | 1,hj => exact rfl
      | 2,hj => exact rfl
      | 3,hj => exact rfl
      | 4,hj => exact rfl
      | 5,hj => exact rfl
      | 6,hj => exact rfl
      | 7,hj => exact rfl
      | 8,hj => exact rfl
      | 9,hj => exact rfl
      | 10,hj => exact rfl
      | 11,hj => exact rfl
      | 12,hj => exact rfl
      | 13,hj => exact rfl
      | 14,hj => exact rfl
      | 15,hj => exact rfl
      | 16,hj => exact absurd (by decide) hj
      | 17,hj => exact absurd (by decide) hj
      | j + 18,_ => exact rfl
    ·exact Bool.noConfusion hr
   | k + 2,hk => exact absurd hk (by simp)
  intro st453 w450 hS451 hr452
  rcases st453 with ⟨_ | b448,_ | _⟩
  ·exact Bool.noConfusion (hr452 0 (Nat.lt_of_sub_eq_succ rfl))
  ·exact Bool.noConfusion (hr452 0 (Nat.lt_of_sub_eq_succ rfl))
  ·exact Bool.noConfusion (hr452 1 (Nat.lt_of_sub_eq_succ rfl))
  replace hS451 : St w0 Z (xblk b1 39 (enc_api_Token (⟨0,(⟨#[]⟩ : ByteArray),0,0,0,0,0⟩ : api_Token))::xblk b448 60 ([.int .i64 n6,.int .i64 n7,.iface 57 (.int .i64 n8)])::gs446) w450:=hS451
  subst hg447
  have hS455:=hS451.pick1
  obtain ⟨Z456,hz457,hS458,hs459,-⟩:=hS455.lendblk
  have hS461:=hS458.drop
  refine rRc (.tuple #[.agg (enc_api_Token (⟨0,(⟨#[]⟩ : ByteArray),0,0,0,0,0⟩ : api_Token)).toArray,.iface 58 (.pointer (some ⟨b448,0,none⟩))]) (.ca 2 39 (hS451.blk 0 rfl) (.tm 3 .nil)) Tryz.func25 ?_
  cases Option.some.inj hp442
  exact hR _ _ ⟨(.iface 58 (.pointer (some ⟨b448,0,none⟩))),(.iface 58 (.pointer (some ⟨b443,0,none⟩))),Z456,hz457,rfl,hS461,(RepE.of_pos hs459),((RepE.of_pos hs444).mono hz457)⟩
def lexis_Lexer__Next.f : Nat → ByteArray → Int → Int → Int → PErr → Option (api_Token × PErr × Int × Int × Int × PErr)
  | 0 => fun _ _ _ _ _ => none
  | n + 1 => lexis_Lexer__Next.body (lexis_Lexer__Next.f n)
theorem lexis_Lexer__Next.all : ∀ n,lexis_Lexer__Next.Spec (lexis_Lexer__Next.f n)
  | 0 => by
    intro y0 y1 y2 y3 y4 ba0 y5 w0 Z fs w hS0 y6 q0 q1 q2 q3 q4 q5 hp0
    cases hp0
  | n + 1 => lexis_Lexer__Next.bok (lexis_Lexer__Next.f n) (lexis_Lexer__Next.all n)
theorem lexis_Lexer__Next.ok : lexis_Lexer__Next.Spec (lexis_Lexer__Next.f fuelN):=lexis_Lexer__Next.all fuelN

noncomputable def cd10 (p : List Nat) : Code := sub (bodyOf Tryz.f10) p
abbrev p10_4:=cd10 [1,1,0]
abbrev p10_5:=cd10 [1,1,1]
abbrev p10_16:=cd10 [1,0,0,0,1,0,1,1,1]
abbrev p10_17:=cd10 [1,0,0,0,1,0,1,1,0,1,0]
abbrev td142:List Item:=[.code (cd10 [1,1])]
abbrev td143:List Item:=.inBlock 0::td142
abbrev td144:List Item:=.inLoop (cd10 [1,0,0,0])::td143
abbrev td145:List Item:=.code (cd10 [1,0,0,0])::td144
abbrev td146:List Item:=.inBlock 1::td144
abbrev td147:List Item:=.code p10_16::td146
def litmus_reader__look.l0 (y7 : ByteArray) (a1 : Int) (t43 : List api_Token) (t47 : Int) (t48 : Int) (t49 : Int) (t50 : PErr) : Option (Sum ((List api_Token) × Int × Int × Int × PErr) (Sum PErr (api_Token × (List api_Token) × Int × Int × Int × PErr))) :=
  (if (decide ((t43.length : Int) ≤ a1)) = true then (lexis_Lexer__Next.f fuelN y7 t47 t48 t49 t50 >>= (fun (t67,t68,t69,t70,t71,t72) => (if (!(PErr.isNil t68)) = true then (PErr.cas t68 (none) (fun n95 => some (.inr (.inl (.num n95)))) (fun n96 n97 n98 => some (.inr (.inl (.pos n96 n97 n98))))) else (if (t43.length + ([t67] : List api_Token).length) * 64 ≤ 140737488355328 then (litmus_reader__look.l0 y7 a1 (t43 ++ ([t67] : List api_Token)) t69 t70 t71 t72) else none)))) else some (.inl (t43,t47,t48,t49,t50)))
 partial_fixpoint
def litmus_reader__look.f (y7 : ByteArray) (y8 : Int) (y9 : Int) (y10 : Int) (y11 : PErr) (y1 : List api_Token) (y2 : api_Test) (y3 : List litmus_place) (y4 : List litmus_place) (y12 : List (List litmus_place)) (y13 : List litmus_place) (y14 : List litmus_place) (a1 : Int) : Option (Sum PErr (api_Token × (List api_Token) × Int × Int × Int × PErr)) :=
  (litmus_reader__look.l0 y7 a1 y1 y8 y9 y10 y11 >>= (fun | .inl (t10,t14,t15,t16,t17) => (if 0 ≤ a1 ∧ a1 < (t10.length : Int) then some (.inr ((gt t10 a1),t10,t14,t15,t16,t17)) else none) | .inr e => some e))
set_option maxHeartbeats 16000000 in
theorem litmus_reader__look.ok (y7 : ByteArray) (y8 : Int) (y9 : Int) (y10 : Int) (y11 : PErr) (y1 : List api_Token) (y2 : api_Test) (y3 : List litmus_place) (y4 : List litmus_place) (y12 : List (List litmus_place)) (y13 : List litmus_place) (y14 : List litmus_place) (a1 : Int) (ba0 : Nat) (y15 : Nat) (y16 : Value) (y17 : Option Addr) (y18 : Nat) (y19 : Option Addr) (y20 : Nat) (y21 : Option Addr) (y22 : Nat) (y23 : Option Addr) (y24 : Nat) (y25 : Option Addr) (y26 : Nat) (y27 : Option Addr) (y28 : Nat) (y29 : Option Addr) (y30 : Nat) (y31 : Option Addr) (y32 : Nat) (y33 : Option Addr) (y34 : Nat) (y35 : Option Addr) (y36 : Nat) {w0 : World} {Z : Zm} {fs : List XObj} {w : World} (hS0 : St w0 Z (xblk ba0 70 ([.pointer (some ⟨y15,0,none⟩),.slice y17 y1.length y18,.string y2.Name,.string y2.Doc,.slice y19 y2.Inits.length y20,.slice y21 y2.Threads.length y22,.slice y23 y2.Watch.length y24,.int .i64 y2.Quant,.slice y25 y2.Cond.length y26,.slice y27 y3.length y28,.slice y29 y4.length y30,.slice y31 y12.length y32,.slice y33 y13.length y34,.slice y35 y14.length y36,.nilIface])::xblk y15 93 ([.string y7,.int .i64 y8,.int .i64 y9,.int .i64 y10,y16])::xrow y17 y18 39 7 (y1.flatMap enc_api_Token)::fs) w) (y37 : RepE 57 58 Z y16 y11) (y38 : SlZ (flat enc_api_Init) 3 Z y19 y20 y2.Inits) (y39 : SlZ (repL (flat enc_api_Instr) 5) 1 Z y21 y22 y2.Threads) (y40 : SlZ (flat enc_api_Ref) 2 Z y23 y24 y2.Watch) (y41 : SlZ (flat enc_api_Node) 6 Z y25 y26 y2.Cond) (y42 : SlZ (flat enc_litmus_place) 2 Z y27 y28 y3) (y43 : SlZ (flat enc_litmus_place) 2 Z y29 y30 y4) (y44 : SlZ (repL (flat enc_litmus_place) 2) 1 Z y31 y32 y12) (y45 : SlZ (flat enc_litmus_place) 2 Z y33 y34 y13) (y46 : SlZ (flat enc_litmus_place) 2 Z y35 y36 y14) {qr : Sum PErr (api_Token × (List api_Token) × Int × Int × Int × PErr)} (hp0 : litmus_reader__look.f y7 y8 y9 y10 y11 y1 y2 y3 y4 y12 y13 y14 a1 = some qr) :
    Calls Tryz.prog 10 #[.pointer (some ⟨ba0,0,none⟩),.int .i64 a1] w (fun e w' => PanQ (fun p => ∃ (v : Value) (Z' : Zm),Zm.Le Z Z' ∧ e = .panicked [{ v:=v,recovered:=false }] ∧ St w0 Z' fs w' ∧ RepE 57 58 Z' v p) (fun q => ∃ (QA0 : Option Addr) (Qc0 : Nat) (Qv2 : Value) (Z' : Zm),Zm.Le Z Z' ∧ e = .returned (.agg (enc_api_Token q.1).toArray) ∧ St w0 Z' (xrow QA0 Qc0 39 7 (q.2.1.flatMap enc_api_Token)::xblk ba0 70 ([.pointer (some ⟨y15,0,none⟩),.slice QA0 q.2.1.length Qc0,.string y2.Name,.string y2.Doc,.slice y19 y2.Inits.length y20,.slice y21 y2.Threads.length y22,.slice y23 y2.Watch.length y24,.int .i64 y2.Quant,.slice y25 y2.Cond.length y26,.slice y27 y3.length y28,.slice y29 y4.length y30,.slice y31 y12.length y32,.slice y33 y13.length y34,.slice y35 y14.length y36,.nilIface])::xblk y15 93 ([.string y7,.int .i64 q.2.2.1,.int .i64 q.2.2.2.1,.int .i64 q.2.2.2.2.1,Qv2])::fs) w' ∧ RepE 57 58 Z' Qv2 q.2.2.2.2.2) qr):=by
  refine calls_abs ?_; intro R hR
  unfold litmus_reader__look.f at hp0
  refine calls_of_runs (fn:=Tryz.f10) (c:=cd10 []) Tryz.func10 (by kernel_rfl) (al:=[.pointer (some ⟨ba0,0,none⟩),.int .i64 a1]) rfl (n:=49) rfl ?_
  refine sR 2 [.inRegion (opsOf (cd10 [0])) [0],.code (cd10 [1])] ?_
  refine rA 39 (.agg (enc_api_Token (⟨0,(⟨#[]⟩ : ByteArray),0,0,0,0,0⟩ : api_Token)).toArray) (enc_api_Token (⟨0,(⟨#[]⟩ : ByteArray),0,0,0,0,0⟩ : api_Token)) hS0 ?_
  intro b1 w2 hS3
  refine sR 4 td145 ?_
  obtain ⟨v5,hv6,hp7⟩:=bind_some' hp0
  have hq23 : ∀ x,Sum.inr x = v5 → x = qr:=by intro x hx; subst hx; simpa using hp7
  have J24 : ∀ (t10 : List api_Token) (t14 : Int) (t15 : Int) (t16 : Int) (t17 : PErr) (he26 : Sum.inl (t10,t14,t15,t16,t17) = v5) (l25 : List Value) (Z8 : Zm) (A11 : Option Addr) (c12 : Nat) (v18 : Value) (w21 : World) (hz9 : Zm.Le Z Z8) (hS22 : St w0 Z8 (xblk ba0 70 ([.pointer (some ⟨y15,0,none⟩),.slice A11 t10.length c12,.string y2.Name,.string y2.Doc,.slice y19 y2.Inits.length y20,.slice y21 y2.Threads.length y22,.slice y23 y2.Watch.length y24,.int .i64 y2.Quant,.slice y25 y2.Cond.length y26,.slice y27 y3.length y28,.slice y29 y4.length y30,.slice y31 y12.length y32,.slice y33 y13.length y34,.slice y35 y14.length y36,.nilIface])::xblk y15 93 ([.string y7,.int .i64 t14,.int .i64 t15,.int .i64 t16,v18])::xrow A11 c12 39 7 (t10.flatMap enc_api_Token)::xblk b1 39 (enc_api_Token (⟨0,(⟨#[]⟩ : ByteArray),0,0,0,0,0⟩ : api_Token))::fs) w21) (he19 : RepE 57 58 Z8 v18 t17),Runs Tryz.prog (fx 10) td142 (fill (mk 51 [(0,.pointer (some ⟨ba0,0,none⟩)),(1,.int .i64 a1),(4,.pointer (some ⟨b1,0,none⟩))]) l25) w21 R:=by
   intro t10 t14 t15 t16 t17 he26 l25 Z8 A11 c12 v18 w21 hz9 hS22 he19
   subst he26
   try dsimp only at hp7
   refine sR 5 [iR p10_4 3 5,.code p10_5] ?_
   refine rL1 45 (.tmp 46) 1 (hS22.blk 0 rfl) ?_
   refine sR 1 [.inRegion (opsOf p10_4) [5,6,7],.code p10_5] ?_
   obtain ⟨g27,hp28⟩:=ite_some hp7
   obtain ⟨b29,p30,hA31,-⟩:=(hS22.row 2 rfl).at_ len_api_Token (by omega) g27.1 g27.2
   refine r_indexAddr (c:=p10_4) (i:=5) (d:=(some 49)) (ty:=0) (t:=45) (e:=39) (n:=t10.length) (cp:=c12) (sz:=7) (kk:=.i64) (x:=(.tmp 47)) (y:=(.tmp 48)) (b:=b29) (o':=p30) (j:=a1) (by kernel_rfl) (by kernel_rfl) (slv (by kernel_rfl) hA31) (by kernel_rfl) (by kernel_rfl) (by kernel_rfl) g27.1 g27.2 ?_
   refine rLa 39 (.tmp 49) ((hS22.row 2 rfl).at2 hA31 len_api_Token (by omega) g27.1 g27.2) ?_
   have hS33:=hS22.pick3
   refine rSA 39 (.tmp 4) (.tmp 50) (enc_api_Token (gt t10 a1)) hS33 (one_api_Token _) ?_
   intro w34 hS35
   refine sR 1 [.code p10_5] ?_
   have hS36:=hS35.drop
   have hS37:=hS36.pick1
   have hS38:=hS37.pick1
   have hS39:=hS38.pick2
   refine rRc (.agg (enc_api_Token (gt t10 a1)).toArray) (.ca 4 39 (hS35.blk 0 rfl) .nil) Tryz.func10 ?_
   cases Option.some.inj hp28
   exact hR _ _ (panq_r ⟨A11,c12,v18,Z8,hz9,rfl,hS39,he19⟩)
  have L62 : ∀ (t43 : List api_Token) (t47 : Int) (t48 : Int) (t49 : Int) (t50 : PErr) (e57 : Sum ((List api_Token) × Int × Int × Int × PErr) (Sum PErr (api_Token × (List api_Token) × Int × Int × Int × PErr))),litmus_reader__look.l0 y7 a1 t43 t47 t48 t49 t50 = some e57 → e57 = v5 → ∀ (l56 : List Value) (Z41 : Zm) (A44 : Option Addr) (c45 : Nat) (v51 : Value) (w54 : World) (hz42 : Zm.Le Z Z41) (hS55 : St w0 Z41 (xblk ba0 70 ([.pointer (some ⟨y15,0,none⟩),.slice A44 t43.length c45,.string y2.Name,.string y2.Doc,.slice y19 y2.Inits.length y20,.slice y21 y2.Threads.length y22,.slice y23 y2.Watch.length y24,.int .i64 y2.Quant,.slice y25 y2.Cond.length y26,.slice y27 y3.length y28,.slice y29 y4.length y30,.slice y31 y12.length y32,.slice y33 y13.length y34,.slice y35 y14.length y36,.nilIface])::xblk y15 93 ([.string y7,.int .i64 t47,.int .i64 t48,.int .i64 t49,v51])::xrow A44 c45 39 7 (t43.flatMap enc_api_Token)::xblk b1 39 (enc_api_Token (⟨0,(⟨#[]⟩ : ByteArray),0,0,0,0,0⟩ : api_Token))::fs) w54) (he52 : RepE 57 58 Z41 v51 t50),Runs Tryz.prog (fx 10) td145 (fill (mk 51 [(0,.pointer (some ⟨ba0,0,none⟩)),(1,.int .i64 a1),(4,.pointer (some ⟨b1,0,none⟩))]) l56) w54 R:=by
   refine litmus_reader__look.l0.partial_correctness y7 a1 (fun t43 t47 t48 t49 t50 e57 => e57 = v5 → ∀ (l56 : List Value) (Z41 : Zm) (A44 : Option Addr) (c45 : Nat) (v51 : Value) (w54 : World) (hz42 : Zm.Le Z Z41) (hS55 : St w0 Z41 (xblk ba0 70 ([.pointer (some ⟨y15,0,none⟩),.slice A44 t43.length c45,.string y2.Name,.string y2.Doc,.slice y19 y2.Inits.length y20,.slice y21 y2.Threads.length y22,.slice y23 y2.Watch.length y24,.int .i64 y2.Quant,.slice y25 y2.Cond.length y26,.slice y27 y3.length y28,.slice y29 y4.length y30,.slice y31 y12.length y32,.slice y33 y13.length y34,.slice y35 y14.length y36,.nilIface])::xblk y15 93 ([.string y7,.int .i64 t47,.int .i64 t48,.int .i64 t49,v51])::xrow A44 c45 39 7 (t43.flatMap enc_api_Token)::xblk b1 39 (enc_api_Token (⟨0,(⟨#[]⟩ : ByteArray),0,0,0,0,0⟩ : api_Token))::fs) w54) (he52 : RepE 57 58 Z41 v51 t50),Runs Tryz.prog (fx 10) td145 (fill (mk 51 [(0,.pointer (some ⟨ba0,0,none⟩)),(1,.int .i64 a1),(4,.pointer (some ⟨b1,0,none⟩))]) l56) w54 R) ?_
   intro rec61 ih60 t43 t47 t48 t49 t50 e57 hb59 he58 l56 Z41 A44 c45 v51 w54 hz42 hS55 he52
   have hq63 : ∀ x,Sum.inr x = e57 → x = qr:=fun x hx => hq23 x (hx.trans he58)
   refine sR 6 (iR (cd10 [1,0,0,0,0,0]) 3 4::.code (cd10 [1,0,0,0,0,1])::.code (cd10 [1,0,0,0,1])::td144) ?_
   refine rL1 45 (.tmp 9) 1 (hS55.blk 0 rfl) ?_
   refine sS 3 (.inRegion (opsOf (cd10 [1,0,0,0,0,0])) []::.code (cd10 [1,0,0,0,0,1])::.code (cd10 [1,0,0,0,1])::td144) 13 (decide ((t43.length : Int) ≤ a1)) (fun h64 => ?_) fun h65 => ?_
   ·have hp66:=ite_t hb59 h64
    refine sR 10 (.inRegion (opsOf (cd10 [1,0,0,0,1,0,0,0])) [3,4]::.code (cd10 [1,0,0,0,1,0,0,1])::.code (cd10 [1,0,0,0,1,0,1])::td146) ?_
    refine rL1 25 (.tmp 16) 14 (hS55.blk 0 rfl) ?_
    refine sR 9 (iR (cd10 [1,0,0,0,1,0,1,0]) 3 8::.code (cd10 [1,0,0,0,1,0,1,1])::td146) ?_
    refine rL1 65 (.tmp 26) 0 (hS55.blk 0 rfl) ?_
    obtain ⟨⟨t67,t68,t69,t70,t71,t72⟩,hr75,hp76⟩:=bind_some' hp66
    try dsimp only at hp76
    have hS79:=hS55.pick1
    refine rC (lexis_Lexer__Next.ok y7 t47 t48 t49 t50 y15 v51 hS79 he52 hr75) ?_
    rintro _ w80 ⟨Q73,Q74,Z82,hz83,rfl,hS81,hs84,hs85⟩
    refine ⟨_,rfl,?_⟩
    refine sR 3 (.inRegion (opsOf (cd10 [1,0,0,0,1,0,1,0])) [8,9,10]::.code (cd10 [1,0,0,0,1,0,1,1])::td146) ?_
    refine rA 39 (.agg (enc_api_Token (⟨0,(⟨#[]⟩ : ByteArray),0,0,0,0,0⟩ : api_Token)).toArray) (enc_api_Token (⟨0,(⟨#[]⟩ : ByteArray),0,0,0,0,0⟩ : api_Token)) hS81 ?_
    intro b86 w87 hS88
    refine rSA 39 (.tmp 5) (.tmp 29) (enc_api_Token t67) hS88 (one_api_Token _) ?_
    intro w90 hS91
    refine sR 6 (.inRegion (opsOf (cd10 [1,0,0,0,1,0,1,1,0,0])) [1]::.code (cd10 [1,0,0,0,1,0,1,1,0,1])::td147) ?_
    refine rV (.binOp .neq 25 (.tmp 31) (.const (.nilIface)) 25) (.bool (!(PErr.isNil t68))) (fun o ho _ => x_errNil (neg:=true) hs84 (by kernel_rfl) (by kernel_rfl) (fun _ _ => (by kernel_rfl)) ho) ?_
    refine r_split (!(PErr.isNil t68)) (fun h92 => ?_) (fun h93 => ?_)
    ·have hp94:=ite_t hp76 h92
     refine sR 4 (.inRegion (opsOf p10_17) [1]::td147) ?_
     rcases t68 with _ | n95 | ⟨n96,n97,n98⟩
     ·have hp99:=cas_nil hp94
      have hs84 : Q73 = .nilIface:=hs84
      subst hs84
      cases hp99
     ·have hp100:=cas_num hp94
      have hs84 : Q73 = .iface 57 (.int .i64 n95):=hs84
      subst hs84
      refine r_panic (c:=p10_17) (i:=1) (d:=none) (ty:=0) (x:=(.tmp 33)) (t:=57) (v:=.int .i64 n95) (by kernel_rfl) (by kernel_rfl) (by kernel_rfl) ?_
      have hS102:=hS91.drop
      have hS103:=hS102.drop
      have hS104:=hS103.drop
      have hS105:=hS104.drop
      have hS106:=hS105.drop
      refine raised_fx Tryz.func10 ?_
      cases hq63 _ (Option.some.inj hp100)
      exact hR _ _ (panq_l ⟨(.iface 57 (.int .i64 n95)),Z82,(Zm.Le.trans hz42 hz83),rfl,hS106,(RepE.of_num)⟩)
     have hp108:=cas_pos hp94
     obtain ⟨b109,hs84,hs110⟩:=hs84
     subst hs84
     refine r_panic (c:=p10_17) (i:=1) (d:=none) (ty:=0) (x:=(.tmp 33)) (t:=58) (v:=.pointer (some ⟨b109,0,none⟩)) (by kernel_rfl) (by kernel_rfl) (by kernel_rfl) ?_
     have hS113:=hS91.drop
     have hS114:=hS113.drop
     have hS115:=hS114.drop
     have hS116:=hS115.drop
     have hS117:=hS116.drop
     refine raised_fx Tryz.func10 ?_
     cases hq63 _ (Option.some.inj hp108)
     exact hR _ _ (panq_l ⟨(.iface 58 (.pointer (some ⟨b109,0,none⟩))),Z82,(Zm.Le.trans hz42 hz83),rfl,hS117,(RepE.of_pos hs110)⟩)
    have hp119:=ite_f hp76 h93
    refine sR 3 td147 ?_
    have hS120:=hS91.pick3
    have hS121:=hS120.pick3
    have hS122:=hS121.pick2
    generalize hg124 : (xblk y15 93 ([.string y7,.int .i64 t69,.int .i64 t70,.int .i64 t71,Q74])::xblk b1 39 (enc_api_Token (⟨0,(⟨#[]⟩ : ByteArray),0,0,0,0,0⟩ : api_Token))::fs) = gs123 at hS122
    obtain ⟨g127,hp128⟩:=ite_some hp119
    refine r_drawnG (S:=Option (Nat × Option ((Option Addr × Nat) × Option Unit))) (rank:=(fun st => match st with | none => 0 | some (b125,none) => 1 | some (b125,some (x132,none)) => 2 | some (b125,some (x132,some x133)) => 3)) (C:=(fun st w' => match st with | none => St w0 Z82 (xblk b86 39 (enc_api_Token t67)::xblk ba0 70 ([.pointer (some ⟨y15,0,none⟩),.slice A44 t43.length c45,.string y2.Name,.string y2.Doc,.slice y19 y2.Inits.length y20,.slice y21 y2.Threads.length y22,.slice y23 y2.Watch.length y24,.int .i64 y2.Quant,.slice y25 y2.Cond.length y26,.slice y27 y3.length y28,.slice y29 y4.length y30,.slice y31 y12.length y32,.slice y33 y13.length y34,.slice y35 y14.length y36,.nilIface])::xrow A44 c45 39 7 (t43.flatMap enc_api_Token)::gs123) w' | some (b125,none) => St w0 Z82 (xrow (some ⟨b125,0,none⟩) 1 39 7 (([t67] : List api_Token).flatMap enc_api_Token)::xblk b86 39 (enc_api_Token t67)::xblk ba0 70 ([.pointer (some ⟨y15,0,none⟩),.slice A44 t43.length c45,.string y2.Name,.string y2.Doc,.slice y19 y2.Inits.length y20,.slice y21 y2.Threads.length y22,.slice y23 y2.Watch.length y24,.int .i64 y2.Quant,.slice y25 y2.Cond.length y26,.slice y27 y3.length y28,.slice y29 y4.length y30,.slice y31 y12.length y32,.slice y33 y13.length y34,.slice y35 y14.length y36,.nilIface])::xrow A44 c45 39 7 (t43.flatMap enc_api_Token)::gs123) w' | some (b125,some (x132,none)) => St w0 Z82 (xrow x132.1 x132.2 39 7 ((t43 ++ ([t67] : List api_Token)).flatMap enc_api_Token)::xrow (some ⟨b125,0,none⟩) 1 39 7 (([t67] : List api_Token).flatMap enc_api_Token)::xblk b86 39 (enc_api_Token t67)::xblk ba0 70 ([.pointer (some ⟨y15,0,none⟩),.slice A44 t43.length c45,.string y2.Name,.string y2.Doc,.slice y19 y2.Inits.length y20,.slice y21 y2.Threads.length y22,.slice y23 y2.Watch.length y24,.int .i64 y2.Quant,.slice y25 y2.Cond.length y26,.slice y27 y3.length y28,.slice y29 y4.length y30,.slice y31 y12.length y32,.slice y33 y13.length y34,.slice y35 y14.length y36,.nilIface])::gs123) w' | some (b125,some (x132,some x133)) => St w0 Z82 (xblk ba0 70 ([.pointer (some ⟨y15,0,none⟩),.slice x132.1 (t43 ++ ([t67] : List api_Token)).length x132.2,.string y2.Name,.string y2.Doc,.slice y19 y2.Inits.length y20,.slice y21 y2.Threads.length y22,.slice y23 y2.Watch.length y24,.int .i64 y2.Quant,.slice y25 y2.Cond.length y26,.slice y27 y3.length y28,.slice y29 y4.length y30,.slice y31 y12.length y32,.slice y33 y13.length y34,.slice y35 y14.length y36,.nilIface])::xrow x132.1 x132.2 39 7 ((t43 ++ ([t67] : List api_Token)).flatMap enc_api_Token)::xrow (some ⟨b125,0,none⟩) 1 39 7 (([t67] : List api_Token).flatMap enc_api_Token)::xblk b86 39 (enc_api_Token t67)::gs123) w')) (v:=(fun st => match st with | none => [.pointer (some ⟨ba0,0,none⟩),.pointer (some ⟨ba0,0,none⟩),.pointer (some ⟨ba0,0,none⟩),.pointer (some ⟨ba0,1,none⟩),.slice A44 t43.length c45,.agg (enc_api_Token t67).toArray,undef,undef,undef,undef,undef] | some (b125,none) => [.pointer (some ⟨ba0,0,none⟩),.pointer (some ⟨ba0,0,none⟩),.pointer (some ⟨ba0,0,none⟩),.pointer (some ⟨ba0,1,none⟩),.slice A44 t43.length c45,.agg (enc_api_Token t67).toArray,.slice (some ⟨b125,0,none⟩) ([t67] : List api_Token).length 1,undef,undef,undef,undef] | some (b125,some (x132,none)) => [.pointer (some ⟨ba0,0,none⟩),.pointer (some ⟨ba0,0,none⟩),.pointer (some ⟨ba0,0,none⟩),.pointer (some ⟨ba0,1,none⟩),.slice A44 t43.length c45,.agg (enc_api_Token t67).toArray,.slice (some ⟨b125,0,none⟩) ([t67] : List api_Token).length 1,.slice x132.1 (t43 ++ ([t67] : List api_Token)).length x132.2,.pointer (some ⟨ba0,0,none⟩),.pointer (some ⟨ba0,1,none⟩),undef] | some (b125,some (x132,some x133)) => [.pointer (some ⟨ba0,0,none⟩),.pointer (some ⟨ba0,0,none⟩),.pointer (some ⟨ba0,0,none⟩),.pointer (some ⟨ba0,1,none⟩),.slice A44 t43.length c45,.agg (enc_api_Token t67).toArray,.slice (some ⟨b125,0,none⟩) ([t67] : List api_Token).length 1,.slice x132.1 (t43 ++ ([t67] : List api_Token)).length x132.2,.pointer (some ⟨ba0,0,none⟩),.pointer (some ⟨ba0,1,none⟩),undef])) (c:=p10_16) (id:=7) none 10 11 [6,7,10] [0,0,0,0,0,0,0,1,2,2,2] [2,2,2,2,1,0,1,2,3,2,3] [] (by kernel_rfl) (by kernel_rfl) (by kernel_rfl) (by kernel_rfl) (by kernel_rfl) (by kernel_rfl) (by kernel_rfl) (by kernel_rfl) (by kernel_rfl) (by kernel_rfl) rfl hS122.drew ?_ ?_ ?_ ?_
    ·intro st w hC
     rcases st with _ | ⟨b125,_ | ⟨x132,_ | x133⟩⟩
     ·exact nbl rfl
     ·exact nbl rfl
     ·exact nbl rfl
     ·exact nbl rfl
    ·intro i hi he st w hC hr hu
     match i,hi,he with
     | 0,_,_ =>
      rcases st with _ | ⟨b125,_ | ⟨x132,_ | x133⟩⟩
      ·dsimp only at hC
       exact dP (.pointer (some ⟨ba0,0,none⟩)) hC
      ·dsimp only at hC
       exact dP (.pointer (some ⟨ba0,0,none⟩)) hC
      ·dsimp only at hC
       exact dP (.pointer (some ⟨ba0,0,none⟩)) hC
      ·exact absurd hu (nle rfl)
     | 1,_,_ =>
      rcases st with _ | ⟨b125,_ | ⟨x132,_ | x133⟩⟩
      ·dsimp only at hC
       exact dP (.pointer (some ⟨ba0,0,none⟩)) hC
      ·dsimp only at hC
       exact dP (.pointer (some ⟨ba0,0,none⟩)) hC
      ·dsimp only at hC
       exact dP (.pointer (some ⟨ba0,0,none⟩)) hC
      ·exact absurd hu (nle rfl)
     | 2,_,_ =>
      rcases st with _ | ⟨b125,_ | ⟨x132,_ | x133⟩⟩
      ·dsimp only at hC
       exact dP (.pointer (some ⟨ba0,0,none⟩)) hC
      ·dsimp only at hC
       exact dP (.pointer (some ⟨ba0,0,none⟩)) hC
      ·dsimp only at hC
       exact dP (.pointer (some ⟨ba0,0,none⟩)) hC
      ·exact absurd hu (nle rfl)
     | 3,_,_ =>
      rcases st with _ | ⟨b125,_ | ⟨x132,_ | x133⟩⟩
      ·dsimp only at hC
       exact dP (.pointer (some ⟨ba0,1,none⟩)) hC
      ·dsimp only at hC
       exact dP (.pointer (some ⟨ba0,1,none⟩)) hC
      ·dsimp only at hC
       exact dP (.pointer (some ⟨ba0,1,none⟩)) hC
      ·exact absurd hu (nle rfl)
     | 4,_,_ =>
      rcases st with _ | ⟨b125,_ | ⟨x132,_ | x133⟩⟩
      ·dsimp only at hC
       exact does_run (x_load (t:=45) (x:=(.tmp 37)) (p:=⟨ba0,1,none⟩) (v:=.slice A44 t43.length c45) (by kernel_rfl) (loads_at 1 (hC.blk 1 rfl) (by kernel_rfl) (by kernel_rfl)) (by kernel_rfl)) rfl hC
      ·dsimp only at hC
       exact does_run (x_load (t:=45) (x:=(.tmp 37)) (p:=⟨ba0,1,none⟩) (v:=.slice A44 t43.length c45) (by kernel_rfl) (loads_at 1 (hC.blk 2 rfl) (by kernel_rfl) (by kernel_rfl)) (by kernel_rfl)) rfl hC
      ·exact absurd hu (nle rfl)
      ·exact absurd hu (nle rfl)
     | 5,_,_ =>
      rcases st with _ | ⟨b125,_ | ⟨x132,_ | x133⟩⟩
      ·dsimp only at hC
       exact does_run (x_load (t:=39) (x:=(.tmp 5)) (p:=⟨b86,0,none⟩) (v:=.agg (enc_api_Token t67).toArray) (by kernel_rfl) (loads_agg (hC.blk 0 rfl) (by kernel_rfl) (by kernel_rfl)) (by kernel_rfl)) rfl hC
      ·exact absurd hu (nle rfl)
      ·exact absurd hu (nle rfl)
      ·exact absurd hu (nle rfl)
     | 6,_,he => exact absurd he (by decide)
     | 7,_,he => exact absurd he (by decide)
     | 8,_,_ =>
      rcases st with _ | ⟨b125,_ | ⟨x132,_ | x133⟩⟩
      ·exact absurd hr (nle rfl)
      ·exact absurd hr (nle rfl)
      ·dsimp only at hC
       exact dP (.pointer (some ⟨ba0,0,none⟩)) hC
      ·dsimp only at hC
       exact dP (.pointer (some ⟨ba0,0,none⟩)) hC
     | 9,_,_ =>
      rcases st with _ | ⟨b125,_ | ⟨x132,_ | x133⟩⟩
      ·exact absurd hr (nle rfl)
      ·exact absurd hr (nle rfl)
      ·dsimp only at hC
       exact dP (.pointer (some ⟨ba0,1,none⟩)) hC
      ·exact absurd hu (nle rfl)
     | 10,_,he => exact absurd he (by decide)
     | i + 11,hi,_ => exact absurd hi (by omega)
    ·intro k hk st w hC hr
     match k,hk with
     | 0,_ =>
      rcases st with _ | ⟨b125,_ | ⟨x132,_ | x133⟩⟩
      ·dsimp only at hC
       refine does_lit (t:=45) (e:=39) (sz:=7) (n:=1) (parts:=#[(0,(.tmp 39))]) (vs:=[(0,.agg (enc_api_Token t67).toArray)]) (z:=zeroOf Tryz.prog 39) (cs':=([t67] : List api_Token).flatMap enc_api_Token) hC (by kernel_rfl) (by kernel_rfl) (by kernel_rfl) (by kernel_rfl) (by decide) (by decide) (by kernel_rfl) rfl (Parts.cons (c:=enc_api_Token t67) (by kernel_rfl) (len_api_Token _) Parts.nil) rfl ?_
       intro b125 w2 h2
       refine ⟨some (b125,none),rfl,?_,.inr rfl,h2⟩
       intro j hj
       match j,hj with
       | 0,_ => exact rfl
       | 1,_ => exact rfl
       | 2,_ => exact rfl
       | 3,_ => exact rfl
       | 4,_ => exact rfl
       | 5,_ => exact rfl
       | 6,hj => exact absurd hj (by decide)
       | 7,hj => exact absurd hj (by decide)
       | 8,hj => exact absurd hj (by decide)
       | 9,hj => exact absurd hj (by decide)
       | 10,hj => exact absurd hj (by decide)
       | j + 11,_ => exact rfl
      ·exact absurd hr (Nat.ne_of_beq_eq_false rfl)
      ·exact absurd hr (Nat.ne_of_beq_eq_false rfl)
      ·exact absurd hr (Nat.ne_of_beq_eq_false rfl)
     | 1,_ =>
      rcases st with _ | ⟨b125,_ | ⟨x132,_ | x133⟩⟩
      ·exact absurd hr (Nat.ne_of_beq_eq_false rfl)
      ·dsimp only at hC
       have hC:=hC.pick3
       refine does_append (enc:=enc_api_Token) (e:=39) (u:=39) (t:=45) (t2:=45) (sz:=7) (cp:=c45) (A:=A44) (bytes:=64) (xs:=t43) (ys:=([t67] : List api_Token)) (s:=(.tmp 38)) (x:=(.tmp 40)) (xv:=.slice (some ⟨b125,0,none⟩) ([t67] : List api_Token).length 1) (info:=infoOf Tryz.prog 39) (z:=zeroOf Tryz.prog 39) (ycs:=([t67] : List api_Token).flatMap enc_api_Token) hC (by kernel_rfl) (by kernel_rfl) (by kernel_rfl) (by kernel_rfl) (.inl (by kernel_rfl)) (by kernel_rfl) (by kernel_rfl) (by kernel_rfl) (by kernel_rfl) (by kernel_rfl) (by omega) len_api_Token one_api_Token (src_row (hC.row 1 rfl) (by omega) len_api_Token) rfl g127 (by omega) ?_
       intro A129 c130 w2 h2
       refine ⟨some (b125,some ((A129,c130),none)),rfl,?_,.inr rfl,h2⟩
       intro j hj
       match j,hj with
       | 0,_ => exact rfl
       | 1,_ => exact rfl
       | 2,_ => exact rfl
       | 3,_ => exact rfl
       | 4,_ => exact rfl
       | 5,_ => exact rfl
       | 6,_ => exact rfl
       | 7,hj => exact absurd hj (by decide)
       | 8,hj => exact absurd hj (by decide)
       | 9,hj => exact absurd hj (by decide)
       | 10,hj => exact absurd hj (by decide)
       | j + 11,_ => exact rfl
      ·exact absurd hr (Nat.ne_of_beq_eq_false rfl)
      ·exact absurd hr (Nat.ne_of_beq_eq_false rfl)
     | 2,_ =>
      rcases st with _ | ⟨b125,_ | ⟨x132,_ | x133⟩⟩
      ·exact absurd hr (Nat.ne_of_beq_eq_false rfl)
      ·exact absurd hr (Nat.ne_of_beq_eq_false rfl)
      ·dsimp only at hC
       have hC:=hC.pick3
       refine dS 45 (.tmp 43) (.tmp 41) 1 (.slice x132.1 (t43 ++ ([t67] : List api_Token)).length x132.2) [.slice x132.1 (t43 ++ ([t67] : List api_Token)).length x132.2] [.pointer (some ⟨y15,0,none⟩),.slice x132.1 (t43 ++ ([t67] : List api_Token)).length x132.2,.string y2.Name,.string y2.Doc,.slice y19 y2.Inits.length y20,.slice y21 y2.Threads.length y22,.slice y23 y2.Watch.length y24,.int .i64 y2.Quant,.slice y25 y2.Cond.length y26,.slice y27 y3.length y28,.slice y29 y4.length y30,.slice y31 y12.length y32,.slice y33 y13.length y34,.slice y35 y14.length y36,.nilIface] hC ?_
       intro w2 h2
       refine ⟨some (b125,some (x132,some ())),rfl,?_,.inl rfl,h2⟩
       intro j hj
       match j,hj with
       | 0,_ => exact rfl
       | 1,_ => exact rfl
       | 2,_ => exact rfl
       | 3,_ => exact rfl
       | 4,_ => exact rfl
       | 5,_ => exact rfl
       | 6,_ => exact rfl
       | 7,_ => exact rfl
       | 8,_ => exact rfl
       | 9,_ => exact rfl
       | 10,hj => exact absurd hj (by decide)
       | j + 11,_ => exact rfl
      ·exact absurd hr (Nat.ne_of_beq_eq_false rfl)
     | k + 3,hk => exact absurd hk (by simp)
    intro st137 w134 hS135 hr136
    rcases st137 with _ | ⟨b125,_ | ⟨x132,_ | x133⟩⟩
    ·exact absurd hr136 (nle rfl)
    ·exact absurd hr136 (nle rfl)
    ·exact absurd hr136 (nle rfl)
    replace hS135 : St w0 Z82 (xblk ba0 70 ([.pointer (some ⟨y15,0,none⟩),.slice x132.1 (t43 ++ ([t67] : List api_Token)).length x132.2,.string y2.Name,.string y2.Doc,.slice y19 y2.Inits.length y20,.slice y21 y2.Threads.length y22,.slice y23 y2.Watch.length y24,.int .i64 y2.Quant,.slice y25 y2.Cond.length y26,.slice y27 y3.length y28,.slice y29 y4.length y30,.slice y31 y12.length y32,.slice y33 y13.length y34,.slice y35 y14.length y36,.nilIface])::xrow x132.1 x132.2 39 7 ((t43 ++ ([t67] : List api_Token)).flatMap enc_api_Token)::xrow (some ⟨b125,0,none⟩) 1 39 7 (([t67] : List api_Token).flatMap enc_api_Token)::xblk b86 39 (enc_api_Token t67)::gs123) w134:=hS135
    subst hg124
    refine sR 1 td144 ?_
    have hS138:=hS135.pick2
    have hS139:=hS138.drop
    have hS140:=hS139.pick2
    have hS141:=hS140.drop
    have hS142:=hS141.pick3
    have hS143:=hS142.pick2
    have hS144:=hS143.pick3
    have hS145:=hS144.pick3
    refine sR 1 td145 ?_
    refine rF (mk 51 [(0,.pointer (some ⟨ba0,0,none⟩)),(1,.int .i64 a1),(4,.pointer (some ⟨b1,0,none⟩))]) ?_
    exact ih60 (t43 ++ ([t67] : List api_Token)) t69 t70 t71 t72 _ hp128 he58 _ Z82 x132.1 x132.2 Q74 _ (Zm.Le.trans hz42 hz83) hS145 hs85
   have hp146:=ite_f hb59 h65
   refine sR 3 td142 ?_
   refine rF (mk 51 [(0,.pointer (some ⟨ba0,0,none⟩)),(1,.int .i64 a1),(4,.pointer (some ⟨b1,0,none⟩))]) ?_
   exact J24 t43 t47 t48 t49 t50 ((Option.some.inj hp146).trans he58) _ Z41 A44 c45 v51 _ hz42 hS55 he52
  have hS147:=hS3.pick3
  have hS148:=hS147.pick3
  have hS149:=hS148.pick3
  refine rF (mk 51 [(0,.pointer (some ⟨ba0,0,none⟩)),(1,.int .i64 a1),(4,.pointer (some ⟨b1,0,none⟩))]) ?_
  exact L62 y1 y8 y9 y10 y11 _ hv6 rfl _ Z y17 y18 y16 _ (Zm.Le.refl _) hS149 y37

noncomputable def cd37 (p : List Nat) : Code := sub (bodyOf Tryz.f37) p
abbrev p37_2:=cd37 [1,1,0]
abbrev td148:List Item:=[.code (cd37 [1,1,1])]
def litmus_reader__sees.f (y7 : ByteArray) (y8 : Int) (y9 : Int) (y10 : Int) (y11 : PErr) (y1 : List api_Token) (y2 : api_Test) (y3 : List litmus_place) (y4 : List litmus_place) (y12 : List (List litmus_place)) (y13 : List litmus_place) (y14 : List litmus_place) (a1 : ByteArray) : Option (Sum PErr (Bool × (List api_Token) × Int × Int × Int × PErr)) :=
  (litmus_reader__look.f y7 y8 y9 y10 y11 y1 y2 y3 y4 y12 y13 y14 0 >>= (fun | .inl pe13 => some (.inl pe13) | .inr (t1,t2,t3,t4,t5,t6) => (if (seq t1.Text a1) = true then (if (t1.Kind == 4) = true then some (.inr (true,t2,t3,t4,t5,t6)) else (if (t1.Kind == 1) = true then some (.inr (true,t2,t3,t4,t5,t6)) else some (.inr (false,t2,t3,t4,t5,t6)))) else some (.inr (false,t2,t3,t4,t5,t6)))))
set_option maxHeartbeats 16000000 in
theorem litmus_reader__sees.ok (y7 : ByteArray) (y8 : Int) (y9 : Int) (y10 : Int) (y11 : PErr) (y1 : List api_Token) (y2 : api_Test) (y3 : List litmus_place) (y4 : List litmus_place) (y12 : List (List litmus_place)) (y13 : List litmus_place) (y14 : List litmus_place) (a1 : ByteArray) (ba0 : Nat) (y15 : Nat) (y16 : Value) (y17 : Option Addr) (y18 : Nat) (y19 : Option Addr) (y20 : Nat) (y21 : Option Addr) (y22 : Nat) (y23 : Option Addr) (y24 : Nat) (y25 : Option Addr) (y26 : Nat) (y27 : Option Addr) (y28 : Nat) (y29 : Option Addr) (y30 : Nat) (y31 : Option Addr) (y32 : Nat) (y33 : Option Addr) (y34 : Nat) (y35 : Option Addr) (y36 : Nat) {w0 : World} {Z : Zm} {fs : List XObj} {w : World} (hS0 : St w0 Z (xblk ba0 70 ([.pointer (some ⟨y15,0,none⟩),.slice y17 y1.length y18,.string y2.Name,.string y2.Doc,.slice y19 y2.Inits.length y20,.slice y21 y2.Threads.length y22,.slice y23 y2.Watch.length y24,.int .i64 y2.Quant,.slice y25 y2.Cond.length y26,.slice y27 y3.length y28,.slice y29 y4.length y30,.slice y31 y12.length y32,.slice y33 y13.length y34,.slice y35 y14.length y36,.nilIface])::xblk y15 93 ([.string y7,.int .i64 y8,.int .i64 y9,.int .i64 y10,y16])::xrow y17 y18 39 7 (y1.flatMap enc_api_Token)::fs) w) (y37 : RepE 57 58 Z y16 y11) (y38 : SlZ (flat enc_api_Init) 3 Z y19 y20 y2.Inits) (y39 : SlZ (repL (flat enc_api_Instr) 5) 1 Z y21 y22 y2.Threads) (y40 : SlZ (flat enc_api_Ref) 2 Z y23 y24 y2.Watch) (y41 : SlZ (flat enc_api_Node) 6 Z y25 y26 y2.Cond) (y42 : SlZ (flat enc_litmus_place) 2 Z y27 y28 y3) (y43 : SlZ (flat enc_litmus_place) 2 Z y29 y30 y4) (y44 : SlZ (repL (flat enc_litmus_place) 2) 1 Z y31 y32 y12) (y45 : SlZ (flat enc_litmus_place) 2 Z y33 y34 y13) (y46 : SlZ (flat enc_litmus_place) 2 Z y35 y36 y14) {qr : Sum PErr (Bool × (List api_Token) × Int × Int × Int × PErr)} (hp0 : litmus_reader__sees.f y7 y8 y9 y10 y11 y1 y2 y3 y4 y12 y13 y14 a1 = some qr) :
    Calls Tryz.prog 37 #[.pointer (some ⟨ba0,0,none⟩),.string a1] w (fun e w' => PanQ (fun p => ∃ (v : Value) (Z' : Zm),Zm.Le Z Z' ∧ e = .panicked [{ v:=v,recovered:=false }] ∧ St w0 Z' fs w' ∧ RepE 57 58 Z' v p) (fun q => ∃ (QA0 : Option Addr) (Qc0 : Nat) (Qv2 : Value) (Z' : Zm),Zm.Le Z Z' ∧ e = .returned (.bool q.1) ∧ St w0 Z' (xrow QA0 Qc0 39 7 (q.2.1.flatMap enc_api_Token)::xblk ba0 70 ([.pointer (some ⟨y15,0,none⟩),.slice QA0 q.2.1.length Qc0,.string y2.Name,.string y2.Doc,.slice y19 y2.Inits.length y20,.slice y21 y2.Threads.length y22,.slice y23 y2.Watch.length y24,.int .i64 y2.Quant,.slice y25 y2.Cond.length y26,.slice y27 y3.length y28,.slice y29 y4.length y30,.slice y31 y12.length y32,.slice y33 y13.length y34,.slice y35 y14.length y36,.nilIface])::xblk y15 93 ([.string y7,.int .i64 q.2.2.1,.int .i64 q.2.2.2.1,.int .i64 q.2.2.2.2.1,Qv2])::fs) w' ∧ RepE 57 58 Z' Qv2 q.2.2.2.2.2) qr):=by
  refine calls_abs ?_; intro R hR
  unfold litmus_reader__sees.f at hp0
  refine calls_of_runs (fn:=Tryz.f37) (c:=cd37 []) Tryz.func37 (by kernel_rfl) (al:=[.pointer (some ⟨ba0,0,none⟩),.string a1]) rfl (n:=20) rfl ?_
  refine sR 7 [.inRegion (opsOf (cd37 [1,0])) [1,2,3],.code (cd37 [1,1])] ?_
  obtain ⟨q12,hr10,hp11⟩:=bind_some' hp0
  have hS17:=hS0.pick2
  have hS18:=hS17.pick2
  have hS19:=hS18.pick2
  refine rCB (litmus_reader__look.ok y7 y8 y9 y10 y11 y1 y2 y3 y4 y12 y13 y14 0 ba0 y15 y16 y17 y18 y19 y20 y21 y22 y23 y24 y25 y26 y27 y28 y29 y30 y31 y32 y33 y34 y35 y36 hS19 y37 y38 y39 y40 y41 y42 y43 y44 y45 y46 hr10) ?_
  intro e16 w15 hQ14
  rcases q12 with pe13 | ⟨t1,t2,t3,t4,t5,t6⟩
  all_goals try dsimp only at hp11
  ·obtain ⟨v20,Z21,hz22,rfl,hS23,he24⟩:=hQ14
   refine .inr ⟨_,rfl,?_⟩
   refine raised_fx Tryz.func37 ?_
   cases Option.some.inj hp11
   exact hR _ _ (panq_l ⟨v20,Z21,hz22,rfl,hS23,he24⟩)
  obtain ⟨Q7,Q8,Q9,Z30,hz31,rfl,hS29,hs32⟩:=hQ14
  try dsimp only at hS29 hs32
  refine .inl ⟨_,rfl,?_⟩
  refine rA 39 (.agg (enc_api_Token (⟨0,(⟨#[]⟩ : ByteArray),0,0,0,0,0⟩ : api_Token)).toArray) (enc_api_Token (⟨0,(⟨#[]⟩ : ByteArray),0,0,0,0,0⟩ : api_Token)) hS29 ?_
  intro b33 w34 hS35
  refine rSA 39 (.tmp 5) (.tmp 7) (enc_api_Token t1) hS35 (one_api_Token _) ?_
  intro w37 hS38
  refine sR 4 (iR p37_2 1 14::td148) ?_
  refine rL1 9 (.tmp 8) 1 (hS38.blk 0 rfl) ?_
  refine sS 2 (iR p37_2 4 11::td148) 11 (seq t1.Text a1) (fun h39 => ?_) fun h40 => ?_
  ·have hp41:=ite_t hp11 h39
   refine sR 2 (iR p37_2 6 9::td148) ?_
   refine rL1 3 (.tmp 13) 0 (hS38.blk 0 rfl) ?_
   refine sS 1 (iR p37_2 8 7::td148) 15 (t1.Kind == 4) (fun h42 => ?_) fun h43 => ?_
   ·have hp44:=ite_t hp41 h42
    refine sR 8 td148 ?_
    have hS45:=hS38.drop
    refine rR (.bool true) Tryz.func37 ?_
    cases Option.some.inj hp44
    exact hR _ _ (panq_r ⟨Q7,Q8,Q9,Z30,hz31,rfl,hS45,hs32⟩)
   have hp47:=ite_f hp41 h43
   refine sR 2 (iR p37_2 10 5::td148) ?_
   refine rL1 3 (.tmp 17) 0 (hS38.blk 0 rfl) ?_
   refine sS 1 (.inRegion (opsOf p37_2) [12,13,14]::td148) 19 (t1.Kind == 1) (fun h48 => ?_) fun h49 => ?_
   ·have hp50:=ite_t hp47 h48
    refine sR 4 td148 ?_
    have hS51:=hS38.drop
    refine rR (.bool true) Tryz.func37 ?_
    cases Option.some.inj hp50
    exact hR _ _ (panq_r ⟨Q7,Q8,Q9,Z30,hz31,rfl,hS51,hs32⟩)
   have hp53:=ite_f hp47 h49
   refine sR 4 td148 ?_
   have hS54:=hS38.drop
   refine rR (.bool false) Tryz.func37 ?_
   cases Option.some.inj hp53
   exact hR _ _ (panq_r ⟨Q7,Q8,Q9,Z30,hz31,rfl,hS54,hs32⟩)
  have hp56:=ite_f hp11 h40
  refine sR 12 td148 ?_
  have hS57:=hS38.drop
  refine rR (.bool false) Tryz.func37 ?_
  cases Option.some.inj hp56
  exact hR _ _ (panq_r ⟨Q7,Q8,Q9,Z30,hz31,rfl,hS57,hs32⟩)

noncomputable def cd38 (p : List Nat) : Code := sub (bodyOf Tryz.f38) p
abbrev td149:List Item:=[.code (cd38 [1,1,1])]
def litmus_reader__next.f (y7 : ByteArray) (y8 : Int) (y9 : Int) (y10 : Int) (y11 : PErr) (y1 : List api_Token) (y2 : api_Test) (y3 : List litmus_place) (y4 : List litmus_place) (y12 : List (List litmus_place)) (y13 : List litmus_place) (y14 : List litmus_place) : Option (Sum PErr (api_Token × (List api_Token) × Int × Int × Int × PErr)) :=
  (litmus_reader__look.f y7 y8 y9 y10 y11 y1 y2 y3 y4 y12 y13 y14 0 >>= (fun | .inl pe17 => some (.inl pe17) | .inr (t5,t6,t7,t8,t9,t10) => (((if (t5.Kind != 0) = true then (if 0 ≤ (1 : Int) ∧ (1 : Int) ≤ (t6.length : Int) then some (((t6.take t6.length).drop ((1 : Int).toNat))) else none) else some (t6)) : Option (List api_Token)) >>= (fun t47 => some (.inr (t5,t47,t7,t8,t9,t10))))))
set_option maxHeartbeats 16000000 in
theorem litmus_reader__next.ok (y7 : ByteArray) (y8 : Int) (y9 : Int) (y10 : Int) (y11 : PErr) (y1 : List api_Token) (y2 : api_Test) (y3 : List litmus_place) (y4 : List litmus_place) (y12 : List (List litmus_place)) (y13 : List litmus_place) (y14 : List litmus_place) (ba0 : Nat) (y15 : Nat) (y16 : Value) (y17 : Option Addr) (y18 : Nat) (y19 : Option Addr) (y20 : Nat) (y21 : Option Addr) (y22 : Nat) (y23 : Option Addr) (y24 : Nat) (y25 : Option Addr) (y26 : Nat) (y27 : Option Addr) (y28 : Nat) (y29 : Option Addr) (y30 : Nat) (y31 : Option Addr) (y32 : Nat) (y33 : Option Addr) (y34 : Nat) (y35 : Option Addr) (y36 : Nat) {w0 : World} {Z : Zm} {fs : List XObj} {w : World} (hS0 : St w0 Z (xblk ba0 70 ([.pointer (some ⟨y15,0,none⟩),.slice y17 y1.length y18,.string y2.Name,.string y2.Doc,.slice y19 y2.Inits.length y20,.slice y21 y2.Threads.length y22,.slice y23 y2.Watch.length y24,.int .i64 y2.Quant,.slice y25 y2.Cond.length y26,.slice y27 y3.length y28,.slice y29 y4.length y30,.slice y31 y12.length y32,.slice y33 y13.length y34,.slice y35 y14.length y36,.nilIface])::xblk y15 93 ([.string y7,.int .i64 y8,.int .i64 y9,.int .i64 y10,y16])::xrow y17 y18 39 7 (y1.flatMap enc_api_Token)::fs) w) (y37 : RepE 57 58 Z y16 y11) (y38 : SlZ (flat enc_api_Init) 3 Z y19 y20 y2.Inits) (y39 : SlZ (repL (flat enc_api_Instr) 5) 1 Z y21 y22 y2.Threads) (y40 : SlZ (flat enc_api_Ref) 2 Z y23 y24 y2.Watch) (y41 : SlZ (flat enc_api_Node) 6 Z y25 y26 y2.Cond) (y42 : SlZ (flat enc_litmus_place) 2 Z y27 y28 y3) (y43 : SlZ (flat enc_litmus_place) 2 Z y29 y30 y4) (y44 : SlZ (repL (flat enc_litmus_place) 2) 1 Z y31 y32 y12) (y45 : SlZ (flat enc_litmus_place) 2 Z y33 y34 y13) (y46 : SlZ (flat enc_litmus_place) 2 Z y35 y36 y14) {qr : Sum PErr (api_Token × (List api_Token) × Int × Int × Int × PErr)} (hp0 : litmus_reader__next.f y7 y8 y9 y10 y11 y1 y2 y3 y4 y12 y13 y14 = some qr) :
    Calls Tryz.prog 38 #[.pointer (some ⟨ba0,0,none⟩)] w (fun e w' => PanQ (fun p => ∃ (v : Value) (Z' : Zm),Zm.Le Z Z' ∧ e = .panicked [{ v:=v,recovered:=false }] ∧ St w0 Z' fs w' ∧ RepE 57 58 Z' v p) (fun q => ∃ (QA0 : Option Addr) (Qc0 : Nat) (Qv2 : Value) (Z' : Zm),Zm.Le Z Z' ∧ e = .returned (.agg (enc_api_Token q.1).toArray) ∧ St w0 Z' (xrow QA0 Qc0 39 7 (q.2.1.flatMap enc_api_Token)::xblk ba0 70 ([.pointer (some ⟨y15,0,none⟩),.slice QA0 q.2.1.length Qc0,.string y2.Name,.string y2.Doc,.slice y19 y2.Inits.length y20,.slice y21 y2.Threads.length y22,.slice y23 y2.Watch.length y24,.int .i64 y2.Quant,.slice y25 y2.Cond.length y26,.slice y27 y3.length y28,.slice y29 y4.length y30,.slice y31 y12.length y32,.slice y33 y13.length y34,.slice y35 y14.length y36,.nilIface])::xblk y15 93 ([.string y7,.int .i64 q.2.2.1,.int .i64 q.2.2.2.1,.int .i64 q.2.2.2.2.1,Qv2])::fs) w' ∧ RepE 57 58 Z' Qv2 q.2.2.2.2.2) qr):=by
  refine calls_abs ?_; intro R hR
  unfold litmus_reader__next.f at hp0
  refine calls_of_runs (fn:=Tryz.f38) (c:=cd38 []) Tryz.func38 (by kernel_rfl) (al:=[.pointer (some ⟨ba0,0,none⟩)]) rfl (n:=17) rfl ?_
  refine sR 2 [.inRegion (opsOf (cd38 [0])) [0],.code (cd38 [1])] ?_
  refine rA 39 (.agg (enc_api_Token (⟨0,(⟨#[]⟩ : ByteArray),0,0,0,0,0⟩ : api_Token)).toArray) (enc_api_Token (⟨0,(⟨#[]⟩ : ByteArray),0,0,0,0,0⟩ : api_Token)) hS0 ?_
  intro b1 w2 hS3
  refine sR 4 [.inRegion (opsOf (cd38 [1,0])) [1,2,3],.code (cd38 [1,1])] ?_
  obtain ⟨q16,hr14,hp15⟩:=bind_some' hp0
  have hS21:=hS3.pick3
  have hS22:=hS21.pick3
  have hS23:=hS22.pick3
  refine rCB (litmus_reader__look.ok y7 y8 y9 y10 y11 y1 y2 y3 y4 y12 y13 y14 0 ba0 y15 y16 y17 y18 y19 y20 y21 y22 y23 y24 y25 y26 y27 y28 y29 y30 y31 y32 y33 y34 y35 y36 hS23 y37 y38 y39 y40 y41 y42 y43 y44 y45 y46 hr14) ?_
  intro e20 w19 hQ18
  rcases q16 with pe17 | ⟨t5,t6,t7,t8,t9,t10⟩
  all_goals try dsimp only at hp15
  ·obtain ⟨v24,Z25,hz26,rfl,hS27,he28⟩:=hQ18
   refine .inr ⟨_,rfl,?_⟩
   have hS30:=hS27.drop
   refine raised_fx Tryz.func38 ?_
   cases Option.some.inj hp15
   exact hR _ _ (panq_l ⟨v24,Z25,hz26,rfl,hS30,he28⟩)
  obtain ⟨Q11,Q12,Q13,Z35,hz36,rfl,hS34,hs37⟩:=hQ18
  try dsimp only at hS34 hs37
  refine .inl ⟨_,rfl,?_⟩
  refine rA 39 (.agg (enc_api_Token (⟨0,(⟨#[]⟩ : ByteArray),0,0,0,0,0⟩ : api_Token)).toArray) (enc_api_Token (⟨0,(⟨#[]⟩ : ByteArray),0,0,0,0,0⟩ : api_Token)) hS34 ?_
  intro b38 w39 hS40
  refine rSA 39 (.tmp 3) (.tmp 5) (enc_api_Token t5) hS40 (one_api_Token _) ?_
  intro w42 hS43
  refine sR 5 (.inRegion (opsOf (cd38 [1,1,0,0])) [1,2]::.code (cd38 [1,1,0,1])::td149) ?_
  refine rL1 3 (.tmp 6) 0 (hS43.blk 0 rfl) ?_
  obtain ⟨v44,hv45,hp46⟩:=bind_some' hp15
  have J53 : ∀ (t47 : List api_Token) (he55 : t47 = v44) (l54 : List Value) (A48 : Option Addr) (c49 : Nat) (w51 : World) (hS52 : St w0 Z35 (xblk b1 39 (enc_api_Token (⟨0,(⟨#[]⟩ : ByteArray),0,0,0,0,0⟩ : api_Token))::xblk b38 39 (enc_api_Token t5)::xblk ba0 70 ([.pointer (some ⟨y15,0,none⟩),.slice A48 t47.length c49,.string y2.Name,.string y2.Doc,.slice y19 y2.Inits.length y20,.slice y21 y2.Threads.length y22,.slice y23 y2.Watch.length y24,.int .i64 y2.Quant,.slice y25 y2.Cond.length y26,.slice y27 y3.length y28,.slice y29 y4.length y30,.slice y31 y12.length y32,.slice y33 y13.length y34,.slice y35 y14.length y36,.nilIface])::xblk y15 93 ([.string y7,.int .i64 t7,.int .i64 t8,.int .i64 t9,Q13])::xrow A48 c49 39 7 (t47.flatMap enc_api_Token)::fs) w51),Runs Tryz.prog (fx 38) td149 (fill (mk 18 [(2,.pointer (some ⟨b1,0,none⟩)),(3,.pointer (some ⟨b38,0,none⟩))]) l54) w51 R:=by
   intro t47 he55 l54 A48 c49 w51 hS52
   subst he55
   try dsimp only at hp46
   refine sR 2 [.inRegion (opsOf (cd38 [1,1,1,0])) [0,1],.code (cd38 [1,1,1,1])] ?_
   refine rLa 39 (.tmp 3) (hS52.blk 1 rfl) ?_
   refine rSA 39 (.tmp 2) (.tmp 17) (enc_api_Token t5) hS52 (one_api_Token _) ?_
   intro w56 hS57
   refine sR 1 [.code (cd38 [1,1,1,1])] ?_
   have hS58:=hS57.drop
   have hS59:=hS58.drop
   have hS60:=hS59.pick1
   have hS61:=hS60.pick1
   have hS62:=hS61.pick2
   refine rRc (.agg (enc_api_Token t5).toArray) (.ca 2 39 (hS57.blk 0 rfl) .nil) Tryz.func38 ?_
   cases Option.some.inj hp46
   exact hR _ _ (panq_r ⟨A48,c49,Q13,Z35,hz36,rfl,hS62,hs37⟩)
  refine sS 1 (.inRegion (opsOf (cd38 [1,1,0,0])) []::.code (cd38 [1,1,0,1])::td149) 8 (t5.Kind != 0) (fun h64 => ?_) fun h65 => ?_
  ·have hp66:=ite_t hv45 h64
   refine sR 7 (iR (cd38 [1,1,0,1,0]) 4 5::td149) ?_
   refine rL1 45 (.tmp 12) 1 (hS43.blk 2 rfl) ?_
   obtain ⟨g67,hp68⟩:=ite_some hp66
   have hS73:=hS43.pick1
   obtain ⟨A69,c70,hr71,hS74⟩:=hS73.cutrow len_api_Token (by omega) ((1 : Int).toNat) (t6.length) (by omega) (by omega)
   refine rV (.slice 45 (.tmp 13) (some (.const (.int .i64 1))) none none) (.slice A69 ((t6.take t6.length).drop ((1 : Int).toNat)).length c70) (fun o ho _ => x_cutSl_sn (e:=39) (sz:=7) (A:=Q11) (n:=t6.length) (c:=Q12) (k:=.i64) (by kernel_rfl) (by kernel_rfl) (by kernel_rfl) (by kernel_rfl) g67 hr71 ho) ?_
   refine sR 2 (.inRegion (opsOf (cd38 [1,1,0,1,0])) [8]::td149) ?_
   have hS76:=hS74.pick2
   refine rS 45 (.tmp 16) (.tmp 14) 1 (.slice A69 ((t6.take t6.length).drop ((1 : Int).toNat)).length c70) [.slice A69 ((t6.take t6.length).drop ((1 : Int).toNat)).length c70] [.pointer (some ⟨y15,0,none⟩),.slice A69 ((t6.take t6.length).drop ((1 : Int).toNat)).length c70,.string y2.Name,.string y2.Doc,.slice y19 y2.Inits.length y20,.slice y21 y2.Threads.length y22,.slice y23 y2.Watch.length y24,.int .i64 y2.Quant,.slice y25 y2.Cond.length y26,.slice y27 y3.length y28,.slice y29 y4.length y30,.slice y31 y12.length y32,.slice y33 y13.length y34,.slice y35 y14.length y36,.nilIface] hS76 ?_
   intro w77 hS78
   refine sR 1 td149 ?_
   have hS79:=hS78.pick1
   have hS80:=hS79.pick3
   have hS81:=hS80.pick2
   have hS82:=hS81.pick3
   have hS83:=hS82.pick4
   refine rF (mk 18 [(2,.pointer (some ⟨b1,0,none⟩)),(3,.pointer (some ⟨b38,0,none⟩))]) ?_
   exact J53 ((t6.take t6.length).drop ((1 : Int).toNat)) (Option.some.inj hp68) _ A69 c70 _ hS83
  have hp84:=ite_f hv45 h65
  refine sR 3 td149 ?_
  have hS85:=hS43.pick1
  have hS86:=hS85.pick3
  have hS87:=hS86.pick3
  have hS88:=hS87.pick3
  have hS89:=hS88.pick4
  refine rF (mk 18 [(2,.pointer (some ⟨b1,0,none⟩)),(3,.pointer (some ⟨b38,0,none⟩))]) ?_
  exact J53 t6 (Option.some.inj hp84) _ Q11 Q12 _ hS89

noncomputable def cd20 (p : List Nat) : Code := sub (bodyOf Tryz.f20) p
abbrev p20_2:=cd20 [1,1]
def litmus_reader__is.f (y7 : ByteArray) (y8 : Int) (y9 : Int) (y10 : Int) (y11 : PErr) (y1 : List api_Token) (y2 : api_Test) (y3 : List litmus_place) (y4 : List litmus_place) (y12 : List (List litmus_place)) (y13 : List litmus_place) (y14 : List litmus_place) (a1 : ByteArray) : Option (Sum PErr (Bool × (List api_Token) × Int × Int × Int × PErr)) :=
  (litmus_reader__sees.f y7 y8 y9 y10 y11 y1 y2 y3 y4 y12 y13 y14 a1 >>= (fun | .inl pe13 => some (.inl pe13) | .inr (t1,t2,t3,t4,t5,t6) => (if t1 = true then (litmus_reader__next.f y7 t3 t4 t5 t6 t2 y2 y3 y4 y12 y13 y14 >>= (fun | .inl pe48 => some (.inl pe48) | .inr (t36,t37,t38,t39,t40,t41) => some (.inr (true,t37,t38,t39,t40,t41)))) else some (.inr (false,t2,t3,t4,t5,t6)))))
set_option maxHeartbeats 16000000 in
theorem litmus_reader__is.ok (y7 : ByteArray) (y8 : Int) (y9 : Int) (y10 : Int) (y11 : PErr) (y1 : List api_Token) (y2 : api_Test) (y3 : List litmus_place) (y4 : List litmus_place) (y12 : List (List litmus_place)) (y13 : List litmus_place) (y14 : List litmus_place) (a1 : ByteArray) (ba0 : Nat) (y15 : Nat) (y16 : Value) (y17 : Option Addr) (y18 : Nat) (y19 : Option Addr) (y20 : Nat) (y21 : Option Addr) (y22 : Nat) (y23 : Option Addr) (y24 : Nat) (y25 : Option Addr) (y26 : Nat) (y27 : Option Addr) (y28 : Nat) (y29 : Option Addr) (y30 : Nat) (y31 : Option Addr) (y32 : Nat) (y33 : Option Addr) (y34 : Nat) (y35 : Option Addr) (y36 : Nat) {w0 : World} {Z : Zm} {fs : List XObj} {w : World} (hS0 : St w0 Z (xblk ba0 70 ([.pointer (some ⟨y15,0,none⟩),.slice y17 y1.length y18,.string y2.Name,.string y2.Doc,.slice y19 y2.Inits.length y20,.slice y21 y2.Threads.length y22,.slice y23 y2.Watch.length y24,.int .i64 y2.Quant,.slice y25 y2.Cond.length y26,.slice y27 y3.length y28,.slice y29 y4.length y30,.slice y31 y12.length y32,.slice y33 y13.length y34,.slice y35 y14.length y36,.nilIface])::xblk y15 93 ([.string y7,.int .i64 y8,.int .i64 y9,.int .i64 y10,y16])::xrow y17 y18 39 7 (y1.flatMap enc_api_Token)::fs) w) (y37 : RepE 57 58 Z y16 y11) (y38 : SlZ (flat enc_api_Init) 3 Z y19 y20 y2.Inits) (y39 : SlZ (repL (flat enc_api_Instr) 5) 1 Z y21 y22 y2.Threads) (y40 : SlZ (flat enc_api_Ref) 2 Z y23 y24 y2.Watch) (y41 : SlZ (flat enc_api_Node) 6 Z y25 y26 y2.Cond) (y42 : SlZ (flat enc_litmus_place) 2 Z y27 y28 y3) (y43 : SlZ (flat enc_litmus_place) 2 Z y29 y30 y4) (y44 : SlZ (repL (flat enc_litmus_place) 2) 1 Z y31 y32 y12) (y45 : SlZ (flat enc_litmus_place) 2 Z y33 y34 y13) (y46 : SlZ (flat enc_litmus_place) 2 Z y35 y36 y14) {qr : Sum PErr (Bool × (List api_Token) × Int × Int × Int × PErr)} (hp0 : litmus_reader__is.f y7 y8 y9 y10 y11 y1 y2 y3 y4 y12 y13 y14 a1 = some qr) :
    Calls Tryz.prog 20 #[.pointer (some ⟨ba0,0,none⟩),.string a1] w (fun e w' => PanQ (fun p => ∃ (v : Value) (Z' : Zm),Zm.Le Z Z' ∧ e = .panicked [{ v:=v,recovered:=false }] ∧ St w0 Z' fs w' ∧ RepE 57 58 Z' v p) (fun q => ∃ (QA0 : Option Addr) (Qc0 : Nat) (Qv2 : Value) (Z' : Zm),Zm.Le Z Z' ∧ e = .returned (.bool q.1) ∧ St w0 Z' (xrow QA0 Qc0 39 7 (q.2.1.flatMap enc_api_Token)::xblk ba0 70 ([.pointer (some ⟨y15,0,none⟩),.slice QA0 q.2.1.length Qc0,.string y2.Name,.string y2.Doc,.slice y19 y2.Inits.length y20,.slice y21 y2.Threads.length y22,.slice y23 y2.Watch.length y24,.int .i64 y2.Quant,.slice y25 y2.Cond.length y26,.slice y27 y3.length y28,.slice y29 y4.length y30,.slice y31 y12.length y32,.slice y33 y13.length y34,.slice y35 y14.length y36,.nilIface])::xblk y15 93 ([.string y7,.int .i64 q.2.2.1,.int .i64 q.2.2.2.1,.int .i64 q.2.2.2.2.1,Qv2])::fs) w' ∧ RepE 57 58 Z' Qv2 q.2.2.2.2.2) qr):=by
  refine calls_abs ?_; intro R hR
  unfold litmus_reader__is.f at hp0
  refine calls_of_runs (fn:=Tryz.f20) (c:=cd20 []) Tryz.func20 (by kernel_rfl) (al:=[.pointer (some ⟨ba0,0,none⟩),.string a1]) rfl (n:=8) rfl ?_
  refine sR 9 [.inRegion (opsOf (cd20 [1,0,0])) [2],.code (cd20 [1,0,1]),.code p20_2] ?_
  obtain ⟨q12,hr10,hp11⟩:=bind_some' hp0
  have hS17:=hS0.pick2
  have hS18:=hS17.pick2
  have hS19:=hS18.pick2
  refine rCB (litmus_reader__sees.ok y7 y8 y9 y10 y11 y1 y2 y3 y4 y12 y13 y14 a1 ba0 y15 y16 y17 y18 y19 y20 y21 y22 y23 y24 y25 y26 y27 y28 y29 y30 y31 y32 y33 y34 y35 y36 hS19 y37 y38 y39 y40 y41 y42 y43 y44 y45 y46 hr10) ?_
  intro e16 w15 hQ14
  rcases q12 with pe13 | ⟨t1,t2,t3,t4,t5,t6⟩
  all_goals try dsimp only at hp11
  ·obtain ⟨v20,Z21,hz22,rfl,hS23,he24⟩:=hQ14
   refine .inr ⟨_,rfl,?_⟩
   refine raised_fx Tryz.func20 ?_
   cases Option.some.inj hp11
   exact hR _ _ (panq_l ⟨v20,Z21,hz22,rfl,hS23,he24⟩)
  obtain ⟨Q7,Q8,Q9,Z30,hz31,rfl,hS29,hs32⟩:=hQ14
  try dsimp only at hS29 hs32
  refine .inl ⟨_,rfl,?_⟩
  refine sR 1 [.code (cd20 [1,0,1]),.code p20_2] ?_
  cases t1
  ·have hp33:=ite_f hp11 rfl
   refine sR 6 [.code (cd20 [1,1,1])] ?_
   refine rR (.bool false) Tryz.func20 ?_
   cases Option.some.inj hp33
   exact hR _ _ (panq_r ⟨Q7,Q8,Q9,Z30,hz31,rfl,hS29,hs32⟩)
  have hp35:=ite_t hp11 rfl
  refine sR 4 [.inRegion (opsOf (cd20 [1,0,1,0,0])) [1],.code (cd20 [1,0,1,0,1]),.code p20_2] ?_
  obtain ⟨q47,hr45,hp46⟩:=bind_some' hp35
  have hS52:=hS29.pick2
  have hS53:=hS52.pick2
  refine rCB (litmus_reader__next.ok y7 t3 t4 t5 t6 t2 y2 y3 y4 y12 y13 y14 ba0 y15 Q9 Q7 Q8 y19 y20 y21 y22 y23 y24 y25 y26 y27 y28 y29 y30 y31 y32 y33 y34 y35 y36 hS53 hs32 (y38.up hz31) (SlZ.mono (mono_repL (mono_flat _)) y39 hz31) (y40.up hz31) (y41.up hz31) (y42.up hz31) (y43.up hz31) (SlZ.mono (mono_repL (mono_flat _)) y44 hz31) (y45.up hz31) (y46.up hz31) hr45) ?_
  intro e51 w50 hQ49
  rcases q47 with pe48 | ⟨t36,t37,t38,t39,t40,t41⟩
  all_goals try dsimp only at hp46
  ·obtain ⟨v54,Z55,hz56,rfl,hS57,he58⟩:=hQ49
   refine .inr ⟨_,rfl,?_⟩
   refine raised_fx Tryz.func20 ?_
   cases Option.some.inj hp46
   exact hR _ _ (panq_l ⟨v54,Z55,(Zm.Le.trans hz31 hz56),rfl,hS57,he58⟩)
  obtain ⟨Q42,Q43,Q44,Z64,hz65,rfl,hS63,hs66⟩:=hQ49
  try dsimp only at hS63 hs66
  refine .inl ⟨_,rfl,?_⟩
  refine sR 5 [.code (cd20 [1,0,1,0,1,1]),.code p20_2] ?_
  refine rR (.bool true) Tryz.func20 ?_
  cases Option.some.inj hp46
  exact hR _ _ (panq_r ⟨Q42,Q43,Q44,Z64,(Zm.Le.trans hz31 hz65),rfl,hS63,hs66⟩)

noncomputable def cd11 (p : List Nat) : Code := sub (bodyOf Tryz.f11) p
abbrev p11_1:=cd11 [1]
def litmus_reader__syntax.f (y7 : ByteArray) (y8 : Int) (y9 : Int) (y10 : Int) (y11 : PErr) (y1 : List api_Token) (y2 : api_Test) (y3 : List litmus_place) (y4 : List litmus_place) (y12 : List (List litmus_place)) (y13 : List litmus_place) (y14 : List litmus_place) : Option (Sum PErr Unit) :=
  (litmus_reader__look.f y7 y8 y9 y10 y11 y1 y2 y3 y4 y12 y13 y14 0 >>= (fun | .inl pe13 => some (.inl pe13) | .inr (t1,t2,t3,t4,t5,t6) => some (.inl (.pos t1.Line t1.Col 70))))
set_option maxHeartbeats 16000000 in
theorem litmus_reader__syntax.ok (y7 : ByteArray) (y8 : Int) (y9 : Int) (y10 : Int) (y11 : PErr) (y1 : List api_Token) (y2 : api_Test) (y3 : List litmus_place) (y4 : List litmus_place) (y12 : List (List litmus_place)) (y13 : List litmus_place) (y14 : List litmus_place) (ba0 : Nat) (y15 : Nat) (y16 : Value) (y17 : Option Addr) (y18 : Nat) (y19 : Option Addr) (y20 : Nat) (y21 : Option Addr) (y22 : Nat) (y23 : Option Addr) (y24 : Nat) (y25 : Option Addr) (y26 : Nat) (y27 : Option Addr) (y28 : Nat) (y29 : Option Addr) (y30 : Nat) (y31 : Option Addr) (y32 : Nat) (y33 : Option Addr) (y34 : Nat) (y35 : Option Addr) (y36 : Nat) {w0 : World} {Z : Zm} {fs : List XObj} {w : World} (hS0 : St w0 Z (xblk ba0 70 ([.pointer (some ⟨y15,0,none⟩),.slice y17 y1.length y18,.string y2.Name,.string y2.Doc,.slice y19 y2.Inits.length y20,.slice y21 y2.Threads.length y22,.slice y23 y2.Watch.length y24,.int .i64 y2.Quant,.slice y25 y2.Cond.length y26,.slice y27 y3.length y28,.slice y29 y4.length y30,.slice y31 y12.length y32,.slice y33 y13.length y34,.slice y35 y14.length y36,.nilIface])::xblk y15 93 ([.string y7,.int .i64 y8,.int .i64 y9,.int .i64 y10,y16])::xrow y17 y18 39 7 (y1.flatMap enc_api_Token)::fs) w) (y37 : RepE 57 58 Z y16 y11) (y38 : SlZ (flat enc_api_Init) 3 Z y19 y20 y2.Inits) (y39 : SlZ (repL (flat enc_api_Instr) 5) 1 Z y21 y22 y2.Threads) (y40 : SlZ (flat enc_api_Ref) 2 Z y23 y24 y2.Watch) (y41 : SlZ (flat enc_api_Node) 6 Z y25 y26 y2.Cond) (y42 : SlZ (flat enc_litmus_place) 2 Z y27 y28 y3) (y43 : SlZ (flat enc_litmus_place) 2 Z y29 y30 y4) (y44 : SlZ (repL (flat enc_litmus_place) 2) 1 Z y31 y32 y12) (y45 : SlZ (flat enc_litmus_place) 2 Z y33 y34 y13) (y46 : SlZ (flat enc_litmus_place) 2 Z y35 y36 y14) {qr : Sum PErr Unit} (hp0 : litmus_reader__syntax.f y7 y8 y9 y10 y11 y1 y2 y3 y4 y12 y13 y14 = some qr) :
    Calls Tryz.prog 11 #[.pointer (some ⟨ba0,0,none⟩)] w (fun e w' => PanQ (fun p => ∃ (v : Value) (Z' : Zm),Zm.Le Z Z' ∧ e = .panicked [{ v:=v,recovered:=false }] ∧ St w0 Z' fs w' ∧ RepE 57 58 Z' v p) (fun q => False) qr):=by
  refine calls_abs ?_; intro R hR
  unfold litmus_reader__syntax.f at hp0
  refine calls_of_runs (fn:=Tryz.f11) (c:=cd11 []) Tryz.func11 (by kernel_rfl) (al:=[.pointer (some ⟨ba0,0,none⟩)]) rfl (n:=12) rfl ?_
  refine sR 3 [.inRegion (opsOf (cd11 [0])) [1,2,3],.code p11_1] ?_
  obtain ⟨q12,hr10,hp11⟩:=bind_some' hp0
  have hS17:=hS0.pick2
  have hS18:=hS17.pick2
  have hS19:=hS18.pick2
  refine rCB (litmus_reader__look.ok y7 y8 y9 y10 y11 y1 y2 y3 y4 y12 y13 y14 0 ba0 y15 y16 y17 y18 y19 y20 y21 y22 y23 y24 y25 y26 y27 y28 y29 y30 y31 y32 y33 y34 y35 y36 hS19 y37 y38 y39 y40 y41 y42 y43 y44 y45 y46 hr10) ?_
  intro e16 w15 hQ14
  rcases q12 with pe13 | ⟨t1,t2,t3,t4,t5,t6⟩
  all_goals try dsimp only at hp11
  ·obtain ⟨v20,Z21,hz22,rfl,hS23,he24⟩:=hQ14
   refine .inr ⟨_,rfl,?_⟩
   refine raised_fx Tryz.func11 ?_
   cases Option.some.inj hp11
   exact hR _ _ (panq_l ⟨v20,Z21,hz22,rfl,hS23,he24⟩)
  obtain ⟨Q7,Q8,Q9,Z30,hz31,rfl,hS29,hs32⟩:=hQ14
  try dsimp only at hS29 hs32
  refine .inl ⟨_,rfl,?_⟩
  refine rA 39 (.agg (enc_api_Token (⟨0,(⟨#[]⟩ : ByteArray),0,0,0,0,0⟩ : api_Token)).toArray) (enc_api_Token (⟨0,(⟨#[]⟩ : ByteArray),0,0,0,0,0⟩ : api_Token)) hS29 ?_
  intro b33 w34 hS35
  refine rSA 39 (.tmp 2) (.tmp 4) (enc_api_Token t1) hS35 (one_api_Token _) ?_
  intro w37 hS38
  refine sR 3 [iR p11_1 1 8] ?_
  refine rL1 3 (.tmp 5) 3 (hS38.blk 0 rfl) ?_
  refine sR 1 [iR p11_1 3 6] ?_
  refine rL1 3 (.tmp 7) 4 (hS38.blk 0 rfl) ?_
  refine sR 2 [.inRegion (opsOf p11_1) [6,7,8]] ?_
  refine r_box (c:=p11_1) (i:=6) (d:=(some 11)) (ty:=58) (x:=(.tmp 10)) (v:=.agg #[.int .i64 t1.Line,.int .i64 t1.Col,.iface 57 (.int .i64 70)]) (t:=60) (cs:=[.int .i64 t1.Line,.int .i64 t1.Col,.iface 57 (.int .i64 70)]) hS38 (by kernel_rfl) (by kernel_rfl) (by kernel_rfl) (by kernel_rfl) ?_
  intro b39 w40 hS41
  obtain ⟨Z43,hz44,hS45,hs46,-⟩:=hS41.lendblk
  refine sR 1 [.inRegion (opsOf p11_1) [8]] ?_
  refine r_panic (c:=p11_1) (i:=8) (d:=none) (ty:=0) (x:=(.tmp 12)) (t:=58) (v:=.pointer (some ⟨b39,0,none⟩)) (by kernel_rfl) (by kernel_rfl) (by kernel_rfl) ?_
  have hS48:=hS45.drop
  have hS49:=hS48.drop
  have hS50:=hS49.drop
  have hS51:=hS50.drop
  refine raised_fx Tryz.func11 ?_
  cases Option.some.inj hp11
  exact hR _ _ (panq_l ⟨(.iface 58 (.pointer (some ⟨b39,0,none⟩))),Z43,(Zm.Le.trans hz31 hz44),rfl,hS51,(RepE.of_pos hs46)⟩)

noncomputable def cd23 (p : List Nat) : Code := sub (bodyOf Tryz.f23) p
def litmus_reader__must.f (y7 : ByteArray) (y8 : Int) (y9 : Int) (y10 : Int) (y11 : PErr) (y1 : List api_Token) (y2 : api_Test) (y3 : List litmus_place) (y4 : List litmus_place) (y12 : List (List litmus_place)) (y13 : List litmus_place) (y14 : List litmus_place) (a1 : ByteArray) : Option (Sum PErr ((List api_Token) × Int × Int × Int × PErr)) :=
  (litmus_reader__is.f y7 y8 y9 y10 y11 y1 y2 y3 y4 y12 y13 y14 a1 >>= (fun | .inl pe13 => some (.inl pe13) | .inr (t1,t2,t3,t4,t5,t6) => (if (!t1) = true then (litmus_reader__syntax.f y7 t3 t4 t5 t6 t2 y2 y3 y4 y12 y13 y14 >>= (fun | .inl pe39 => some (.inl pe39) | .inr _ => none)) else some (.inr (t2,t3,t4,t5,t6)))))
set_option maxHeartbeats 16000000 in
theorem litmus_reader__must.ok (y7 : ByteArray) (y8 : Int) (y9 : Int) (y10 : Int) (y11 : PErr) (y1 : List api_Token) (y2 : api_Test) (y3 : List litmus_place) (y4 : List litmus_place) (y12 : List (List litmus_place)) (y13 : List litmus_place) (y14 : List litmus_place) (a1 : ByteArray) (ba0 : Nat) (y15 : Nat) (y16 : Value) (y17 : Option Addr) (y18 : Nat) (y19 : Option Addr) (y20 : Nat) (y21 : Option Addr) (y22 : Nat) (y23 : Option Addr) (y24 : Nat) (y25 : Option Addr) (y26 : Nat) (y27 : Option Addr) (y28 : Nat) (y29 : Option Addr) (y30 : Nat) (y31 : Option Addr) (y32 : Nat) (y33 : Option Addr) (y34 : Nat) (y35 : Option Addr) (y36 : Nat) {w0 : World} {Z : Zm} {fs : List XObj} {w : World} (hS0 : St w0 Z (xblk ba0 70 ([.pointer (some ⟨y15,0,none⟩),.slice y17 y1.length y18,.string y2.Name,.string y2.Doc,.slice y19 y2.Inits.length y20,.slice y21 y2.Threads.length y22,.slice y23 y2.Watch.length y24,.int .i64 y2.Quant,.slice y25 y2.Cond.length y26,.slice y27 y3.length y28,.slice y29 y4.length y30,.slice y31 y12.length y32,.slice y33 y13.length y34,.slice y35 y14.length y36,.nilIface])::xblk y15 93 ([.string y7,.int .i64 y8,.int .i64 y9,.int .i64 y10,y16])::xrow y17 y18 39 7 (y1.flatMap enc_api_Token)::fs) w) (y37 : RepE 57 58 Z y16 y11) (y38 : SlZ (flat enc_api_Init) 3 Z y19 y20 y2.Inits) (y39 : SlZ (repL (flat enc_api_Instr) 5) 1 Z y21 y22 y2.Threads) (y40 : SlZ (flat enc_api_Ref) 2 Z y23 y24 y2.Watch) (y41 : SlZ (flat enc_api_Node) 6 Z y25 y26 y2.Cond) (y42 : SlZ (flat enc_litmus_place) 2 Z y27 y28 y3) (y43 : SlZ (flat enc_litmus_place) 2 Z y29 y30 y4) (y44 : SlZ (repL (flat enc_litmus_place) 2) 1 Z y31 y32 y12) (y45 : SlZ (flat enc_litmus_place) 2 Z y33 y34 y13) (y46 : SlZ (flat enc_litmus_place) 2 Z y35 y36 y14) {qr : Sum PErr ((List api_Token) × Int × Int × Int × PErr)} (hp0 : litmus_reader__must.f y7 y8 y9 y10 y11 y1 y2 y3 y4 y12 y13 y14 a1 = some qr) :
    Calls Tryz.prog 23 #[.pointer (some ⟨ba0,0,none⟩),.string a1] w (fun e w' => PanQ (fun p => ∃ (v : Value) (Z' : Zm),Zm.Le Z Z' ∧ e = .panicked [{ v:=v,recovered:=false }] ∧ St w0 Z' fs w' ∧ RepE 57 58 Z' v p) (fun q => ∃ (QA0 : Option Addr) (Qc0 : Nat) (Qv2 : Value) (Z' : Zm),Zm.Le Z Z' ∧ e = .returned (.tuple #[]) ∧ St w0 Z' (xrow QA0 Qc0 39 7 (q.1.flatMap enc_api_Token)::xblk ba0 70 ([.pointer (some ⟨y15,0,none⟩),.slice QA0 q.1.length Qc0,.string y2.Name,.string y2.Doc,.slice y19 y2.Inits.length y20,.slice y21 y2.Threads.length y22,.slice y23 y2.Watch.length y24,.int .i64 y2.Quant,.slice y25 y2.Cond.length y26,.slice y27 y3.length y28,.slice y29 y4.length y30,.slice y31 y12.length y32,.slice y33 y13.length y34,.slice y35 y14.length y36,.nilIface])::xblk y15 93 ([.string y7,.int .i64 q.2.1,.int .i64 q.2.2.1,.int .i64 q.2.2.2.1,Qv2])::fs) w' ∧ RepE 57 58 Z' Qv2 q.2.2.2.2) qr):=by
  refine calls_abs ?_; intro R hR
  unfold litmus_reader__must.f at hp0
  refine calls_of_runs (fn:=Tryz.f23) (c:=cd23 []) Tryz.func23 (by kernel_rfl) (al:=[.pointer (some ⟨ba0,0,none⟩),.string a1]) rfl (n:=8) rfl ?_
  refine sR 4 [.inRegion (opsOf (cd23 [0])) [2,3],.code (cd23 [1])] ?_
  obtain ⟨q12,hr10,hp11⟩:=bind_some' hp0
  have hS17:=hS0.pick2
  have hS18:=hS17.pick2
  have hS19:=hS18.pick2
  refine rCB (litmus_reader__is.ok y7 y8 y9 y10 y11 y1 y2 y3 y4 y12 y13 y14 a1 ba0 y15 y16 y17 y18 y19 y20 y21 y22 y23 y24 y25 y26 y27 y28 y29 y30 y31 y32 y33 y34 y35 y36 hS19 y37 y38 y39 y40 y41 y42 y43 y44 y45 y46 hr10) ?_
  intro e16 w15 hQ14
  rcases q12 with pe13 | ⟨t1,t2,t3,t4,t5,t6⟩
  all_goals try dsimp only at hp11
  ·obtain ⟨v20,Z21,hz22,rfl,hS23,he24⟩:=hQ14
   refine .inr ⟨_,rfl,?_⟩
   refine raised_fx Tryz.func23 ?_
   cases Option.some.inj hp11
   exact hR _ _ (panq_l ⟨v20,Z21,hz22,rfl,hS23,he24⟩)
  obtain ⟨Q7,Q8,Q9,Z30,hz31,rfl,hS29,hs32⟩:=hQ14
  try dsimp only at hS29 hs32
  refine .inl ⟨_,rfl,?_⟩
  refine sS 1 [.inRegion (opsOf (cd23 [0])) [],.code (cd23 [1])] 7 (!t1) (fun h33 => ?_) fun h34 => ?_
  ·have hp35:=ite_t hp11 h33
   refine sR 4 [.inRegion (opsOf (cd23 [1,0])) [1]] ?_
   obtain ⟨q38,hr36,hp37⟩:=bind_some' hp35
   have hS43:=hS29.pick2
   have hS44:=hS43.pick2
   refine rCB (litmus_reader__syntax.ok y7 t3 t4 t5 t6 t2 y2 y3 y4 y12 y13 y14 ba0 y15 Q9 Q7 Q8 y19 y20 y21 y22 y23 y24 y25 y26 y27 y28 y29 y30 y31 y32 y33 y34 y35 y36 hS44 hs32 (y38.up hz31) (SlZ.mono (mono_repL (mono_flat _)) y39 hz31) (y40.up hz31) (y41.up hz31) (y42.up hz31) (y43.up hz31) (SlZ.mono (mono_repL (mono_flat _)) y44 hz31) (y45.up hz31) (y46.up hz31) hr36) ?_
   intro e42 w41 hQ40
   rcases q38 with pe39 | _
   all_goals try dsimp only at hp37
   ·obtain ⟨v45,Z46,hz47,rfl,hS48,he49⟩:=hQ40
    refine .inr ⟨_,rfl,?_⟩
    refine raised_fx Tryz.func23 ?_
    cases Option.some.inj hp37
    exact hR _ _ (panq_l ⟨v45,Z46,(Zm.Le.trans hz31 hz47),rfl,hS48,he49⟩)
   cases hp37
  have hp52:=ite_f hp11 h34
  refine sR 3 [] ?_
  refine runs_end (fn:=Tryz.f23) (v:=.tuple #[]) Tryz.func23 (by kernel_rfl) ?_
  cases Option.some.inj hp52
  exact hR _ _ (panq_r ⟨Q7,Q8,Q9,Z30,hz31,rfl,hS29,hs32⟩)

noncomputable def cd24 (p : List Nat) : Code := sub (bodyOf Tryz.f24) p
def litmus_reader__name.f (y7 : ByteArray) (y8 : Int) (y9 : Int) (y10 : Int) (y11 : PErr) (y1 : List api_Token) (y2 : api_Test) (y3 : List litmus_place) (y4 : List litmus_place) (y12 : List (List litmus_place)) (y13 : List litmus_place) (y14 : List litmus_place) : Option (Sum PErr (ByteArray × (List api_Token) × Int × Int × Int × PErr)) :=
  (litmus_reader__look.f y7 y8 y9 y10 y11 y1 y2 y3 y4 y12 y13 y14 0 >>= (fun | .inl pe13 => some (.inl pe13) | .inr (t1,t2,t3,t4,t5,t6) => (if (t1.Kind != 1) = true then (litmus_reader__syntax.f y7 t3 t4 t5 t6 t2 y2 y3 y4 y12 y13 y14 >>= (fun | .inl pe39 => some (.inl pe39) | .inr _ => none)) else (litmus_reader__next.f y7 t3 t4 t5 t6 t2 y2 y3 y4 y12 y13 y14 >>= (fun | .inl pe65 => some (.inl pe65) | .inr (t53,t54,t55,t56,t57,t58) => some (.inr (t53.Text,t54,t55,t56,t57,t58)))))))
set_option maxHeartbeats 16000000 in
theorem litmus_reader__name.ok (y7 : ByteArray) (y8 : Int) (y9 : Int) (y10 : Int) (y11 : PErr) (y1 : List api_Token) (y2 : api_Test) (y3 : List litmus_place) (y4 : List litmus_place) (y12 : List (List litmus_place)) (y13 : List litmus_place) (y14 : List litmus_place) (ba0 : Nat) (y15 : Nat) (y16 : Value) (y17 : Option Addr) (y18 : Nat) (y19 : Option Addr) (y20 : Nat) (y21 : Option Addr) (y22 : Nat) (y23 : Option Addr) (y24 : Nat) (y25 : Option Addr) (y26 : Nat) (y27 : Option Addr) (y28 : Nat) (y29 : Option Addr) (y30 : Nat) (y31 : Option Addr) (y32 : Nat) (y33 : Option Addr) (y34 : Nat) (y35 : Option Addr) (y36 : Nat) {w0 : World} {Z : Zm} {fs : List XObj} {w : World} (hS0 : St w0 Z (xblk ba0 70 ([.pointer (some ⟨y15,0,none⟩),.slice y17 y1.length y18,.string y2.Name,.string y2.Doc,.slice y19 y2.Inits.length y20,.slice y21 y2.Threads.length y22,.slice y23 y2.Watch.length y24,.int .i64 y2.Quant,.slice y25 y2.Cond.length y26,.slice y27 y3.length y28,.slice y29 y4.length y30,.slice y31 y12.length y32,.slice y33 y13.length y34,.slice y35 y14.length y36,.nilIface])::xblk y15 93 ([.string y7,.int .i64 y8,.int .i64 y9,.int .i64 y10,y16])::xrow y17 y18 39 7 (y1.flatMap enc_api_Token)::fs) w) (y37 : RepE 57 58 Z y16 y11) (y38 : SlZ (flat enc_api_Init) 3 Z y19 y20 y2.Inits) (y39 : SlZ (repL (flat enc_api_Instr) 5) 1 Z y21 y22 y2.Threads) (y40 : SlZ (flat enc_api_Ref) 2 Z y23 y24 y2.Watch) (y41 : SlZ (flat enc_api_Node) 6 Z y25 y26 y2.Cond) (y42 : SlZ (flat enc_litmus_place) 2 Z y27 y28 y3) (y43 : SlZ (flat enc_litmus_place) 2 Z y29 y30 y4) (y44 : SlZ (repL (flat enc_litmus_place) 2) 1 Z y31 y32 y12) (y45 : SlZ (flat enc_litmus_place) 2 Z y33 y34 y13) (y46 : SlZ (flat enc_litmus_place) 2 Z y35 y36 y14) {qr : Sum PErr (ByteArray × (List api_Token) × Int × Int × Int × PErr)} (hp0 : litmus_reader__name.f y7 y8 y9 y10 y11 y1 y2 y3 y4 y12 y13 y14 = some qr) :
    Calls Tryz.prog 24 #[.pointer (some ⟨ba0,0,none⟩)] w (fun e w' => PanQ (fun p => ∃ (v : Value) (Z' : Zm),Zm.Le Z Z' ∧ e = .panicked [{ v:=v,recovered:=false }] ∧ St w0 Z' fs w' ∧ RepE 57 58 Z' v p) (fun q => ∃ (QA0 : Option Addr) (Qc0 : Nat) (Qv2 : Value) (Z' : Zm),Zm.Le Z Z' ∧ e = .returned (.string q.1) ∧ St w0 Z' (xrow QA0 Qc0 39 7 (q.2.1.flatMap enc_api_Token)::xblk ba0 70 ([.pointer (some ⟨y15,0,none⟩),.slice QA0 q.2.1.length Qc0,.string y2.Name,.string y2.Doc,.slice y19 y2.Inits.length y20,.slice y21 y2.Threads.length y22,.slice y23 y2.Watch.length y24,.int .i64 y2.Quant,.slice y25 y2.Cond.length y26,.slice y27 y3.length y28,.slice y29 y4.length y30,.slice y31 y12.length y32,.slice y33 y13.length y34,.slice y35 y14.length y36,.nilIface])::xblk y15 93 ([.string y7,.int .i64 q.2.2.1,.int .i64 q.2.2.2.1,.int .i64 q.2.2.2.2.1,Qv2])::fs) w' ∧ RepE 57 58 Z' Qv2 q.2.2.2.2.2) qr):=by
  refine calls_abs ?_; intro R hR
  unfold litmus_reader__name.f at hp0
  refine calls_of_runs (fn:=Tryz.f24) (c:=cd24 []) Tryz.func24 (by kernel_rfl) (al:=[.pointer (some ⟨ba0,0,none⟩)]) rfl (n:=11) rfl ?_
  refine sR 8 [.inRegion (opsOf (cd24 [1,0,0])) [1,2,3],.code (cd24 [1,0,1]),.code (cd24 [1,1])] ?_
  obtain ⟨q12,hr10,hp11⟩:=bind_some' hp0
  have hS17:=hS0.pick2
  have hS18:=hS17.pick2
  have hS19:=hS18.pick2
  refine rCB (litmus_reader__look.ok y7 y8 y9 y10 y11 y1 y2 y3 y4 y12 y13 y14 0 ba0 y15 y16 y17 y18 y19 y20 y21 y22 y23 y24 y25 y26 y27 y28 y29 y30 y31 y32 y33 y34 y35 y36 hS19 y37 y38 y39 y40 y41 y42 y43 y44 y45 y46 hr10) ?_
  intro e16 w15 hQ14
  rcases q12 with pe13 | ⟨t1,t2,t3,t4,t5,t6⟩
  all_goals try dsimp only at hp11
  ·obtain ⟨v20,Z21,hz22,rfl,hS23,he24⟩:=hQ14
   refine .inr ⟨_,rfl,?_⟩
   refine raised_fx Tryz.func24 ?_
   cases Option.some.inj hp11
   exact hR _ _ (panq_l ⟨v20,Z21,hz22,rfl,hS23,he24⟩)
  obtain ⟨Q7,Q8,Q9,Z30,hz31,rfl,hS29,hs32⟩:=hQ14
  try dsimp only at hS29 hs32
  refine .inl ⟨_,rfl,?_⟩
  refine sS 2 [.inRegion (opsOf (cd24 [1,0,0])) [],.code (cd24 [1,0,1]),.code (cd24 [1,1])] 6 (t1.Kind != 1) (fun h33 => ?_) fun h34 => ?_
  ·have hp35:=ite_t hp11 h33
   refine sR 4 [.inRegion (opsOf (cd24 [1,0,1,0])) [1],.code (cd24 [1,1])] ?_
   obtain ⟨q38,hr36,hp37⟩:=bind_some' hp35
   have hS43:=hS29.pick2
   have hS44:=hS43.pick2
   refine rCB (litmus_reader__syntax.ok y7 t3 t4 t5 t6 t2 y2 y3 y4 y12 y13 y14 ba0 y15 Q9 Q7 Q8 y19 y20 y21 y22 y23 y24 y25 y26 y27 y28 y29 y30 y31 y32 y33 y34 y35 y36 hS44 hs32 (y38.up hz31) (SlZ.mono (mono_repL (mono_flat _)) y39 hz31) (y40.up hz31) (y41.up hz31) (y42.up hz31) (y43.up hz31) (SlZ.mono (mono_repL (mono_flat _)) y44 hz31) (y45.up hz31) (y46.up hz31) hr36) ?_
   intro e42 w41 hQ40
   rcases q38 with pe39 | _
   all_goals try dsimp only at hp37
   ·obtain ⟨v45,Z46,hz47,rfl,hS48,he49⟩:=hQ40
    refine .inr ⟨_,rfl,?_⟩
    refine raised_fx Tryz.func24 ?_
    cases Option.some.inj hp37
    exact hR _ _ (panq_l ⟨v45,Z46,(Zm.Le.trans hz31 hz47),rfl,hS48,he49⟩)
   cases hp37
  have hp52:=ite_f hp11 h34
  refine sR 6 [.inRegion (opsOf (cd24 [1,1,0])) [1,2,3],.code (cd24 [1,1,1])] ?_
  obtain ⟨q64,hr62,hp63⟩:=bind_some' hp52
  have hS69:=hS29.pick2
  have hS70:=hS69.pick2
  refine rCB (litmus_reader__next.ok y7 t3 t4 t5 t6 t2 y2 y3 y4 y12 y13 y14 ba0 y15 Q9 Q7 Q8 y19 y20 y21 y22 y23 y24 y25 y26 y27 y28 y29 y30 y31 y32 y33 y34 y35 y36 hS70 hs32 (y38.up hz31) (SlZ.mono (mono_repL (mono_flat _)) y39 hz31) (y40.up hz31) (y41.up hz31) (y42.up hz31) (y43.up hz31) (SlZ.mono (mono_repL (mono_flat _)) y44 hz31) (y45.up hz31) (y46.up hz31) hr62) ?_
  intro e68 w67 hQ66
  rcases q64 with pe65 | ⟨t53,t54,t55,t56,t57,t58⟩
  all_goals try dsimp only at hp63
  ·obtain ⟨v71,Z72,hz73,rfl,hS74,he75⟩:=hQ66
   refine .inr ⟨_,rfl,?_⟩
   refine raised_fx Tryz.func24 ?_
   cases Option.some.inj hp63
   exact hR _ _ (panq_l ⟨v71,Z72,(Zm.Le.trans hz31 hz73),rfl,hS74,he75⟩)
  obtain ⟨Q59,Q60,Q61,Z81,hz82,rfl,hS80,hs83⟩:=hQ66
  try dsimp only at hS80 hs83
  refine .inl ⟨_,rfl,?_⟩
  refine sR 3 [.code (cd24 [1,1,1])] ?_
  refine rR (.string t53.Text) Tryz.func24 ?_
  cases Option.some.inj hp63
  exact hR _ _ (panq_r ⟨Q59,Q60,Q61,Z81,(Zm.Le.trans hz31 hz82),rfl,hS80,hs83⟩)

noncomputable def cd22 (p : List Nat) : Code := sub (bodyOf Tryz.f22) p
def litmus_reader__bracketed.f (y7 : ByteArray) (y8 : Int) (y9 : Int) (y10 : Int) (y11 : PErr) (y1 : List api_Token) (y2 : api_Test) (y3 : List litmus_place) (y4 : List litmus_place) (y12 : List (List litmus_place)) (y13 : List litmus_place) (y14 : List litmus_place) : Option (Sum PErr (ByteArray × (List api_Token) × Int × Int × Int × PErr)) :=
  (litmus_reader__must.f y7 y8 y9 y10 y11 y1 y2 y3 y4 y12 y13 y14 (⟨#[91]⟩ : ByteArray) >>= (fun | .inl pe12 => some (.inl pe12) | .inr (t1,t2,t3,t4,t5) => (litmus_reader__name.f y7 t2 t3 t4 t5 t1 y2 y3 y4 y12 y13 y14 >>= (fun | .inl pe44 => some (.inl pe44) | .inr (t32,t33,t34,t35,t36,t37) => (litmus_reader__must.f y7 t34 t35 t36 t37 t33 y2 y3 y4 y12 y13 y14 (⟨#[93]⟩ : ByteArray) >>= (fun | .inl pe74 => some (.inl pe74) | .inr (t63,t64,t65,t66,t67) => some (.inr (t32,t63,t64,t65,t66,t67))))))))
set_option maxHeartbeats 16000000 in
theorem litmus_reader__bracketed.ok (y7 : ByteArray) (y8 : Int) (y9 : Int) (y10 : Int) (y11 : PErr) (y1 : List api_Token) (y2 : api_Test) (y3 : List litmus_place) (y4 : List litmus_place) (y12 : List (List litmus_place)) (y13 : List litmus_place) (y14 : List litmus_place) (ba0 : Nat) (y15 : Nat) (y16 : Value) (y17 : Option Addr) (y18 : Nat) (y19 : Option Addr) (y20 : Nat) (y21 : Option Addr) (y22 : Nat) (y23 : Option Addr) (y24 : Nat) (y25 : Option Addr) (y26 : Nat) (y27 : Option Addr) (y28 : Nat) (y29 : Option Addr) (y30 : Nat) (y31 : Option Addr) (y32 : Nat) (y33 : Option Addr) (y34 : Nat) (y35 : Option Addr) (y36 : Nat) {w0 : World} {Z : Zm} {fs : List XObj} {w : World} (hS0 : St w0 Z (xblk ba0 70 ([.pointer (some ⟨y15,0,none⟩),.slice y17 y1.length y18,.string y2.Name,.string y2.Doc,.slice y19 y2.Inits.length y20,.slice y21 y2.Threads.length y22,.slice y23 y2.Watch.length y24,.int .i64 y2.Quant,.slice y25 y2.Cond.length y26,.slice y27 y3.length y28,.slice y29 y4.length y30,.slice y31 y12.length y32,.slice y33 y13.length y34,.slice y35 y14.length y36,.nilIface])::xblk y15 93 ([.string y7,.int .i64 y8,.int .i64 y9,.int .i64 y10,y16])::xrow y17 y18 39 7 (y1.flatMap enc_api_Token)::fs) w) (y37 : RepE 57 58 Z y16 y11) (y38 : SlZ (flat enc_api_Init) 3 Z y19 y20 y2.Inits) (y39 : SlZ (repL (flat enc_api_Instr) 5) 1 Z y21 y22 y2.Threads) (y40 : SlZ (flat enc_api_Ref) 2 Z y23 y24 y2.Watch) (y41 : SlZ (flat enc_api_Node) 6 Z y25 y26 y2.Cond) (y42 : SlZ (flat enc_litmus_place) 2 Z y27 y28 y3) (y43 : SlZ (flat enc_litmus_place) 2 Z y29 y30 y4) (y44 : SlZ (repL (flat enc_litmus_place) 2) 1 Z y31 y32 y12) (y45 : SlZ (flat enc_litmus_place) 2 Z y33 y34 y13) (y46 : SlZ (flat enc_litmus_place) 2 Z y35 y36 y14) {qr : Sum PErr (ByteArray × (List api_Token) × Int × Int × Int × PErr)} (hp0 : litmus_reader__bracketed.f y7 y8 y9 y10 y11 y1 y2 y3 y4 y12 y13 y14 = some qr) :
    Calls Tryz.prog 22 #[.pointer (some ⟨ba0,0,none⟩)] w (fun e w' => PanQ (fun p => ∃ (v : Value) (Z' : Zm),Zm.Le Z Z' ∧ e = .panicked [{ v:=v,recovered:=false }] ∧ St w0 Z' fs w' ∧ RepE 57 58 Z' v p) (fun q => ∃ (QA0 : Option Addr) (Qc0 : Nat) (Qv2 : Value) (Z' : Zm),Zm.Le Z Z' ∧ e = .returned (.string q.1) ∧ St w0 Z' (xrow QA0 Qc0 39 7 (q.2.1.flatMap enc_api_Token)::xblk ba0 70 ([.pointer (some ⟨y15,0,none⟩),.slice QA0 q.2.1.length Qc0,.string y2.Name,.string y2.Doc,.slice y19 y2.Inits.length y20,.slice y21 y2.Threads.length y22,.slice y23 y2.Watch.length y24,.int .i64 y2.Quant,.slice y25 y2.Cond.length y26,.slice y27 y3.length y28,.slice y29 y4.length y30,.slice y31 y12.length y32,.slice y33 y13.length y34,.slice y35 y14.length y36,.nilIface])::xblk y15 93 ([.string y7,.int .i64 q.2.2.1,.int .i64 q.2.2.2.1,.int .i64 q.2.2.2.2.1,Qv2])::fs) w' ∧ RepE 57 58 Z' Qv2 q.2.2.2.2.2) qr):=by
  refine calls_abs ?_; intro R hR
  unfold litmus_reader__bracketed.f at hp0
  refine calls_of_runs (fn:=Tryz.f22) (c:=cd22 []) Tryz.func22 (by kernel_rfl) (al:=[.pointer (some ⟨ba0,0,none⟩)]) rfl (n:=10) rfl ?_
  refine sR 7 [.inRegion (opsOf (cd22 [1,0])) [1],.code (cd22 [1,1])] ?_
  obtain ⟨q11,hr9,hp10⟩:=bind_some' hp0
  have hS16:=hS0.pick2
  have hS17:=hS16.pick2
  have hS18:=hS17.pick2
  refine rCB (litmus_reader__must.ok y7 y8 y9 y10 y11 y1 y2 y3 y4 y12 y13 y14 (⟨#[91]⟩ : ByteArray) ba0 y15 y16 y17 y18 y19 y20 y21 y22 y23 y24 y25 y26 y27 y28 y29 y30 y31 y32 y33 y34 y35 y36 hS18 y37 y38 y39 y40 y41 y42 y43 y44 y45 y46 hr9) ?_
  intro e15 w14 hQ13
  rcases q11 with pe12 | ⟨t1,t2,t3,t4,t5⟩
  all_goals try dsimp only at hp10
  ·obtain ⟨v19,Z20,hz21,rfl,hS22,he23⟩:=hQ13
   refine .inr ⟨_,rfl,?_⟩
   refine raised_fx Tryz.func22 ?_
   cases Option.some.inj hp10
   exact hR _ _ (panq_l ⟨v19,Z20,hz21,rfl,hS22,he23⟩)
  obtain ⟨Q6,Q7,Q8,Z29,hz30,rfl,hS28,hs31⟩:=hQ13
  try dsimp only at hS28 hs31
  refine .inl ⟨_,rfl,?_⟩
  refine sR 4 [.inRegion (opsOf (cd22 [1,1,0])) [1,2],.code (cd22 [1,1,1])] ?_
  obtain ⟨q43,hr41,hp42⟩:=bind_some' hp10
  have hS48:=hS28.pick2
  have hS49:=hS48.pick2
  refine rCB (litmus_reader__name.ok y7 t2 t3 t4 t5 t1 y2 y3 y4 y12 y13 y14 ba0 y15 Q8 Q6 Q7 y19 y20 y21 y22 y23 y24 y25 y26 y27 y28 y29 y30 y31 y32 y33 y34 y35 y36 hS49 hs31 (y38.up hz30) (SlZ.mono (mono_repL (mono_flat _)) y39 hz30) (y40.up hz30) (y41.up hz30) (y42.up hz30) (y43.up hz30) (SlZ.mono (mono_repL (mono_flat _)) y44 hz30) (y45.up hz30) (y46.up hz30) hr41) ?_
  intro e47 w46 hQ45
  rcases q43 with pe44 | ⟨t32,t33,t34,t35,t36,t37⟩
  all_goals try dsimp only at hp42
  ·obtain ⟨v50,Z51,hz52,rfl,hS53,he54⟩:=hQ45
   refine .inr ⟨_,rfl,?_⟩
   refine raised_fx Tryz.func22 ?_
   cases Option.some.inj hp42
   exact hR _ _ (panq_l ⟨v50,Z51,(Zm.Le.trans hz30 hz52),rfl,hS53,he54⟩)
  obtain ⟨Q38,Q39,Q40,Z60,hz61,rfl,hS59,hs62⟩:=hQ45
  try dsimp only at hS59 hs62
  refine .inl ⟨_,rfl,?_⟩
  refine sR 5 [.inRegion (opsOf (cd22 [1,1,1,0])) [1],.code (cd22 [1,1,1,1])] ?_
  obtain ⟨q73,hr71,hp72⟩:=bind_some' hp42
  have hS78:=hS59.pick2
  have hS79:=hS78.pick2
  refine rCB (litmus_reader__must.ok y7 t34 t35 t36 t37 t33 y2 y3 y4 y12 y13 y14 (⟨#[93]⟩ : ByteArray) ba0 y15 Q40 Q38 Q39 y19 y20 y21 y22 y23 y24 y25 y26 y27 y28 y29 y30 y31 y32 y33 y34 y35 y36 hS79 hs62 (y38.up (Zm.Le.trans hz30 hz61)) (SlZ.mono (mono_repL (mono_flat _)) y39 (Zm.Le.trans hz30 hz61)) (y40.up (Zm.Le.trans hz30 hz61)) (y41.up (Zm.Le.trans hz30 hz61)) (y42.up (Zm.Le.trans hz30 hz61)) (y43.up (Zm.Le.trans hz30 hz61)) (SlZ.mono (mono_repL (mono_flat _)) y44 (Zm.Le.trans hz30 hz61)) (y45.up (Zm.Le.trans hz30 hz61)) (y46.up (Zm.Le.trans hz30 hz61)) hr71) ?_
  intro e77 w76 hQ75
  rcases q73 with pe74 | ⟨t63,t64,t65,t66,t67⟩
  all_goals try dsimp only at hp72
  ·obtain ⟨v80,Z81,hz82,rfl,hS83,he84⟩:=hQ75
   refine .inr ⟨_,rfl,?_⟩
   refine raised_fx Tryz.func22 ?_
   cases Option.some.inj hp72
   exact hR _ _ (panq_l ⟨v80,Z81,(Zm.Le.trans hz30 (Zm.Le.trans hz61 hz82)),rfl,hS83,he84⟩)
  obtain ⟨Q68,Q69,Q70,Z90,hz91,rfl,hS89,hs92⟩:=hQ75
  try dsimp only at hS89 hs92
  refine .inl ⟨_,rfl,?_⟩
  refine sR 6 [.code (cd22 [1,1,1,1,1])] ?_
  refine rR (.string t32) Tryz.func22 ?_
  cases Option.some.inj hp72
  exact hR _ _ (panq_r ⟨Q68,Q69,Q70,Z90,(Zm.Le.trans hz30 (Zm.Le.trans hz61 hz91)),rfl,hS89,hs92⟩)

noncomputable def cd39 (p : List Nat) : Code := sub (bodyOf Tryz.f39) p
def litmus_reader__number.f (y7 : ByteArray) (y8 : Int) (y9 : Int) (y10 : Int) (y11 : PErr) (y1 : List api_Token) (y2 : api_Test) (y3 : List litmus_place) (y4 : List litmus_place) (y12 : List (List litmus_place)) (y13 : List litmus_place) (y14 : List litmus_place) : Option (Sum PErr (Int × (List api_Token) × Int × Int × Int × PErr)) :=
  (litmus_reader__look.f y7 y8 y9 y10 y11 y1 y2 y3 y4 y12 y13 y14 0 >>= (fun | .inl pe13 => some (.inl pe13) | .inr (t1,t2,t3,t4,t5,t6) => (if (t1.Kind != 2) = true then (litmus_reader__syntax.f y7 t3 t4 t5 t6 t2 y2 y3 y4 y12 y13 y14 >>= (fun | .inl pe39 => some (.inl pe39) | .inr _ => none)) else (litmus_reader__next.f y7 t3 t4 t5 t6 t2 y2 y3 y4 y12 y13 y14 >>= (fun | .inl pe65 => some (.inl pe65) | .inr (t53,t54,t55,t56,t57,t58) => some (.inr (t53.Value,t54,t55,t56,t57,t58)))))))
set_option maxHeartbeats 16000000 in
theorem litmus_reader__number.ok (y7 : ByteArray) (y8 : Int) (y9 : Int) (y10 : Int) (y11 : PErr) (y1 : List api_Token) (y2 : api_Test) (y3 : List litmus_place) (y4 : List litmus_place) (y12 : List (List litmus_place)) (y13 : List litmus_place) (y14 : List litmus_place) (ba0 : Nat) (y15 : Nat) (y16 : Value) (y17 : Option Addr) (y18 : Nat) (y19 : Option Addr) (y20 : Nat) (y21 : Option Addr) (y22 : Nat) (y23 : Option Addr) (y24 : Nat) (y25 : Option Addr) (y26 : Nat) (y27 : Option Addr) (y28 : Nat) (y29 : Option Addr) (y30 : Nat) (y31 : Option Addr) (y32 : Nat) (y33 : Option Addr) (y34 : Nat) (y35 : Option Addr) (y36 : Nat) {w0 : World} {Z : Zm} {fs : List XObj} {w : World} (hS0 : St w0 Z (xblk ba0 70 ([.pointer (some ⟨y15,0,none⟩),.slice y17 y1.length y18,.string y2.Name,.string y2.Doc,.slice y19 y2.Inits.length y20,.slice y21 y2.Threads.length y22,.slice y23 y2.Watch.length y24,.int .i64 y2.Quant,.slice y25 y2.Cond.length y26,.slice y27 y3.length y28,.slice y29 y4.length y30,.slice y31 y12.length y32,.slice y33 y13.length y34,.slice y35 y14.length y36,.nilIface])::xblk y15 93 ([.string y7,.int .i64 y8,.int .i64 y9,.int .i64 y10,y16])::xrow y17 y18 39 7 (y1.flatMap enc_api_Token)::fs) w) (y37 : RepE 57 58 Z y16 y11) (y38 : SlZ (flat enc_api_Init) 3 Z y19 y20 y2.Inits) (y39 : SlZ (repL (flat enc_api_Instr) 5) 1 Z y21 y22 y2.Threads) (y40 : SlZ (flat enc_api_Ref) 2 Z y23 y24 y2.Watch) (y41 : SlZ (flat enc_api_Node) 6 Z y25 y26 y2.Cond) (y42 : SlZ (flat enc_litmus_place) 2 Z y27 y28 y3) (y43 : SlZ (flat enc_litmus_place) 2 Z y29 y30 y4) (y44 : SlZ (repL (flat enc_litmus_place) 2) 1 Z y31 y32 y12) (y45 : SlZ (flat enc_litmus_place) 2 Z y33 y34 y13) (y46 : SlZ (flat enc_litmus_place) 2 Z y35 y36 y14) {qr : Sum PErr (Int × (List api_Token) × Int × Int × Int × PErr)} (hp0 : litmus_reader__number.f y7 y8 y9 y10 y11 y1 y2 y3 y4 y12 y13 y14 = some qr) :
    Calls Tryz.prog 39 #[.pointer (some ⟨ba0,0,none⟩)] w (fun e w' => PanQ (fun p => ∃ (v : Value) (Z' : Zm),Zm.Le Z Z' ∧ e = .panicked [{ v:=v,recovered:=false }] ∧ St w0 Z' fs w' ∧ RepE 57 58 Z' v p) (fun q => ∃ (QA0 : Option Addr) (Qc0 : Nat) (Qv2 : Value) (Z' : Zm),Zm.Le Z Z' ∧ e = .returned (.int .i64 q.1) ∧ St w0 Z' (xrow QA0 Qc0 39 7 (q.2.1.flatMap enc_api_Token)::xblk ba0 70 ([.pointer (some ⟨y15,0,none⟩),.slice QA0 q.2.1.length Qc0,.string y2.Name,.string y2.Doc,.slice y19 y2.Inits.length y20,.slice y21 y2.Threads.length y22,.slice y23 y2.Watch.length y24,.int .i64 y2.Quant,.slice y25 y2.Cond.length y26,.slice y27 y3.length y28,.slice y29 y4.length y30,.slice y31 y12.length y32,.slice y33 y13.length y34,.slice y35 y14.length y36,.nilIface])::xblk y15 93 ([.string y7,.int .i64 q.2.2.1,.int .i64 q.2.2.2.1,.int .i64 q.2.2.2.2.1,Qv2])::fs) w' ∧ RepE 57 58 Z' Qv2 q.2.2.2.2.2) qr):=by
  refine calls_abs ?_; intro R hR
  unfold litmus_reader__number.f at hp0
  refine calls_of_runs (fn:=Tryz.f39) (c:=cd39 []) Tryz.func39 (by kernel_rfl) (al:=[.pointer (some ⟨ba0,0,none⟩)]) rfl (n:=11) rfl ?_
  refine sR 8 [.inRegion (opsOf (cd39 [1,0,0])) [1,2,3],.code (cd39 [1,0,1]),.code (cd39 [1,1])] ?_
  obtain ⟨q12,hr10,hp11⟩:=bind_some' hp0
  have hS17:=hS0.pick2
  have hS18:=hS17.pick2
  have hS19:=hS18.pick2
  refine rCB (litmus_reader__look.ok y7 y8 y9 y10 y11 y1 y2 y3 y4 y12 y13 y14 0 ba0 y15 y16 y17 y18 y19 y20 y21 y22 y23 y24 y25 y26 y27 y28 y29 y30 y31 y32 y33 y34 y35 y36 hS19 y37 y38 y39 y40 y41 y42 y43 y44 y45 y46 hr10) ?_
  intro e16 w15 hQ14
  rcases q12 with pe13 | ⟨t1,t2,t3,t4,t5,t6⟩
  all_goals try dsimp only at hp11
  ·obtain ⟨v20,Z21,hz22,rfl,hS23,he24⟩:=hQ14
   refine .inr ⟨_,rfl,?_⟩
   refine raised_fx Tryz.func39 ?_
   cases Option.some.inj hp11
   exact hR _ _ (panq_l ⟨v20,Z21,hz22,rfl,hS23,he24⟩)
  obtain ⟨Q7,Q8,Q9,Z30,hz31,rfl,hS29,hs32⟩:=hQ14
  try dsimp only at hS29 hs32
  refine .inl ⟨_,rfl,?_⟩
  refine sS 2 [.inRegion (opsOf (cd39 [1,0,0])) [],.code (cd39 [1,0,1]),.code (cd39 [1,1])] 6 (t1.Kind != 2) (fun h33 => ?_) fun h34 => ?_
  ·have hp35:=ite_t hp11 h33
   refine sR 4 [.inRegion (opsOf (cd39 [1,0,1,0])) [1],.code (cd39 [1,1])] ?_
   obtain ⟨q38,hr36,hp37⟩:=bind_some' hp35
   have hS43:=hS29.pick2
   have hS44:=hS43.pick2
   refine rCB (litmus_reader__syntax.ok y7 t3 t4 t5 t6 t2 y2 y3 y4 y12 y13 y14 ba0 y15 Q9 Q7 Q8 y19 y20 y21 y22 y23 y24 y25 y26 y27 y28 y29 y30 y31 y32 y33 y34 y35 y36 hS44 hs32 (y38.up hz31) (SlZ.mono (mono_repL (mono_flat _)) y39 hz31) (y40.up hz31) (y41.up hz31) (y42.up hz31) (y43.up hz31) (SlZ.mono (mono_repL (mono_flat _)) y44 hz31) (y45.up hz31) (y46.up hz31) hr36) ?_
   intro e42 w41 hQ40
   rcases q38 with pe39 | _
   all_goals try dsimp only at hp37
   ·obtain ⟨v45,Z46,hz47,rfl,hS48,he49⟩:=hQ40
    refine .inr ⟨_,rfl,?_⟩
    refine raised_fx Tryz.func39 ?_
    cases Option.some.inj hp37
    exact hR _ _ (panq_l ⟨v45,Z46,(Zm.Le.trans hz31 hz47),rfl,hS48,he49⟩)
   cases hp37
  have hp52:=ite_f hp11 h34
  refine sR 6 [.inRegion (opsOf (cd39 [1,1,0])) [1,2,3],.code (cd39 [1,1,1])] ?_
  obtain ⟨q64,hr62,hp63⟩:=bind_some' hp52
  have hS69:=hS29.pick2
  have hS70:=hS69.pick2
  refine rCB (litmus_reader__next.ok y7 t3 t4 t5 t6 t2 y2 y3 y4 y12 y13 y14 ba0 y15 Q9 Q7 Q8 y19 y20 y21 y22 y23 y24 y25 y26 y27 y28 y29 y30 y31 y32 y33 y34 y35 y36 hS70 hs32 (y38.up hz31) (SlZ.mono (mono_repL (mono_flat _)) y39 hz31) (y40.up hz31) (y41.up hz31) (y42.up hz31) (y43.up hz31) (SlZ.mono (mono_repL (mono_flat _)) y44 hz31) (y45.up hz31) (y46.up hz31) hr62) ?_
  intro e68 w67 hQ66
  rcases q64 with pe65 | ⟨t53,t54,t55,t56,t57,t58⟩
  all_goals try dsimp only at hp63
  ·obtain ⟨v71,Z72,hz73,rfl,hS74,he75⟩:=hQ66
   refine .inr ⟨_,rfl,?_⟩
   refine raised_fx Tryz.func39 ?_
   cases Option.some.inj hp63
   exact hR _ _ (panq_l ⟨v71,Z72,(Zm.Le.trans hz31 hz73),rfl,hS74,he75⟩)
  obtain ⟨Q59,Q60,Q61,Z81,hz82,rfl,hS80,hs83⟩:=hQ66
  try dsimp only at hS80 hs83
  refine .inl ⟨_,rfl,?_⟩
  refine sR 3 [.code (cd39 [1,1,1])] ?_
  refine rR (.int .i64 t53.Value) Tryz.func39 ?_
  cases Option.some.inj hp63
  exact hR _ _ (panq_r ⟨Q59,Q60,Q61,Z81,(Zm.Le.trans hz31 hz82),rfl,hS80,hs83⟩)

noncomputable def cd21 (p : List Nat) : Code := sub (bodyOf Tryz.f21) p
abbrev p21_13:=cd21 [1,1,1,1,0,0,1,1,1]
abbrev p21_15:=cd21 [1,1,1,1,1,1]
abbrev p21_16:=cd21 [1,1,1,1,0,0,1,1,1,0,0]
abbrev p21_18:=cd21 [1,1,1,1,0,0,1,0,0]
abbrev p21_29:=cd21 [1,0,1,0,1,1,0,1,0,0]
abbrev td150:List Item:=[.code (cd21 [1,1])]
abbrev td151:List Item:=[.code (cd21 [1,1,1,1,1])]
abbrev td152:List Item:=.inBlock 0::td151
abbrev td153:List Item:=.code (cd21 [1,1,1,1,0,0,1,1,1,0,1])::td152
abbrev td154:List Item:=.code (cd21 [1,1,1,1,0,0,1,0,1])::td152
abbrev td155:List Item:=.code (cd21 [1,0,1,0,1,1,1])::td150
abbrev td156:List Item:=.code (cd21 [1,0,1,0,1,1,1,1])::td150
abbrev td157:List Item:=.code (cd21 [1,0,1,0,1,1,0,1,0,1])::td155
def litmus_reader__mov.f (y7 : ByteArray) (y8 : Int) (y9 : Int) (y10 : Int) (y11 : PErr) (y1 : List api_Token) (y2 : api_Test) (y3 : List litmus_place) (y4 : List litmus_place) (y12 : List (List litmus_place)) (y13 : List litmus_place) (y14 : List litmus_place) : Option (Sum PErr (api_Instr × (List api_Token) × Int × Int × Int × PErr)) :=
  (litmus_reader__sees.f y7 y8 y9 y10 y11 y1 y2 y3 y4 y12 y13 y14 (⟨#[91]⟩ : ByteArray) >>= (fun | .inl pe17 => some (.inl pe17) | .inr (t5,t6,t7,t8,t9,t10) => (if t5 = true then (litmus_reader__bracketed.f y7 t7 t8 t9 t10 t6 y2 y3 y4 y12 y13 y14 >>= (fun | .inl pe294 => some (.inl pe294) | .inr (t282,t283,t284,t285,t286,t287) => (litmus_reader__must.f y7 t284 t285 t286 t287 t283 y2 y3 y4 y12 y13 y14 (⟨#[44]⟩ : ByteArray) >>= (fun | .inl pe325 => some (.inl pe325) | .inr (t314,t315,t316,t317,t318) => (litmus_reader__is.f y7 t315 t316 t317 t318 t314 y2 y3 y4 y12 y13 y14 (⟨#[36]⟩ : ByteArray) >>= (fun | .inl pe357 => some (.inl pe357) | .inr (t345,t346,t347,t348,t349,t350) => (if t345 = true then (litmus_reader__number.f y7 t347 t348 t349 t350 t346 y2 y3 y4 y12 y13 y14 >>= (fun | .inl pe428 => some (.inl pe428) | .inr (t416,t417,t418,t419,t420,t421) => some (.inr ((⟨4,(⟨#[]⟩ : ByteArray),(⟨#[]⟩ : ByteArray),t282,t416⟩ : api_Instr),t417,t418,t419,t420,t421)))) else (litmus_reader__name.f y7 t347 t348 t349 t350 t346 y2 y3 y4 y12 y13 y14 >>= (fun | .inl pe390 => some (.inl pe390) | .inr (t378,t379,t380,t381,t382,t383) => some (.inr ((⟨5,(⟨#[]⟩ : ByteArray),t378,t282,0⟩ : api_Instr),t379,t380,t381,t382,t383))))))))))) else (litmus_reader__name.f y7 t7 t8 t9 t10 t6 y2 y3 y4 y12 y13 y14 >>= (fun | .inl pe51 => some (.inl pe51) | .inr (t39,t40,t41,t42,t43,t44) => (litmus_reader__must.f y7 t41 t42 t43 t44 t40 y2 y3 y4 y12 y13 y14 (⟨#[44]⟩ : ByteArray) >>= (fun | .inl pe82 => some (.inl pe82) | .inr (t71,t72,t73,t74,t75) => (litmus_reader__is.f y7 t72 t73 t74 t75 t71 y2 y3 y4 y12 y13 y14 (⟨#[36]⟩ : ByteArray) >>= (fun | .inl pe114 => some (.inl pe114) | .inr (t102,t103,t104,t105,t106,t107) => (if t102 = true then (litmus_reader__number.f y7 t104 t105 t106 t107 t103 y2 y3 y4 y12 y13 y14 >>= (fun | .inl pe256 => some (.inl pe256) | .inr (t244,t245,t246,t247,t248,t249) => some (.inr ((⟨1,t39,(⟨#[]⟩ : ByteArray),(⟨#[]⟩ : ByteArray),t244⟩ : api_Instr),t245,t246,t247,t248,t249)))) else (litmus_reader__sees.f y7 t104 t105 t106 t107 t103 y2 y3 y4 y12 y13 y14 (⟨#[91]⟩ : ByteArray) >>= (fun | .inl pe147 => some (.inl pe147) | .inr (t135,t136,t137,t138,t139,t140) => (if t135 = true then (litmus_reader__bracketed.f y7 t137 t138 t139 t140 t136 y2 y3 y4 y12 y13 y14 >>= (fun | .inl pe218 => some (.inl pe218) | .inr (t206,t207,t208,t209,t210,t211) => some (.inr ((⟨3,t39,(⟨#[]⟩ : ByteArray),t206,0⟩ : api_Instr),t207,t208,t209,t210,t211)))) else (litmus_reader__name.f y7 t137 t138 t139 t140 t136 y2 y3 y4 y12 y13 y14 >>= (fun | .inl pe180 => some (.inl pe180) | .inr (t168,t169,t170,t171,t172,t173) => some (.inr ((⟨2,t39,t168,(⟨#[]⟩ : ByteArray),0⟩ : api_Instr),t169,t170,t171,t172,t173)))))))))))))))))
set_option maxHeartbeats 16000000 in
theorem litmus_reader__mov.ok (y7 : ByteArray) (y8 : Int) (y9 : Int) (y10 : Int) (y11 : PErr) (y1 : List api_Token) (y2 : api_Test) (y3 : List litmus_place) (y4 : List litmus_place) (y12 : List (List litmus_place)) (y13 : List litmus_place) (y14 : List litmus_place) (ba0 : Nat) (y15 : Nat) (y16 : Value) (y17 : Option Addr) (y18 : Nat) (y19 : Option Addr) (y20 : Nat) (y21 : Option Addr) (y22 : Nat) (y23 : Option Addr) (y24 : Nat) (y25 : Option Addr) (y26 : Nat) (y27 : Option Addr) (y28 : Nat) (y29 : Option Addr) (y30 : Nat) (y31 : Option Addr) (y32 : Nat) (y33 : Option Addr) (y34 : Nat) (y35 : Option Addr) (y36 : Nat) {w0 : World} {Z : Zm} {fs : List XObj} {w : World} (hS0 : St w0 Z (xblk ba0 70 ([.pointer (some ⟨y15,0,none⟩),.slice y17 y1.length y18,.string y2.Name,.string y2.Doc,.slice y19 y2.Inits.length y20,.slice y21 y2.Threads.length y22,.slice y23 y2.Watch.length y24,.int .i64 y2.Quant,.slice y25 y2.Cond.length y26,.slice y27 y3.length y28,.slice y29 y4.length y30,.slice y31 y12.length y32,.slice y33 y13.length y34,.slice y35 y14.length y36,.nilIface])::xblk y15 93 ([.string y7,.int .i64 y8,.int .i64 y9,.int .i64 y10,y16])::xrow y17 y18 39 7 (y1.flatMap enc_api_Token)::fs) w) (y37 : RepE 57 58 Z y16 y11) (y38 : SlZ (flat enc_api_Init) 3 Z y19 y20 y2.Inits) (y39 : SlZ (repL (flat enc_api_Instr) 5) 1 Z y21 y22 y2.Threads) (y40 : SlZ (flat enc_api_Ref) 2 Z y23 y24 y2.Watch) (y41 : SlZ (flat enc_api_Node) 6 Z y25 y26 y2.Cond) (y42 : SlZ (flat enc_litmus_place) 2 Z y27 y28 y3) (y43 : SlZ (flat enc_litmus_place) 2 Z y29 y30 y4) (y44 : SlZ (repL (flat enc_litmus_place) 2) 1 Z y31 y32 y12) (y45 : SlZ (flat enc_litmus_place) 2 Z y33 y34 y13) (y46 : SlZ (flat enc_litmus_place) 2 Z y35 y36 y14) {qr : Sum PErr (api_Instr × (List api_Token) × Int × Int × Int × PErr)} (hp0 : litmus_reader__mov.f y7 y8 y9 y10 y11 y1 y2 y3 y4 y12 y13 y14 = some qr) :
    Calls Tryz.prog 21 #[.pointer (some ⟨ba0,0,none⟩)] w (fun e w' => PanQ (fun p => ∃ (v : Value) (Z' : Zm),Zm.Le Z Z' ∧ e = .panicked [{ v:=v,recovered:=false }] ∧ St w0 Z' fs w' ∧ RepE 57 58 Z' v p) (fun q => ∃ (QA0 : Option Addr) (Qc0 : Nat) (Qv2 : Value) (Z' : Zm),Zm.Le Z Z' ∧ e = .returned (.agg (enc_api_Instr q.1).toArray) ∧ St w0 Z' (xrow QA0 Qc0 39 7 (q.2.1.flatMap enc_api_Token)::xblk ba0 70 ([.pointer (some ⟨y15,0,none⟩),.slice QA0 q.2.1.length Qc0,.string y2.Name,.string y2.Doc,.slice y19 y2.Inits.length y20,.slice y21 y2.Threads.length y22,.slice y23 y2.Watch.length y24,.int .i64 y2.Quant,.slice y25 y2.Cond.length y26,.slice y27 y3.length y28,.slice y29 y4.length y30,.slice y31 y12.length y32,.slice y33 y13.length y34,.slice y35 y14.length y36,.nilIface])::xblk y15 93 ([.string y7,.int .i64 q.2.2.1,.int .i64 q.2.2.2.1,.int .i64 q.2.2.2.2.1,Qv2])::fs) w' ∧ RepE 57 58 Z' Qv2 q.2.2.2.2.2) qr):=by
  refine calls_abs ?_; intro R hR
  unfold litmus_reader__mov.f at hp0
  refine calls_of_runs (fn:=Tryz.f21) (c:=cd21 []) Tryz.func21 (by kernel_rfl) (al:=[.pointer (some ⟨ba0,0,none⟩)]) rfl (n:=42) rfl ?_
  refine sR 2 [.inRegion (opsOf (cd21 [0])) [0],.code (cd21 [1])] ?_
  refine rA 23 (.agg (enc_api_Instr (⟨0,(⟨#[]⟩ : ByteArray),(⟨#[]⟩ : ByteArray),(⟨#[]⟩ : ByteArray),0⟩ : api_Instr)).toArray) (enc_api_Instr (⟨0,(⟨#[]⟩ : ByteArray),(⟨#[]⟩ : ByteArray),(⟨#[]⟩ : ByteArray),0⟩ : api_Instr)) hS0 ?_
  intro b1 w2 hS3
  refine sR 5 (.inRegion (opsOf (cd21 [1,0,0])) [1]::.code (cd21 [1,0,1])::td150) ?_
  obtain ⟨q16,hr14,hp15⟩:=bind_some' hp0
  have hS21:=hS3.pick3
  have hS22:=hS21.pick3
  have hS23:=hS22.pick3
  refine rCB (litmus_reader__sees.ok y7 y8 y9 y10 y11 y1 y2 y3 y4 y12 y13 y14 (⟨#[91]⟩ : ByteArray) ba0 y15 y16 y17 y18 y19 y20 y21 y22 y23 y24 y25 y26 y27 y28 y29 y30 y31 y32 y33 y34 y35 y36 hS23 y37 y38 y39 y40 y41 y42 y43 y44 y45 y46 hr14) ?_
  intro e20 w19 hQ18
  rcases q16 with pe17 | ⟨t5,t6,t7,t8,t9,t10⟩
  all_goals try dsimp only at hp15
  ·obtain ⟨v24,Z25,hz26,rfl,hS27,he28⟩:=hQ18
   refine .inr ⟨_,rfl,?_⟩
   have hS30:=hS27.drop
   refine raised_fx Tryz.func21 ?_
   cases Option.some.inj hp15
   exact hR _ _ (panq_l ⟨v24,Z25,hz26,rfl,hS30,he28⟩)
  obtain ⟨Q11,Q12,Q13,Z35,hz36,rfl,hS34,hs37⟩:=hQ18
  try dsimp only at hS34 hs37
  refine .inl ⟨_,rfl,?_⟩
  refine sR 1 (.code (cd21 [1,0,1])::td150) ?_
  cases t5
  ·have hp38:=ite_f hp15 rfl
   refine sR 5 [.inRegion (opsOf (cd21 [1,1,0])) [1,2],.code (cd21 [1,1,1])] ?_
   obtain ⟨q50,hr48,hp49⟩:=bind_some' hp38
   have hS55:=hS34.pick2
   have hS56:=hS55.pick2
   refine rCB (litmus_reader__name.ok y7 t7 t8 t9 t10 t6 y2 y3 y4 y12 y13 y14 ba0 y15 Q13 Q11 Q12 y19 y20 y21 y22 y23 y24 y25 y26 y27 y28 y29 y30 y31 y32 y33 y34 y35 y36 hS56 hs37 (y38.up hz36) (SlZ.mono (mono_repL (mono_flat _)) y39 hz36) (y40.up hz36) (y41.up hz36) (y42.up hz36) (y43.up hz36) (SlZ.mono (mono_repL (mono_flat _)) y44 hz36) (y45.up hz36) (y46.up hz36) hr48) ?_
   intro e54 w53 hQ52
   rcases q50 with pe51 | ⟨t39,t40,t41,t42,t43,t44⟩
   all_goals try dsimp only at hp49
   ·obtain ⟨v57,Z58,hz59,rfl,hS60,he61⟩:=hQ52
    refine .inr ⟨_,rfl,?_⟩
    have hS63:=hS60.drop
    refine raised_fx Tryz.func21 ?_
    cases Option.some.inj hp49
    exact hR _ _ (panq_l ⟨v57,Z58,(Zm.Le.trans hz36 hz59),rfl,hS63,he61⟩)
   obtain ⟨Q45,Q46,Q47,Z68,hz69,rfl,hS67,hs70⟩:=hQ52
   try dsimp only at hS67 hs70
   refine .inl ⟨_,rfl,?_⟩
   refine sR 5 [.inRegion (opsOf (cd21 [1,1,1,0])) [1],.code (cd21 [1,1,1,1])] ?_
   obtain ⟨q81,hr79,hp80⟩:=bind_some' hp49
   have hS86:=hS67.pick2
   have hS87:=hS86.pick2
   refine rCB (litmus_reader__must.ok y7 t41 t42 t43 t44 t40 y2 y3 y4 y12 y13 y14 (⟨#[44]⟩ : ByteArray) ba0 y15 Q47 Q45 Q46 y19 y20 y21 y22 y23 y24 y25 y26 y27 y28 y29 y30 y31 y32 y33 y34 y35 y36 hS87 hs70 (y38.up (Zm.Le.trans hz36 hz69)) (SlZ.mono (mono_repL (mono_flat _)) y39 (Zm.Le.trans hz36 hz69)) (y40.up (Zm.Le.trans hz36 hz69)) (y41.up (Zm.Le.trans hz36 hz69)) (y42.up (Zm.Le.trans hz36 hz69)) (y43.up (Zm.Le.trans hz36 hz69)) (SlZ.mono (mono_repL (mono_flat _)) y44 (Zm.Le.trans hz36 hz69)) (y45.up (Zm.Le.trans hz36 hz69)) (y46.up (Zm.Le.trans hz36 hz69)) hr79) ?_
   intro e85 w84 hQ83
   rcases q81 with pe82 | ⟨t71,t72,t73,t74,t75⟩
   all_goals try dsimp only at hp80
   ·obtain ⟨v88,Z89,hz90,rfl,hS91,he92⟩:=hQ83
    refine .inr ⟨_,rfl,?_⟩
    have hS94:=hS91.drop
    refine raised_fx Tryz.func21 ?_
    cases Option.some.inj hp80
    exact hR _ _ (panq_l ⟨v88,Z89,(Zm.Le.trans hz36 (Zm.Le.trans hz69 hz90)),rfl,hS94,he92⟩)
   obtain ⟨Q76,Q77,Q78,Z99,hz100,rfl,hS98,hs101⟩:=hQ83
   try dsimp only at hS98 hs101
   refine .inl ⟨_,rfl,?_⟩
   refine sR 6 (.inRegion (opsOf (cd21 [1,1,1,1,0,0,0])) [1,2]::.code (cd21 [1,1,1,1,0,0,1])::td152) ?_
   obtain ⟨q113,hr111,hp112⟩:=bind_some' hp80
   have hS118:=hS98.pick2
   have hS119:=hS118.pick2
   refine rCB (litmus_reader__is.ok y7 t72 t73 t74 t75 t71 y2 y3 y4 y12 y13 y14 (⟨#[36]⟩ : ByteArray) ba0 y15 Q78 Q76 Q77 y19 y20 y21 y22 y23 y24 y25 y26 y27 y28 y29 y30 y31 y32 y33 y34 y35 y36 hS119 hs101 (y38.up (Zm.Le.trans hz36 (Zm.Le.trans hz69 hz100))) (SlZ.mono (mono_repL (mono_flat _)) y39 (Zm.Le.trans hz36 (Zm.Le.trans hz69 hz100))) (y40.up (Zm.Le.trans hz36 (Zm.Le.trans hz69 hz100))) (y41.up (Zm.Le.trans hz36 (Zm.Le.trans hz69 hz100))) (y42.up (Zm.Le.trans hz36 (Zm.Le.trans hz69 hz100))) (y43.up (Zm.Le.trans hz36 (Zm.Le.trans hz69 hz100))) (SlZ.mono (mono_repL (mono_flat _)) y44 (Zm.Le.trans hz36 (Zm.Le.trans hz69 hz100))) (y45.up (Zm.Le.trans hz36 (Zm.Le.trans hz69 hz100))) (y46.up (Zm.Le.trans hz36 (Zm.Le.trans hz69 hz100))) hr111) ?_
   intro e117 w116 hQ115
   rcases q113 with pe114 | ⟨t102,t103,t104,t105,t106,t107⟩
   all_goals try dsimp only at hp112
   ·obtain ⟨v120,Z121,hz122,rfl,hS123,he124⟩:=hQ115
    refine .inr ⟨_,rfl,?_⟩
    have hS126:=hS123.drop
    refine raised_fx Tryz.func21 ?_
    cases Option.some.inj hp112
    exact hR _ _ (panq_l ⟨v120,Z121,(Zm.Le.trans hz36 (Zm.Le.trans hz69 (Zm.Le.trans hz100 hz122))),rfl,hS126,he124⟩)
   obtain ⟨Q108,Q109,Q110,Z131,hz132,rfl,hS130,hs133⟩:=hQ115
   try dsimp only at hS130 hs133
   refine .inl ⟨_,rfl,?_⟩
   refine sR 2 (.code (cd21 [1,1,1,1,0,0,1])::td152) ?_
   cases t102
   ·have hp134:=ite_f hp112 rfl
    refine sR 4 (.inRegion (opsOf (cd21 [1,1,1,1,0,0,1,1,0])) [1,2]::.code p21_13::td152) ?_
    obtain ⟨q146,hr144,hp145⟩:=bind_some' hp134
    have hS151:=hS130.pick2
    have hS152:=hS151.pick2
    refine rCB (litmus_reader__sees.ok y7 t104 t105 t106 t107 t103 y2 y3 y4 y12 y13 y14 (⟨#[91]⟩ : ByteArray) ba0 y15 Q110 Q108 Q109 y19 y20 y21 y22 y23 y24 y25 y26 y27 y28 y29 y30 y31 y32 y33 y34 y35 y36 hS152 hs133 (y38.up (Zm.Le.trans hz36 (Zm.Le.trans hz69 (Zm.Le.trans hz100 hz132)))) (SlZ.mono (mono_repL (mono_flat _)) y39 (Zm.Le.trans hz36 (Zm.Le.trans hz69 (Zm.Le.trans hz100 hz132)))) (y40.up (Zm.Le.trans hz36 (Zm.Le.trans hz69 (Zm.Le.trans hz100 hz132)))) (y41.up (Zm.Le.trans hz36 (Zm.Le.trans hz69 (Zm.Le.trans hz100 hz132)))) (y42.up (Zm.Le.trans hz36 (Zm.Le.trans hz69 (Zm.Le.trans hz100 hz132)))) (y43.up (Zm.Le.trans hz36 (Zm.Le.trans hz69 (Zm.Le.trans hz100 hz132)))) (SlZ.mono (mono_repL (mono_flat _)) y44 (Zm.Le.trans hz36 (Zm.Le.trans hz69 (Zm.Le.trans hz100 hz132)))) (y45.up (Zm.Le.trans hz36 (Zm.Le.trans hz69 (Zm.Le.trans hz100 hz132)))) (y46.up (Zm.Le.trans hz36 (Zm.Le.trans hz69 (Zm.Le.trans hz100 hz132)))) hr144) ?_
    intro e150 w149 hQ148
    rcases q146 with pe147 | ⟨t135,t136,t137,t138,t139,t140⟩
    all_goals try dsimp only at hp145
    ·obtain ⟨v153,Z154,hz155,rfl,hS156,he157⟩:=hQ148
     refine .inr ⟨_,rfl,?_⟩
     have hS159:=hS156.drop
     refine raised_fx Tryz.func21 ?_
     cases Option.some.inj hp145
     exact hR _ _ (panq_l ⟨v153,Z154,(Zm.Le.trans hz36 (Zm.Le.trans hz69 (Zm.Le.trans hz100 (Zm.Le.trans hz132 hz155)))),rfl,hS159,he157⟩)
    obtain ⟨Q141,Q142,Q143,Z164,hz165,rfl,hS163,hs166⟩:=hQ148
    try dsimp only at hS163 hs166
    refine .inl ⟨_,rfl,?_⟩
    refine sR 2 (.code p21_13::td152) ?_
    cases t135
    ·have hp167:=ite_f hp145 rfl
     refine sR 7 [.inRegion (opsOf (cd21 [1,1,1,1,1,0])) [2,3,4],.code p21_15] ?_
     obtain ⟨q179,hr177,hp178⟩:=bind_some' hp167
     have hS184:=hS163.pick2
     have hS185:=hS184.pick2
     refine rCB (litmus_reader__name.ok y7 t137 t138 t139 t140 t136 y2 y3 y4 y12 y13 y14 ba0 y15 Q143 Q141 Q142 y19 y20 y21 y22 y23 y24 y25 y26 y27 y28 y29 y30 y31 y32 y33 y34 y35 y36 hS185 hs166 (y38.up (Zm.Le.trans hz36 (Zm.Le.trans hz69 (Zm.Le.trans hz100 (Zm.Le.trans hz132 hz165))))) (SlZ.mono (mono_repL (mono_flat _)) y39 (Zm.Le.trans hz36 (Zm.Le.trans hz69 (Zm.Le.trans hz100 (Zm.Le.trans hz132 hz165))))) (y40.up (Zm.Le.trans hz36 (Zm.Le.trans hz69 (Zm.Le.trans hz100 (Zm.Le.trans hz132 hz165))))) (y41.up (Zm.Le.trans hz36 (Zm.Le.trans hz69 (Zm.Le.trans hz100 (Zm.Le.trans hz132 hz165))))) (y42.up (Zm.Le.trans hz36 (Zm.Le.trans hz69 (Zm.Le.trans hz100 (Zm.Le.trans hz132 hz165))))) (y43.up (Zm.Le.trans hz36 (Zm.Le.trans hz69 (Zm.Le.trans hz100 (Zm.Le.trans hz132 hz165))))) (SlZ.mono (mono_repL (mono_flat _)) y44 (Zm.Le.trans hz36 (Zm.Le.trans hz69 (Zm.Le.trans hz100 (Zm.Le.trans hz132 hz165))))) (y45.up (Zm.Le.trans hz36 (Zm.Le.trans hz69 (Zm.Le.trans hz100 (Zm.Le.trans hz132 hz165))))) (y46.up (Zm.Le.trans hz36 (Zm.Le.trans hz69 (Zm.Le.trans hz100 (Zm.Le.trans hz132 hz165))))) hr177) ?_
     intro e183 w182 hQ181
     rcases q179 with pe180 | ⟨t168,t169,t170,t171,t172,t173⟩
     all_goals try dsimp only at hp178
     ·obtain ⟨v186,Z187,hz188,rfl,hS189,he190⟩:=hQ181
      refine .inr ⟨_,rfl,?_⟩
      have hS192:=hS189.drop
      refine raised_fx Tryz.func21 ?_
      cases Option.some.inj hp178
      exact hR _ _ (panq_l ⟨v186,Z187,(Zm.Le.trans hz36 (Zm.Le.trans hz69 (Zm.Le.trans hz100 (Zm.Le.trans hz132 (Zm.Le.trans hz165 hz188))))),rfl,hS192,he190⟩)
     obtain ⟨Q174,Q175,Q176,Z197,hz198,rfl,hS196,hs199⟩:=hQ181
     try dsimp only at hS196 hs199
     refine .inl ⟨_,rfl,?_⟩
     refine sR 1 [.inRegion (opsOf (cd21 [1,1,1,1,1,0])) [4],.code p21_15] ?_
     have hS200:=hS196.pick3
     refine rSA 23 (.tmp 2) (.tmp 42) (enc_api_Instr (⟨2,t39,t168,(⟨#[]⟩ : ByteArray),0⟩ : api_Instr)) hS200 (one_api_Instr _) ?_
     intro w201 hS202
     refine sR 1 [.code p21_15] ?_
     have hS203:=hS202.drop
     refine rRc (.agg (enc_api_Instr (⟨2,t39,t168,(⟨#[]⟩ : ByteArray),0⟩ : api_Instr)).toArray) (.ca 2 23 (hS202.blk 0 rfl) .nil) Tryz.func21 ?_
     cases Option.some.inj hp178
     exact hR _ _ (panq_r ⟨Q174,Q175,Q176,Z197,(Zm.Le.trans hz36 (Zm.Le.trans hz69 (Zm.Le.trans hz100 (Zm.Le.trans hz132 (Zm.Le.trans hz165 hz198))))),rfl,hS203,hs199⟩)
    have hp205:=ite_t hp145 rfl
    refine sR 5 (.inRegion (opsOf p21_16) [2,3,4]::td153) ?_
    obtain ⟨q217,hr215,hp216⟩:=bind_some' hp205
    have hS222:=hS163.pick2
    have hS223:=hS222.pick2
    refine rCB (litmus_reader__bracketed.ok y7 t137 t138 t139 t140 t136 y2 y3 y4 y12 y13 y14 ba0 y15 Q143 Q141 Q142 y19 y20 y21 y22 y23 y24 y25 y26 y27 y28 y29 y30 y31 y32 y33 y34 y35 y36 hS223 hs166 (y38.up (Zm.Le.trans hz36 (Zm.Le.trans hz69 (Zm.Le.trans hz100 (Zm.Le.trans hz132 hz165))))) (SlZ.mono (mono_repL (mono_flat _)) y39 (Zm.Le.trans hz36 (Zm.Le.trans hz69 (Zm.Le.trans hz100 (Zm.Le.trans hz132 hz165))))) (y40.up (Zm.Le.trans hz36 (Zm.Le.trans hz69 (Zm.Le.trans hz100 (Zm.Le.trans hz132 hz165))))) (y41.up (Zm.Le.trans hz36 (Zm.Le.trans hz69 (Zm.Le.trans hz100 (Zm.Le.trans hz132 hz165))))) (y42.up (Zm.Le.trans hz36 (Zm.Le.trans hz69 (Zm.Le.trans hz100 (Zm.Le.trans hz132 hz165))))) (y43.up (Zm.Le.trans hz36 (Zm.Le.trans hz69 (Zm.Le.trans hz100 (Zm.Le.trans hz132 hz165))))) (SlZ.mono (mono_repL (mono_flat _)) y44 (Zm.Le.trans hz36 (Zm.Le.trans hz69 (Zm.Le.trans hz100 (Zm.Le.trans hz132 hz165))))) (y45.up (Zm.Le.trans hz36 (Zm.Le.trans hz69 (Zm.Le.trans hz100 (Zm.Le.trans hz132 hz165))))) (y46.up (Zm.Le.trans hz36 (Zm.Le.trans hz69 (Zm.Le.trans hz100 (Zm.Le.trans hz132 hz165))))) hr215) ?_
    intro e221 w220 hQ219
    rcases q217 with pe218 | ⟨t206,t207,t208,t209,t210,t211⟩
    all_goals try dsimp only at hp216
    ·obtain ⟨v224,Z225,hz226,rfl,hS227,he228⟩:=hQ219
     refine .inr ⟨_,rfl,?_⟩
     have hS230:=hS227.drop
     refine raised_fx Tryz.func21 ?_
     cases Option.some.inj hp216
     exact hR _ _ (panq_l ⟨v224,Z225,(Zm.Le.trans hz36 (Zm.Le.trans hz69 (Zm.Le.trans hz100 (Zm.Le.trans hz132 (Zm.Le.trans hz165 hz226))))),rfl,hS230,he228⟩)
    obtain ⟨Q212,Q213,Q214,Z235,hz236,rfl,hS234,hs237⟩:=hQ219
    try dsimp only at hS234 hs237
    refine .inl ⟨_,rfl,?_⟩
    refine sR 1 (.inRegion (opsOf p21_16) [4]::td153) ?_
    have hS238:=hS234.pick3
    refine rSA 23 (.tmp 2) (.tmp 38) (enc_api_Instr (⟨3,t39,(⟨#[]⟩ : ByteArray),t206,0⟩ : api_Instr)) hS238 (one_api_Instr _) ?_
    intro w239 hS240
    refine sR 1 td153 ?_
    have hS241:=hS240.drop
    refine rRc (.agg (enc_api_Instr (⟨3,t39,(⟨#[]⟩ : ByteArray),t206,0⟩ : api_Instr)).toArray) (.ca 2 23 (hS240.blk 0 rfl) .nil) Tryz.func21 ?_
    cases Option.some.inj hp216
    exact hR _ _ (panq_r ⟨Q212,Q213,Q214,Z235,(Zm.Le.trans hz36 (Zm.Le.trans hz69 (Zm.Le.trans hz100 (Zm.Le.trans hz132 (Zm.Le.trans hz165 hz236))))),rfl,hS241,hs237⟩)
   have hp243:=ite_t hp112 rfl
   refine sR 5 (.inRegion (opsOf p21_18) [2,3,4]::td154) ?_
   obtain ⟨q255,hr253,hp254⟩:=bind_some' hp243
   have hS260:=hS130.pick2
   have hS261:=hS260.pick2
   refine rCB (litmus_reader__number.ok y7 t104 t105 t106 t107 t103 y2 y3 y4 y12 y13 y14 ba0 y15 Q110 Q108 Q109 y19 y20 y21 y22 y23 y24 y25 y26 y27 y28 y29 y30 y31 y32 y33 y34 y35 y36 hS261 hs133 (y38.up (Zm.Le.trans hz36 (Zm.Le.trans hz69 (Zm.Le.trans hz100 hz132)))) (SlZ.mono (mono_repL (mono_flat _)) y39 (Zm.Le.trans hz36 (Zm.Le.trans hz69 (Zm.Le.trans hz100 hz132)))) (y40.up (Zm.Le.trans hz36 (Zm.Le.trans hz69 (Zm.Le.trans hz100 hz132)))) (y41.up (Zm.Le.trans hz36 (Zm.Le.trans hz69 (Zm.Le.trans hz100 hz132)))) (y42.up (Zm.Le.trans hz36 (Zm.Le.trans hz69 (Zm.Le.trans hz100 hz132)))) (y43.up (Zm.Le.trans hz36 (Zm.Le.trans hz69 (Zm.Le.trans hz100 hz132)))) (SlZ.mono (mono_repL (mono_flat _)) y44 (Zm.Le.trans hz36 (Zm.Le.trans hz69 (Zm.Le.trans hz100 hz132)))) (y45.up (Zm.Le.trans hz36 (Zm.Le.trans hz69 (Zm.Le.trans hz100 hz132)))) (y46.up (Zm.Le.trans hz36 (Zm.Le.trans hz69 (Zm.Le.trans hz100 hz132)))) hr253) ?_
   intro e259 w258 hQ257
   rcases q255 with pe256 | ⟨t244,t245,t246,t247,t248,t249⟩
   all_goals try dsimp only at hp254
   ·obtain ⟨v262,Z263,hz264,rfl,hS265,he266⟩:=hQ257
    refine .inr ⟨_,rfl,?_⟩
    have hS268:=hS265.drop
    refine raised_fx Tryz.func21 ?_
    cases Option.some.inj hp254
    exact hR _ _ (panq_l ⟨v262,Z263,(Zm.Le.trans hz36 (Zm.Le.trans hz69 (Zm.Le.trans hz100 (Zm.Le.trans hz132 hz264)))),rfl,hS268,he266⟩)
   obtain ⟨Q250,Q251,Q252,Z273,hz274,rfl,hS272,hs275⟩:=hQ257
   try dsimp only at hS272 hs275
   refine .inl ⟨_,rfl,?_⟩
   refine sR 1 (.inRegion (opsOf p21_18) [4]::td154) ?_
   have hS276:=hS272.pick3
   refine rSA 23 (.tmp 2) (.tmp 31) (enc_api_Instr (⟨1,t39,(⟨#[]⟩ : ByteArray),(⟨#[]⟩ : ByteArray),t244⟩ : api_Instr)) hS276 (one_api_Instr _) ?_
   intro w277 hS278
   refine sR 1 td154 ?_
   have hS279:=hS278.drop
   refine rRc (.agg (enc_api_Instr (⟨1,t39,(⟨#[]⟩ : ByteArray),(⟨#[]⟩ : ByteArray),t244⟩ : api_Instr)).toArray) (.ca 2 23 (hS278.blk 0 rfl) .nil) Tryz.func21 ?_
   cases Option.some.inj hp254
   exact hR _ _ (panq_r ⟨Q250,Q251,Q252,Z273,(Zm.Le.trans hz36 (Zm.Le.trans hz69 (Zm.Le.trans hz100 (Zm.Le.trans hz132 hz274)))),rfl,hS279,hs275⟩)
  have hp281:=ite_t hp15 rfl
  refine sR 4 (.inRegion (opsOf (cd21 [1,0,1,0,0])) [1,2]::.code (cd21 [1,0,1,0,1])::td150) ?_
  obtain ⟨q293,hr291,hp292⟩:=bind_some' hp281
  have hS298:=hS34.pick2
  have hS299:=hS298.pick2
  refine rCB (litmus_reader__bracketed.ok y7 t7 t8 t9 t10 t6 y2 y3 y4 y12 y13 y14 ba0 y15 Q13 Q11 Q12 y19 y20 y21 y22 y23 y24 y25 y26 y27 y28 y29 y30 y31 y32 y33 y34 y35 y36 hS299 hs37 (y38.up hz36) (SlZ.mono (mono_repL (mono_flat _)) y39 hz36) (y40.up hz36) (y41.up hz36) (y42.up hz36) (y43.up hz36) (SlZ.mono (mono_repL (mono_flat _)) y44 hz36) (y45.up hz36) (y46.up hz36) hr291) ?_
  intro e297 w296 hQ295
  rcases q293 with pe294 | ⟨t282,t283,t284,t285,t286,t287⟩
  all_goals try dsimp only at hp292
  ·obtain ⟨v300,Z301,hz302,rfl,hS303,he304⟩:=hQ295
   refine .inr ⟨_,rfl,?_⟩
   have hS306:=hS303.drop
   refine raised_fx Tryz.func21 ?_
   cases Option.some.inj hp292
   exact hR _ _ (panq_l ⟨v300,Z301,(Zm.Le.trans hz36 hz302),rfl,hS306,he304⟩)
  obtain ⟨Q288,Q289,Q290,Z311,hz312,rfl,hS310,hs313⟩:=hQ295
  try dsimp only at hS310 hs313
  refine .inl ⟨_,rfl,?_⟩
  refine sR 5 (.inRegion (opsOf (cd21 [1,0,1,0,1,0])) [1]::.code (cd21 [1,0,1,0,1,1])::td150) ?_
  obtain ⟨q324,hr322,hp323⟩:=bind_some' hp292
  have hS329:=hS310.pick2
  have hS330:=hS329.pick2
  refine rCB (litmus_reader__must.ok y7 t284 t285 t286 t287 t283 y2 y3 y4 y12 y13 y14 (⟨#[44]⟩ : ByteArray) ba0 y15 Q290 Q288 Q289 y19 y20 y21 y22 y23 y24 y25 y26 y27 y28 y29 y30 y31 y32 y33 y34 y35 y36 hS330 hs313 (y38.up (Zm.Le.trans hz36 hz312)) (SlZ.mono (mono_repL (mono_flat _)) y39 (Zm.Le.trans hz36 hz312)) (y40.up (Zm.Le.trans hz36 hz312)) (y41.up (Zm.Le.trans hz36 hz312)) (y42.up (Zm.Le.trans hz36 hz312)) (y43.up (Zm.Le.trans hz36 hz312)) (SlZ.mono (mono_repL (mono_flat _)) y44 (Zm.Le.trans hz36 hz312)) (y45.up (Zm.Le.trans hz36 hz312)) (y46.up (Zm.Le.trans hz36 hz312)) hr322) ?_
  intro e328 w327 hQ326
  rcases q324 with pe325 | ⟨t314,t315,t316,t317,t318⟩
  all_goals try dsimp only at hp323
  ·obtain ⟨v331,Z332,hz333,rfl,hS334,he335⟩:=hQ326
   refine .inr ⟨_,rfl,?_⟩
   have hS337:=hS334.drop
   refine raised_fx Tryz.func21 ?_
   cases Option.some.inj hp323
   exact hR _ _ (panq_l ⟨v331,Z332,(Zm.Le.trans hz36 (Zm.Le.trans hz312 hz333)),rfl,hS337,he335⟩)
  obtain ⟨Q319,Q320,Q321,Z342,hz343,rfl,hS341,hs344⟩:=hQ326
  try dsimp only at hS341 hs344
  refine .inl ⟨_,rfl,?_⟩
  refine sR 5 (.inRegion (opsOf (cd21 [1,0,1,0,1,1,0,0])) [1]::.code (cd21 [1,0,1,0,1,1,0,1])::td155) ?_
  obtain ⟨q356,hr354,hp355⟩:=bind_some' hp323
  have hS361:=hS341.pick2
  have hS362:=hS361.pick2
  refine rCB (litmus_reader__is.ok y7 t315 t316 t317 t318 t314 y2 y3 y4 y12 y13 y14 (⟨#[36]⟩ : ByteArray) ba0 y15 Q321 Q319 Q320 y19 y20 y21 y22 y23 y24 y25 y26 y27 y28 y29 y30 y31 y32 y33 y34 y35 y36 hS362 hs344 (y38.up (Zm.Le.trans hz36 (Zm.Le.trans hz312 hz343))) (SlZ.mono (mono_repL (mono_flat _)) y39 (Zm.Le.trans hz36 (Zm.Le.trans hz312 hz343))) (y40.up (Zm.Le.trans hz36 (Zm.Le.trans hz312 hz343))) (y41.up (Zm.Le.trans hz36 (Zm.Le.trans hz312 hz343))) (y42.up (Zm.Le.trans hz36 (Zm.Le.trans hz312 hz343))) (y43.up (Zm.Le.trans hz36 (Zm.Le.trans hz312 hz343))) (SlZ.mono (mono_repL (mono_flat _)) y44 (Zm.Le.trans hz36 (Zm.Le.trans hz312 hz343))) (y45.up (Zm.Le.trans hz36 (Zm.Le.trans hz312 hz343))) (y46.up (Zm.Le.trans hz36 (Zm.Le.trans hz312 hz343))) hr354) ?_
  intro e360 w359 hQ358
  rcases q356 with pe357 | ⟨t345,t346,t347,t348,t349,t350⟩
  all_goals try dsimp only at hp355
  ·obtain ⟨v363,Z364,hz365,rfl,hS366,he367⟩:=hQ358
   refine .inr ⟨_,rfl,?_⟩
   have hS369:=hS366.drop
   refine raised_fx Tryz.func21 ?_
   cases Option.some.inj hp355
   exact hR _ _ (panq_l ⟨v363,Z364,(Zm.Le.trans hz36 (Zm.Le.trans hz312 (Zm.Le.trans hz343 hz365))),rfl,hS369,he367⟩)
  obtain ⟨Q351,Q352,Q353,Z374,hz375,rfl,hS373,hs376⟩:=hQ358
  try dsimp only at hS373 hs376
  refine .inl ⟨_,rfl,?_⟩
  refine sR 1 (.code (cd21 [1,0,1,0,1,1,0,1])::td155) ?_
  cases t345
  ·have hp377:=ite_f hp355 rfl
   refine sR 6 (.inRegion (opsOf (cd21 [1,0,1,0,1,1,1,0])) [2,3,4]::td156) ?_
   obtain ⟨q389,hr387,hp388⟩:=bind_some' hp377
   have hS394:=hS373.pick2
   have hS395:=hS394.pick2
   refine rCB (litmus_reader__name.ok y7 t347 t348 t349 t350 t346 y2 y3 y4 y12 y13 y14 ba0 y15 Q353 Q351 Q352 y19 y20 y21 y22 y23 y24 y25 y26 y27 y28 y29 y30 y31 y32 y33 y34 y35 y36 hS395 hs376 (y38.up (Zm.Le.trans hz36 (Zm.Le.trans hz312 (Zm.Le.trans hz343 hz375)))) (SlZ.mono (mono_repL (mono_flat _)) y39 (Zm.Le.trans hz36 (Zm.Le.trans hz312 (Zm.Le.trans hz343 hz375)))) (y40.up (Zm.Le.trans hz36 (Zm.Le.trans hz312 (Zm.Le.trans hz343 hz375)))) (y41.up (Zm.Le.trans hz36 (Zm.Le.trans hz312 (Zm.Le.trans hz343 hz375)))) (y42.up (Zm.Le.trans hz36 (Zm.Le.trans hz312 (Zm.Le.trans hz343 hz375)))) (y43.up (Zm.Le.trans hz36 (Zm.Le.trans hz312 (Zm.Le.trans hz343 hz375)))) (SlZ.mono (mono_repL (mono_flat _)) y44 (Zm.Le.trans hz36 (Zm.Le.trans hz312 (Zm.Le.trans hz343 hz375)))) (y45.up (Zm.Le.trans hz36 (Zm.Le.trans hz312 (Zm.Le.trans hz343 hz375)))) (y46.up (Zm.Le.trans hz36 (Zm.Le.trans hz312 (Zm.Le.trans hz343 hz375)))) hr387) ?_
   intro e393 w392 hQ391
   rcases q389 with pe390 | ⟨t378,t379,t380,t381,t382,t383⟩
   all_goals try dsimp only at hp388
   ·obtain ⟨v396,Z397,hz398,rfl,hS399,he400⟩:=hQ391
    refine .inr ⟨_,rfl,?_⟩
    have hS402:=hS399.drop
    refine raised_fx Tryz.func21 ?_
    cases Option.some.inj hp388
    exact hR _ _ (panq_l ⟨v396,Z397,(Zm.Le.trans hz36 (Zm.Le.trans hz312 (Zm.Le.trans hz343 (Zm.Le.trans hz375 hz398)))),rfl,hS402,he400⟩)
   obtain ⟨Q384,Q385,Q386,Z407,hz408,rfl,hS406,hs409⟩:=hQ391
   try dsimp only at hS406 hs409
   refine .inl ⟨_,rfl,?_⟩
   refine sR 1 (.inRegion (opsOf (cd21 [1,0,1,0,1,1,1,0])) [4]::td156) ?_
   have hS410:=hS406.pick3
   refine rSA 23 (.tmp 2) (.tmp 20) (enc_api_Instr (⟨5,(⟨#[]⟩ : ByteArray),t378,t282,0⟩ : api_Instr)) hS410 (one_api_Instr _) ?_
   intro w411 hS412
   refine sR 1 td156 ?_
   have hS413:=hS412.drop
   refine rRc (.agg (enc_api_Instr (⟨5,(⟨#[]⟩ : ByteArray),t378,t282,0⟩ : api_Instr)).toArray) (.ca 2 23 (hS412.blk 0 rfl) .nil) Tryz.func21 ?_
   cases Option.some.inj hp388
   exact hR _ _ (panq_r ⟨Q384,Q385,Q386,Z407,(Zm.Le.trans hz36 (Zm.Le.trans hz312 (Zm.Le.trans hz343 (Zm.Le.trans hz375 hz408)))),rfl,hS413,hs409⟩)
  have hp415:=ite_t hp355 rfl
  refine sR 5 (.inRegion (opsOf p21_29) [2,3,4]::td157) ?_
  obtain ⟨q427,hr425,hp426⟩:=bind_some' hp415
  have hS432:=hS373.pick2
  have hS433:=hS432.pick2
  refine rCB (litmus_reader__number.ok y7 t347 t348 t349 t350 t346 y2 y3 y4 y12 y13 y14 ba0 y15 Q353 Q351 Q352 y19 y20 y21 y22 y23 y24 y25 y26 y27 y28 y29 y30 y31 y32 y33 y34 y35 y36 hS433 hs376 (y38.up (Zm.Le.trans hz36 (Zm.Le.trans hz312 (Zm.Le.trans hz343 hz375)))) (SlZ.mono (mono_repL (mono_flat _)) y39 (Zm.Le.trans hz36 (Zm.Le.trans hz312 (Zm.Le.trans hz343 hz375)))) (y40.up (Zm.Le.trans hz36 (Zm.Le.trans hz312 (Zm.Le.trans hz343 hz375)))) (y41.up (Zm.Le.trans hz36 (Zm.Le.trans hz312 (Zm.Le.trans hz343 hz375)))) (y42.up (Zm.Le.trans hz36 (Zm.Le.trans hz312 (Zm.Le.trans hz343 hz375)))) (y43.up (Zm.Le.trans hz36 (Zm.Le.trans hz312 (Zm.Le.trans hz343 hz375)))) (SlZ.mono (mono_repL (mono_flat _)) y44 (Zm.Le.trans hz36 (Zm.Le.trans hz312 (Zm.Le.trans hz343 hz375)))) (y45.up (Zm.Le.trans hz36 (Zm.Le.trans hz312 (Zm.Le.trans hz343 hz375)))) (y46.up (Zm.Le.trans hz36 (Zm.Le.trans hz312 (Zm.Le.trans hz343 hz375)))) hr425) ?_
  intro e431 w430 hQ429
  rcases q427 with pe428 | ⟨t416,t417,t418,t419,t420,t421⟩
  all_goals try dsimp only at hp426
  ·obtain ⟨v434,Z435,hz436,rfl,hS437,he438⟩:=hQ429
   refine .inr ⟨_,rfl,?_⟩
   have hS440:=hS437.drop
   refine raised_fx Tryz.func21 ?_
   cases Option.some.inj hp426
   exact hR _ _ (panq_l ⟨v434,Z435,(Zm.Le.trans hz36 (Zm.Le.trans hz312 (Zm.Le.trans hz343 (Zm.Le.trans hz375 hz436)))),rfl,hS440,he438⟩)
  obtain ⟨Q422,Q423,Q424,Z445,hz446,rfl,hS444,hs447⟩:=hQ429
  try dsimp only at hS444 hs447
  refine .inl ⟨_,rfl,?_⟩
  refine sR 1 (.inRegion (opsOf p21_29) [4]::td157) ?_
  have hS448:=hS444.pick3
  refine rSA 23 (.tmp 2) (.tmp 16) (enc_api_Instr (⟨4,(⟨#[]⟩ : ByteArray),(⟨#[]⟩ : ByteArray),t282,t416⟩ : api_Instr)) hS448 (one_api_Instr _) ?_
  intro w449 hS450
  refine sR 1 td157 ?_
  have hS451:=hS450.drop
  refine rRc (.agg (enc_api_Instr (⟨4,(⟨#[]⟩ : ByteArray),(⟨#[]⟩ : ByteArray),t282,t416⟩ : api_Instr)).toArray) (.ca 2 23 (hS450.blk 0 rfl) .nil) Tryz.func21 ?_
  cases Option.some.inj hp426
  exact hR _ _ (panq_r ⟨Q422,Q423,Q424,Z445,(Zm.Le.trans hz36 (Zm.Le.trans hz312 (Zm.Le.trans hz343 (Zm.Le.trans hz375 hz446)))),rfl,hS451,hs447⟩)

end
end Go.Proofs.YtkhcbamlhckilaaGreatDoor.K
