/- The walk, part 4: each Go function as a plain Lean function, and that its call answers as that function says. No condition. -/
import Derived.Test.YtkhcbamlhckilaaGreatDoorE
import Derived.Test.YtkhcbamlhckilaaGreatDoorNG
import Derived.Test.YtkhcbamlhckilaaGreatDoorNP
import Derived.Test.YtkhcbamlhckilaaGreatDoorNM
import Derived.Test.YtkhcbamlhckilaaGreatDoorNI
import Derived.Test.YtkhcbamlhckilaaGreatDoorNV
import Derived.Test.YtkhcbamlhckilaaGreatDoorNY
import Derived.Test.YtkhcbamlhckilaaGreatDoorNC
import Derived.Test.YtkhcbamlhckilaaGreatDoorNA
import Derived.Test.YtkhcbamlhckilaaGreatDoorG3
set_option linter.unusedVariables false
set_option linter.unusedSimpArgs false
set_option maxRecDepth 100000
namespace Go.Proofs.YtkhcbamlhckilaaGreatDoor.K
open Go Go.RowKit
noncomputable section
noncomputable def cd69 (p : List Nat) : Code := sub (bodyOf Tryz.f69) p
abbrev p69_9:=cd69 [1,1,0,0,1,1,0]
abbrev p69_11:=cd69 [1,1,0,0,1,1,1,1,0]
abbrev p69_13:=cd69 [1,1,0,0,1,1,1,1,1,0,1,0,0,0]
abbrev p69_15:=cd69 [1,1,0,0,1,1,1,1,1,0,1,1,0,0]
abbrev p69_17:=cd69 [1,1,0,0,1,1,1,1,1,0,1,1,1]
abbrev p69_19:=cd69 [1,1,0,0,1,1,1,1,1,0,1,1,0,1,0,1]
abbrev p69_20:=cd69 [1,1,0,0,1,1,1,1,1,0,1,0,0,0,0,0]
abbrev p69_27:=cd69 [1,1,0,0,1,1,1,1,1,1,1,1]
abbrev p69_29:=cd69 [1,1,0,0,1,1,1,1,1,1,1,0,1,0,1]
abbrev p69_30:=cd69 [1,1,0,0,1,1,1,0,1,0,0,0]
abbrev p69_32:=cd69 [1,1,0,0,1,1,1,0,1,1,0]
abbrev p69_33:=cd69 [1,1,0,0,1,1,1,0,1,1,1]
abbrev p69_34:=cd69 [1,1,0,0,1,1,1,0,1,1,1,0,0]
abbrev p69_35:=cd69 [1,1,0,0,1,1,1,0,1,1,1,0,1]
abbrev p69_36:=cd69 [1,1,0,0,1,1,1,0,1,1,1,1]
abbrev p69_37:=cd69 [1,1,0,0,1,1,1,0,1,1,1,0,1,0,0]
abbrev p69_38:=cd69 [1,1,0,0,1,1,1,0,1,1,1,0,1,0,1]
abbrev p69_40:=cd69 [1,1,0,0,1,1,1,0,1,0,0,0,0,0]
abbrev p69_48:=cd69 [1,1,0,0,1,0,1,0,1,0,1]
abbrev td228:List Item:=[.code (cd69 [1,1,1])]
abbrev td229:List Item:=.inBlock 0::td228
abbrev td230:List Item:=.code (cd69 [1,1,0,0,1,1,1])::td229
abbrev td231:List Item:=.code (cd69 [1,1,0,0,1,1,1,1,1])::td229
abbrev td232:List Item:=.inRegion (opsOf p69_11) [2,3,4]::td231
abbrev td233:List Item:=.inRegion (opsOf p69_11) [4]::td231
abbrev td234:List Item:=.code (cd69 [1,1,0,0,1,1,1,1,1,0,1,1])::td229
abbrev td235:List Item:=.inBlock 3::td234
abbrev td236:List Item:=.inLoop p69_13::td235
abbrev td237:List Item:=.code p69_13::td236
abbrev td238:List Item:=.code p69_17::td229
abbrev td239:List Item:=.code (cd69 [1,1,0,0,1,1,1,1,1,0,1,1,0,1])::td238
abbrev td240:List Item:=iR p69_15 4 6::td239
abbrev td241:List Item:=.code p69_19::td238
abbrev td242:List Item:=.inRegion (opsOf (cd69 [1,1,0,0,1,1,1,1,1,0,1,1,0,1,0,0])) [2,3,4]::td241
abbrev td243:List Item:=.inRegion (opsOf p69_15) [7,8,9]::td239
abbrev td244:List Item:=.inRegion (opsOf p69_15) [9]::td239
abbrev td245:List Item:=.code (cd69 [1,1,0,0,1,1,1,1,1,0,1,0,0,0,1])::td236
abbrev td246:List Item:=.code (cd69 [1,1,0,0,1,1,1,1,1,0,1,0,0,0,0,1])::td245
abbrev td247:List Item:=iR p69_20 4 12::td246
abbrev td248:List Item:=iR p69_20 7 9::td246
abbrev td249:List Item:=iR p69_20 9 7::td246
abbrev td250:List Item:=.inRegion (opsOf p69_20) [13,14,15]::td246
abbrev td251:List Item:=.inRegion (opsOf p69_20) [15]::td246
abbrev td252:List Item:=.code (cd69 [1,1,0,0,1,1,1,1,1,1,1])::td229
abbrev td253:List Item:=.inRegion (opsOf (cd69 [1,1,0,0,1,1,1,1,1,1,0])) [2,3]::td252
abbrev td254:List Item:=.code p69_27::td229
abbrev td255:List Item:=.code (cd69 [1,1,0,0,1,1,1,1,1,1,1,0,1])::td254
abbrev td256:List Item:=.inRegion (opsOf (cd69 [1,1,0,0,1,1,1,1,1,1,1,0,0])) []::td255
abbrev td257:List Item:=.code p69_29::td254
abbrev td258:List Item:=.inRegion (opsOf (cd69 [1,1,0,0,1,1,1,1,1,1,1,0,1,0,0])) [2,3,4]::td257
abbrev td259:List Item:=iR p69_27 6 5::td229
abbrev td260:List Item:=.inRegion (opsOf p69_27) [8,9,10]::td229
abbrev td261:List Item:=.inRegion (opsOf p69_27) [10]::td229
abbrev td262:List Item:=.code (cd69 [1,1,0,0,1,1,1,0,1,1])::td229
abbrev td263:List Item:=.inBlock 1::td262
abbrev td264:List Item:=.inLoop p69_30::td263
abbrev td265:List Item:=.code p69_30::td264
abbrev td266:List Item:=.code p69_36::td229
abbrev td267:List Item:=.code p69_38::td266
abbrev td268:List Item:=.code (cd69 [1,1,0,0,1,1,1,0,1,0,0,0,1])::td264
abbrev td269:List Item:=.code (cd69 [1,1,0,0,1,1,1,0,1,0,0,0,0,1])::td268
abbrev td270:List Item:=.code (cd69 [1,1,0,0,1,0,1,1])::td229
def weirref05_token.l0 (a0 : ByteArray) (t102 : Int) : Option Int :=
  (if (decide (t102 < (a0.size : Int))) = true then (if 0 ≤ t102 ∧ t102 < (a0.size : Int) then (if ((byt a0 t102) != 34) = true then (if 0 ≤ t102 ∧ t102 < (a0.size : Int) then (if ((byt a0 t102) != 10) = true then (weirref05_token.l0 a0 (IntKind.i64.wrap (t102 + 1))) else some (t102)) else none) else some (t102)) else none) else some (t102))
 partial_fixpoint
def weirref05_token.l1 (a0 : ByteArray) (a1 : Int) (t190 : Int) : Option Int :=
  (((if (decide ((IntKind.i64.wrap (a1 + t190)) < (a0.size : Int))) = true then (if 0 ≤ (IntKind.i64.wrap (a1 + t190)) ∧ (IntKind.i64.wrap (a1 + t190)) < (a0.size : Int) then (weirref05_letter.f (byt a0 (IntKind.i64.wrap (a1 + t190))) >>= (fun t214 => (if t214 = true then some (.inl ()) else (if 0 ≤ (IntKind.i64.wrap (a1 + t190)) ∧ (IntKind.i64.wrap (a1 + t190)) < (a0.size : Int) then (weirref05_digit.f (byt a0 (IntKind.i64.wrap (a1 + t190))) >>= (fun t222 => (if t222 = true then some (.inl ()) else (if 0 ≤ (IntKind.i64.wrap (a1 + t190)) ∧ (IntKind.i64.wrap (a1 + t190)) < (a0.size : Int) then (if ((byt a0 (IntKind.i64.wrap (a1 + t190))) == 46) = true then some (.inl ()) else some (.inr (t190))) else none)))) else none)))) else none) else some (.inr (t190))) : Option (Sum Unit Int)) >>= (fun | .inl () => (weirref05_token.l1 a0 a1 (IntKind.i64.wrap (t190 + 1))) | .inr e => some e))
 partial_fixpoint
def weirref05_token.l2 (a0 : ByteArray) (t283 : Int) : Option Int :=
  (if (decide (t283 < (a0.size : Int))) = true then (if 0 ≤ t283 ∧ t283 < (a0.size : Int) then (if ((byt a0 t283) != 34) = true then (if 0 ≤ t283 ∧ t283 < (a0.size : Int) then (if ((byt a0 t283) != 10) = true then (weirref05_token.l2 a0 (IntKind.i64.wrap (t283 + 1))) else some (t283)) else none) else some (t283)) else none) else some (t283))
 partial_fixpoint
def weirref05_token.l3 (a0 : ByteArray) (t378 : Int) : Option Int :=
  (if (decide (t378 < (a0.size : Int))) = true then (if 0 ≤ t378 ∧ t378 < (a0.size : Int) then (if ((byt a0 t378) != 34) = true then (if 0 ≤ t378 ∧ t378 < (a0.size : Int) then (if ((byt a0 t378) != 10) = true then (weirref05_token.l3 a0 (IntKind.i64.wrap (t378 + 1))) else some (t378)) else none) else some (t378)) else none) else some (t378))
 partial_fixpoint
def weirref05_token.l4 (a0 : ByteArray) (a1 : Int) (t466 : Int) : Option Int :=
  (((if (decide ((IntKind.i64.wrap (a1 + t466)) < (a0.size : Int))) = true then (if 0 ≤ (IntKind.i64.wrap (a1 + t466)) ∧ (IntKind.i64.wrap (a1 + t466)) < (a0.size : Int) then (weirref05_letter.f (byt a0 (IntKind.i64.wrap (a1 + t466))) >>= (fun t490 => (if t490 = true then some (.inl ()) else (if 0 ≤ (IntKind.i64.wrap (a1 + t466)) ∧ (IntKind.i64.wrap (a1 + t466)) < (a0.size : Int) then (weirref05_digit.f (byt a0 (IntKind.i64.wrap (a1 + t466))) >>= (fun t498 => (if t498 = true then some (.inl ()) else (if 0 ≤ (IntKind.i64.wrap (a1 + t466)) ∧ (IntKind.i64.wrap (a1 + t466)) < (a0.size : Int) then (if ((byt a0 (IntKind.i64.wrap (a1 + t466))) == 46) = true then some (.inl ()) else some (.inr (t466))) else none)))) else none)))) else none) else some (.inr (t466))) : Option (Sum Unit Int)) >>= (fun | .inl () => (weirref05_token.l4 a0 a1 (IntKind.i64.wrap (t466 + 1))) | .inr e => some e))
 partial_fixpoint
def weirref05_token.f (a0 : ByteArray) (a1 : Int) : Option (api_Token × Int × Int) :=
  (if 0 ≤ a1 ∧ a1 < (a0.size : Int) then (weirref05_letter.f (byt a0 a1) >>= (fun t13 => (((if t13 = true then (weirref05_name.f a0 a1 >>= (fun t515 => (if (decide (t515 > 64)) = true then some (.inr (((⟨0,(⟨#[]⟩ : ByteArray),0,0,0,0,0⟩ : api_Token),1,a1))) else (if 0 ≤ a1 ∧ a1 ≤ (IntKind.i64.wrap (a1 + t515)) ∧ (IntKind.i64.wrap (a1 + t515)) ≤ (a0.size : Int) then some (.inl (⟨1,(a0.extract a1.toNat (IntKind.i64.wrap (a1 + t515)).toNat),0,0,0,a1,(IntKind.i64.wrap (a1 + t515))⟩ : api_Token)) else none)))) else (if 0 ≤ a1 ∧ a1 < (a0.size : Int) then (weirref05_digit.f (byt a0 a1) >>= (fun t36 => (if t36 = true then (weirref05_token.l4 a0 a1 1 >>= (fun t432 => (if 0 ≤ a1 ∧ a1 ≤ (IntKind.i64.wrap (a1 + t432)) ∧ (IntKind.i64.wrap (a1 + t432)) ≤ (a0.size : Int) then (weirref04_Parse.f (a0.extract a1.toNat (IntKind.i64.wrap (a1 + t432)).toNat) >>= (fun (t440,t441) => (if (t441 != 0) = true then some (.inr (((⟨0,(⟨#[]⟩ : ByteArray),0,0,0,0,0⟩ : api_Token),t441,a1))) else (if 0 ≤ a1 ∧ a1 ≤ (IntKind.i64.wrap (a1 + t432)) ∧ (IntKind.i64.wrap (a1 + t432)) ≤ (a0.size : Int) then some (.inl (⟨2,(a0.extract a1.toNat (IntKind.i64.wrap (a1 + t432)).toNat),t440,0,0,a1,(IntKind.i64.wrap (a1 + t432))⟩ : api_Token)) else none)))) else none))) else (if 0 ≤ a1 ∧ a1 < (a0.size : Int) then (if ((byt a0 a1) == 45) = true then (if (decide ((IntKind.i64.wrap (a1 + 1)) < (a0.size : Int))) = true then (if 0 ≤ (IntKind.i64.wrap (a1 + 1)) ∧ (IntKind.i64.wrap (a1 + 1)) < (a0.size : Int) then (weirref05_digit.f (byt a0 (IntKind.i64.wrap (a1 + 1))) >>= (fun t52 => (if t52 = true then (weirref05_token.l1 a0 a1 1 >>= (fun t156 => (if 0 ≤ a1 ∧ a1 ≤ (IntKind.i64.wrap (a1 + t156)) ∧ (IntKind.i64.wrap (a1 + t156)) ≤ (a0.size : Int) then (weirref04_Parse.f (a0.extract a1.toNat (IntKind.i64.wrap (a1 + t156)).toNat) >>= (fun (t164,t165) => (if (t165 != 0) = true then some (.inr (((⟨0,(⟨#[]⟩ : ByteArray),0,0,0,0,0⟩ : api_Token),t165,a1))) else (if 0 ≤ a1 ∧ a1 ≤ (IntKind.i64.wrap (a1 + t156)) ∧ (IntKind.i64.wrap (a1 + t156)) ≤ (a0.size : Int) then some (.inl (⟨2,(a0.extract a1.toNat (IntKind.i64.wrap (a1 + t156)).toNat),t164,0,0,a1,(IntKind.i64.wrap (a1 + t156))⟩ : api_Token)) else none)))) else none))) else (if 0 ≤ a1 ∧ a1 < (a0.size : Int) then (if ((byt a0 a1) == 34) = true then (weirref05_token.l0 a0 (IntKind.i64.wrap (a1 + 1)) >>= (fun t66 => (if (t66 == (a0.size : Int)) = true then some (.inr (((⟨0,(⟨#[]⟩ : ByteArray),0,0,0,0,0⟩ : api_Token),50,t66))) else (if 0 ≤ t66 ∧ t66 < (a0.size : Int) then (if ((byt a0 t66) == 10) = true then some (.inr (((⟨0,(⟨#[]⟩ : ByteArray),0,0,0,0,0⟩ : api_Token),50,t66))) else (if 0 ≤ (IntKind.i64.wrap (a1 + 1)) ∧ (IntKind.i64.wrap (a1 + 1)) ≤ t66 ∧ t66 ≤ (a0.size : Int) then some (.inl (⟨3,(a0.extract (IntKind.i64.wrap (a1 + 1)).toNat t66.toNat),0,0,0,a1,(IntKind.i64.wrap (t66 + 1))⟩ : api_Token)) else none)) else none)))) else (weirref05_sign.f a0 a1 >>= (fun t130 => (if (seq t130 (⟨#[]⟩ : ByteArray)) = true then some (.inr (((⟨0,(⟨#[]⟩ : ByteArray),0,0,0,0,0⟩ : api_Token),50,a1))) else some (.inl (⟨4,t130,0,0,0,a1,(IntKind.i64.wrap (a1 + (t130.size : Int)))⟩ : api_Token)))))) else none)))) else none) else (if 0 ≤ a1 ∧ a1 < (a0.size : Int) then (if ((byt a0 a1) == 34) = true then (weirref05_token.l2 a0 (IntKind.i64.wrap (a1 + 1)) >>= (fun t247 => (if (t247 == (a0.size : Int)) = true then some (.inr (((⟨0,(⟨#[]⟩ : ByteArray),0,0,0,0,0⟩ : api_Token),50,t247))) else (if 0 ≤ t247 ∧ t247 < (a0.size : Int) then (if ((byt a0 t247) == 10) = true then some (.inr (((⟨0,(⟨#[]⟩ : ByteArray),0,0,0,0,0⟩ : api_Token),50,t247))) else (if 0 ≤ (IntKind.i64.wrap (a1 + 1)) ∧ (IntKind.i64.wrap (a1 + 1)) ≤ t247 ∧ t247 ≤ (a0.size : Int) then some (.inl (⟨3,(a0.extract (IntKind.i64.wrap (a1 + 1)).toNat t247.toNat),0,0,0,a1,(IntKind.i64.wrap (t247 + 1))⟩ : api_Token)) else none)) else none)))) else (weirref05_sign.f a0 a1 >>= (fun t311 => (if (seq t311 (⟨#[]⟩ : ByteArray)) = true then some (.inr (((⟨0,(⟨#[]⟩ : ByteArray),0,0,0,0,0⟩ : api_Token),50,a1))) else some (.inl (⟨4,t311,0,0,0,a1,(IntKind.i64.wrap (a1 + (t311.size : Int)))⟩ : api_Token)))))) else none)) else (if 0 ≤ a1 ∧ a1 < (a0.size : Int) then (if ((byt a0 a1) == 34) = true then (weirref05_token.l3 a0 (IntKind.i64.wrap (a1 + 1)) >>= (fun t342 => (if (t342 == (a0.size : Int)) = true then some (.inr (((⟨0,(⟨#[]⟩ : ByteArray),0,0,0,0,0⟩ : api_Token),50,t342))) else (if 0 ≤ t342 ∧ t342 < (a0.size : Int) then (if ((byt a0 t342) == 10) = true then some (.inr (((⟨0,(⟨#[]⟩ : ByteArray),0,0,0,0,0⟩ : api_Token),50,t342))) else (if 0 ≤ (IntKind.i64.wrap (a1 + 1)) ∧ (IntKind.i64.wrap (a1 + 1)) ≤ t342 ∧ t342 ≤ (a0.size : Int) then some (.inl (⟨3,(a0.extract (IntKind.i64.wrap (a1 + 1)).toNat t342.toNat),0,0,0,a1,(IntKind.i64.wrap (t342 + 1))⟩ : api_Token)) else none)) else none)))) else (weirref05_sign.f a0 a1 >>= (fun t406 => (if (seq t406 (⟨#[]⟩ : ByteArray)) = true then some (.inr (((⟨0,(⟨#[]⟩ : ByteArray),0,0,0,0,0⟩ : api_Token),50,a1))) else some (.inl (⟨4,t406,0,0,0,a1,(IntKind.i64.wrap (a1 + (t406.size : Int)))⟩ : api_Token)))))) else none)) else none)))) else none)) : Option (Sum api_Token (api_Token × Int × Int))) >>= (fun | .inl t21 => some ((t21,0,0)) | .inr e => some e)))) else none)
set_option maxHeartbeats 16000000 in
theorem weirref05_token.ok (a0 : ByteArray) (a1 : Int) {w0 : World} {Z : Zm} {fs : List XObj} {w : World} (hS0 : St w0 Z (fs) w) {q0 : api_Token} {q1 : Int} {q2 : Int} (hp0 : weirref05_token.f a0 a1 = some (q0,q1,q2)) :
    Calls Tryz.prog 69 #[.string a0,.int .i64 a1] w (fun e w' => e = .returned (.tuple #[.agg (enc_api_Token q0).toArray,.int .i64 q1,.int .i64 q2]) ∧ St w0 Z (fs) w'):=by
  refine calls_abs ?_; intro R hR
  unfold weirref05_token.f at hp0
  refine calls_of_runs (fn:=Tryz.f69) (c:=cd69 []) Tryz.func69 (by kernel_rfl) (al:=[.string a0,.int .i64 a1]) rfl (n:=187) rfl ?_
  refine sR 2 [.inRegion (opsOf (cd69 [0])) [0,1,2],.code (cd69 [1])] ?_
  refine rA 39 (.agg (enc_api_Token (⟨0,(⟨#[]⟩ : ByteArray),0,0,0,0,0⟩ : api_Token)).toArray) (enc_api_Token (⟨0,(⟨#[]⟩ : ByteArray),0,0,0,0,0⟩ : api_Token)) hS0 ?_
  intro b1 w2 hS3
  refine sR 7 [.inRegion (opsOf (cd69 [1,0])) [2,3],.code (cd69 [1,1])] ?_
  refine rA 39 (.agg (enc_api_Token (⟨0,(⟨#[]⟩ : ByteArray),0,0,0,0,0⟩ : api_Token)).toArray) (enc_api_Token (⟨0,(⟨#[]⟩ : ByteArray),0,0,0,0,0⟩ : api_Token)) hS3 ?_
  intro b5 w6 hS7
  refine rSA 39 (.tmp 7) (.tmp 15) (enc_api_Token (⟨0,(⟨#[]⟩ : ByteArray),0,0,0,a1,0⟩ : api_Token)) hS7 (one_api_Token _) ?_
  intro w9 hS10
  refine sR 7 (.inRegion (opsOf (cd69 [1,1,0,0,0])) [2,3,4]::.code (cd69 [1,1,0,0,1])::td229) ?_
  obtain ⟨g11,hp12⟩:=ite_some hp0
  refine rV (.index 9 (.tmp 32) (.tmp 33)) (.int .u8 (byt a0 a1)) (fun o ho _ => x_indexStr (kk:=.i64) (by kernel_rfl) (by kernel_rfl) (by kernel_rfl) g11.1 g11.2 ho) ?_
  obtain ⟨t13,hr14,hp15⟩:=bind_some' hp12
  refine rC (weirref05_letter.ok (byt a0 a1) hS10 hr14) ?_
  rintro _ w16 ⟨rfl,hS17⟩
  refine ⟨_,rfl,?_⟩
  refine sR 2 (.code (cd69 [1,1,0,0,1])::td229) ?_
  obtain ⟨v18,hv19,hp20⟩:=bind_some' hp15
  have hq24 : ∀ x,Sum.inr x = v18 → x = (q0,q1,q2):=by intro x hx; subst hx; simpa using hp20
  have J25 : ∀ (t21 : api_Token) (he27 : Sum.inl t21 = v18) (l26 : List Value) (w22 : World) (hS23 : St w0 Z (xblk b1 39 (enc_api_Token (⟨0,(⟨#[]⟩ : ByteArray),0,0,0,0,0⟩ : api_Token))::xblk b5 39 (enc_api_Token t21)::fs) w22),Runs Tryz.prog (fx 69) td228 (fill (mk 189 [(4,.pointer (some ⟨b1,0,none⟩)),(7,.pointer (some ⟨b5,0,none⟩))]) l26) w22 R:=by
   intro t21 he27 l26 w22 hS23
   subst he27
   try dsimp only at hp20
   refine sR 2 [iR (cd69 [1,1,1,0]) 0 4,.code (cd69 [1,1,1,1])] ?_
   refine rLa 39 (.tmp 7) (hS23.blk 1 rfl) ?_
   refine rSA 39 (.tmp 4) (.tmp 188) (enc_api_Token t21) hS23 (one_api_Token _) ?_
   intro w28 hS29
   refine sR 3 [.code (cd69 [1,1,1,1])] ?_
   have hS30:=hS29.drop
   have hS31:=hS30.drop
   refine rRc (.tuple #[.agg (enc_api_Token t21).toArray,.int .i64 0,.int .i64 0]) (.ca 4 39 (hS29.blk 0 rfl) (.tm 5 (.tm 6 .nil))) Tryz.func69 ?_
   cases Option.some.inj hp20
   exact hR _ _ ⟨rfl,hS31⟩
  cases t13
  ·have hp33:=ite_f hv19 rfl
   refine sR 5 (iR p69_9 2 23::td230) ?_
   obtain ⟨g34,hp35⟩:=ite_some hp33
   refine rV (.index 9 (.tmp 56) (.tmp 57)) (.int .u8 (byt a0 a1)) (fun o ho _ => x_indexStr (kk:=.i64) (by kernel_rfl) (by kernel_rfl) (by kernel_rfl) g34.1 g34.2 ho) ?_
   obtain ⟨t36,hr37,hp38⟩:=bind_some' hp35
   refine rC (weirref05_digit.ok (byt a0 a1) hS17 hr37) ?_
   rintro _ w39 ⟨rfl,hS40⟩
   refine ⟨_,rfl,?_⟩
   refine sR 1 (iR p69_9 5 20::td230) ?_
   cases t36
   ·have hp41:=ite_f hp38 rfl
    refine sR 2 (iR p69_9 7 18::td230) ?_
    obtain ⟨g42,hp43⟩:=ite_some hp41
    refine rV (.index 9 (.tmp 61) (.tmp 62)) (.int .u8 (byt a0 a1)) (fun o ho _ => x_indexStr (kk:=.i64) (by kernel_rfl) (by kernel_rfl) (by kernel_rfl) g42.1 g42.2 ho) ?_
    refine sS 1 (iR p69_9 9 16::td230) 64 ((byt a0 a1) == 45) (fun h44 => ?_) fun h45 => ?_
    ·have hp46:=ite_t hp43 h44
     refine sS 6 (iR p69_9 15 10::td230) 70 (decide ((IntKind.i64.wrap (a1 + 1)) < (a0.size : Int))) (fun h47 => ?_) fun h48 => ?_
     ·have hp49:=ite_t hp46 h47
      refine sR 5 (iR p69_9 20 5::td230) ?_
      obtain ⟨g50,hp51⟩:=ite_some hp49
      refine rV (.index 9 (.tmp 73) (.tmp 75)) (.int .u8 (byt a0 (IntKind.i64.wrap (a1 + 1)))) (fun o ho _ => x_indexStr (kk:=.i64) (by kernel_rfl) (by kernel_rfl) (by kernel_rfl) g50.1 g50.2 ho) ?_
      obtain ⟨t52,hr53,hp54⟩:=bind_some' hp51
      refine rC (weirref05_digit.ok (byt a0 (IntKind.i64.wrap (a1 + 1))) hS40 hr53) ?_
      rintro _ w55 ⟨rfl,hS56⟩
      refine ⟨_,rfl,?_⟩
      refine sR 4 td230 ?_
      cases t52
      ·have hp57:=ite_f hp54 rfl
       refine sR 5 td232 ?_
       obtain ⟨g58,hp59⟩:=ite_some hp57
       refine rV (.index 9 (.tmp 142) (.tmp 143)) (.int .u8 (byt a0 a1)) (fun o ho _ => x_indexStr (kk:=.i64) (by kernel_rfl) (by kernel_rfl) (by kernel_rfl) g58.1 g58.2 ho) ?_
       refine sS 1 td233 145 ((byt a0 a1) == 34) (fun h60 => ?_) fun h61 => ?_
       ·have hp62:=ite_t hp59 h60
        refine sR 12 td237 ?_
        obtain ⟨v63,hv64,hp65⟩:=bind_some' hp62
        have J69 : ∀ (t66 : Int) (he71 : t66 = v63) (l70 : List Value) (w67 : World) (hS68 : St w0 Z (xblk b1 39 (enc_api_Token (⟨0,(⟨#[]⟩ : ByteArray),0,0,0,0,0⟩ : api_Token))::xblk b5 39 (enc_api_Token (⟨0,(⟨#[]⟩ : ByteArray),0,0,0,a1,0⟩ : api_Token))::fs) w67),Runs Tryz.prog (fx 69) td234 (fill (mk 189 [(0,.string a0),(1,.int .i64 a1),(4,.pointer (some ⟨b1,0,none⟩)),(7,.pointer (some ⟨b5,0,none⟩)),(12,.int .i64 t66)]) l70) w67 R:=by
         intro t66 he71 l70 w67 hS68
         subst he71
         try dsimp only at hp65
         refine sS 7 td240 169 (t66 == (a0.size : Int)) (fun h72 => ?_) fun h73 => ?_
         ·have hp74:=ite_t hp65 h72
          refine sR 12 td242 ?_
          refine rSA 39 (.tmp 4) (.tmp 176) (enc_api_Token (⟨0,(⟨#[]⟩ : ByteArray),0,0,0,0,0⟩ : api_Token)) hS68 (one_api_Token _) ?_
          intro w75 hS76
          refine sR 3 td241 ?_
          refine r_isret (c:=p69_19) (by kernel_rfl) ?_
          have hS77:=hS76.drop
          have hS78:=hS77.drop
          refine rRc (.tuple #[.agg (enc_api_Token (⟨0,(⟨#[]⟩ : ByteArray),0,0,0,0,0⟩ : api_Token)).toArray,.int .i64 50,.int .i64 t66]) (.ca 4 39 (hS76.blk 0 rfl) (.tm 5 (.tm 6 .nil))) Tryz.func69 ?_
          cases hq24 _ (Option.some.inj hp74)
          exact hR _ _ ⟨rfl,hS78⟩
         have hp80:=ite_f hp65 h73
         refine sR 3 td243 ?_
         obtain ⟨g81,hp82⟩:=ite_some hp80
         refine rV (.index 9 (.tmp 171) (.tmp 172)) (.int .u8 (byt a0 t66)) (fun o ho _ => x_indexStr (kk:=.i64) (by kernel_rfl) (by kernel_rfl) (by kernel_rfl) g81.1 g81.2 ho) ?_
         refine sS 1 td244 174 ((byt a0 t66) == 10) (fun h83 => ?_) fun h84 => ?_
         ·have hp85:=ite_t hp82 h83
          refine sR 7 td242 ?_
          refine rSA 39 (.tmp 4) (.tmp 176) (enc_api_Token (⟨0,(⟨#[]⟩ : ByteArray),0,0,0,0,0⟩ : api_Token)) hS68 (one_api_Token _) ?_
          intro w86 hS87
          refine sR 3 td241 ?_
          refine r_isret (c:=p69_19) (by kernel_rfl) ?_
          have hS88:=hS87.drop
          have hS89:=hS88.drop
          refine rRc (.tuple #[.agg (enc_api_Token (⟨0,(⟨#[]⟩ : ByteArray),0,0,0,0,0⟩ : api_Token)).toArray,.int .i64 50,.int .i64 t66]) (.ca 4 39 (hS87.blk 0 rfl) (.tm 5 (.tm 6 .nil))) Tryz.func69 ?_
          cases hq24 _ (Option.some.inj hp85)
          exact hR _ _ ⟨rfl,hS89⟩
         have hp91:=ite_f hp82 h84
         refine sR 4 td238 ?_
         obtain ⟨g92,hp93⟩:=ite_some hp91
         refine r_drawnG (S:=Option (Unit × Option (Unit × Option Unit))) (rank:=(fun st => match st with | none => 0 | some (x94,none) => 1 | some (x94,some (x95,none)) => 2 | some (x94,some (x95,some x96)) => 3)) (C:=(fun st w' => match st with | none => St w0 Z (xblk b1 39 (enc_api_Token (⟨0,(⟨#[]⟩ : ByteArray),0,0,0,0,0⟩ : api_Token))::xblk b5 39 (enc_api_Token (⟨0,(⟨#[]⟩ : ByteArray),0,0,0,a1,0⟩ : api_Token))::fs) w' | some (x94,none) => St w0 Z (xblk b5 39 (enc_api_Token (⟨3,(⟨#[]⟩ : ByteArray),0,0,0,a1,0⟩ : api_Token))::xblk b1 39 (enc_api_Token (⟨0,(⟨#[]⟩ : ByteArray),0,0,0,0,0⟩ : api_Token))::fs) w' | some (x94,some (x95,none)) => St w0 Z (xblk b5 39 (enc_api_Token (⟨3,(a0.extract (IntKind.i64.wrap (a1 + 1)).toNat t66.toNat),0,0,0,a1,0⟩ : api_Token))::xblk b1 39 (enc_api_Token (⟨0,(⟨#[]⟩ : ByteArray),0,0,0,0,0⟩ : api_Token))::fs) w' | some (x94,some (x95,some x96)) => St w0 Z (xblk b5 39 (enc_api_Token (⟨3,(a0.extract (IntKind.i64.wrap (a1 + 1)).toNat t66.toNat),0,0,0,a1,(IntKind.i64.wrap (t66 + 1))⟩ : api_Token))::xblk b1 39 (enc_api_Token (⟨0,(⟨#[]⟩ : ByteArray),0,0,0,0,0⟩ : api_Token))::fs) w')) (v:=(fun st => match st with | none => [.string a0,.int .i64 a1,.int .i64 (IntKind.i64.wrap (a1 + 1)),.int .i64 t66,.string (a0.extract (IntKind.i64.wrap (a1 + 1)).toNat t66.toNat),.int .i64 t66,.int .i64 (IntKind.i64.wrap (t66 + 1)),.pointer (some ⟨b5,0,none⟩),undef,undef,undef,undef,undef] | some (x94,none) => [.string a0,.int .i64 a1,.int .i64 (IntKind.i64.wrap (a1 + 1)),.int .i64 t66,.string (a0.extract (IntKind.i64.wrap (a1 + 1)).toNat t66.toNat),.int .i64 t66,.int .i64 (IntKind.i64.wrap (t66 + 1)),.pointer (some ⟨b5,0,none⟩),undef,.pointer (some ⟨b5,1,none⟩),undef,undef,undef] | some (x94,some (x95,none)) => [.string a0,.int .i64 a1,.int .i64 (IntKind.i64.wrap (a1 + 1)),.int .i64 t66,.string (a0.extract (IntKind.i64.wrap (a1 + 1)).toNat t66.toNat),.int .i64 t66,.int .i64 (IntKind.i64.wrap (t66 + 1)),.pointer (some ⟨b5,0,none⟩),undef,.pointer (some ⟨b5,1,none⟩),undef,.pointer (some ⟨b5,6,none⟩),undef] | some (x94,some (x95,some x96)) => [.string a0,.int .i64 a1,.int .i64 (IntKind.i64.wrap (a1 + 1)),.int .i64 t66,.string (a0.extract (IntKind.i64.wrap (a1 + 1)).toNat t66.toNat),.int .i64 t66,.int .i64 (IntKind.i64.wrap (t66 + 1)),.pointer (some ⟨b5,0,none⟩),undef,.pointer (some ⟨b5,1,none⟩),undef,.pointer (some ⟨b5,6,none⟩),undef])) (c:=p69_17) (id:=25) none 8 13 [8,10,12] [0,0,0,0,0,0,0,0,0,1,1,2,2] [1,1,1,1,1,2,2,0,1,1,2,2,3] [] (by kernel_rfl) (by kernel_rfl) (by kernel_rfl) (by kernel_rfl) (by kernel_rfl) (by kernel_rfl) (by kernel_rfl) (by kernel_rfl) (by kernel_rfl) (by kernel_rfl) rfl hS68.drew ?_ ?_ ?_ ?_
         ·intro st w hC
          rcases st with _ | ⟨x94,_ | ⟨x95,_ | x96⟩⟩
          ·exact nbl rfl
          ·exact nbl rfl
          ·exact nbl rfl
          ·exact nbl rfl
         ·intro i hi he st w hC hr hu
          match i,hi,he with
          | 0,_,_ =>
           rcases st with _ | ⟨x94,_ | ⟨x95,_ | x96⟩⟩
           ·dsimp only at hC
            exact dP (.string a0) hC
           ·dsimp only at hC
            exact dP (.string a0) hC
           ·exact absurd hu (nle rfl)
           ·exact absurd hu (nle rfl)
          | 1,_,_ =>
           rcases st with _ | ⟨x94,_ | ⟨x95,_ | x96⟩⟩
           ·dsimp only at hC
            exact dP (.int .i64 a1) hC
           ·dsimp only at hC
            exact dP (.int .i64 a1) hC
           ·exact absurd hu (nle rfl)
           ·exact absurd hu (nle rfl)
          | 2,_,_ =>
           rcases st with _ | ⟨x94,_ | ⟨x95,_ | x96⟩⟩
           ·dsimp only at hC
            exact dP (.int .i64 (IntKind.i64.wrap (a1 + 1))) hC
           ·dsimp only at hC
            exact dP (.int .i64 (IntKind.i64.wrap (a1 + 1))) hC
           ·exact absurd hu (nle rfl)
           ·exact absurd hu (nle rfl)
          | 3,_,_ =>
           rcases st with _ | ⟨x94,_ | ⟨x95,_ | x96⟩⟩
           ·dsimp only at hC
            exact dP (.int .i64 t66) hC
           ·dsimp only at hC
            exact dP (.int .i64 t66) hC
           ·exact absurd hu (nle rfl)
           ·exact absurd hu (nle rfl)
          | 4,_,_ =>
           rcases st with _ | ⟨x94,_ | ⟨x95,_ | x96⟩⟩
           ·dsimp only at hC
            exact does_run (x_cutStr_ss (t:=9) (x:=(.tmp 178)) (lo:=(.tmp 180)) (hi:=(.tmp 181)) (k:=.i64) (k':=.i64) (by kernel_rfl) (by kernel_rfl) (by kernel_rfl) (by kernel_rfl) g92 (by kernel_rfl)) rfl hC
           ·dsimp only at hC
            exact does_run (x_cutStr_ss (t:=9) (x:=(.tmp 178)) (lo:=(.tmp 180)) (hi:=(.tmp 181)) (k:=.i64) (k':=.i64) (by kernel_rfl) (by kernel_rfl) (by kernel_rfl) (by kernel_rfl) g92 (by kernel_rfl)) rfl hC
           ·exact absurd hu (nle rfl)
           ·exact absurd hu (nle rfl)
          | 5,_,_ =>
           rcases st with _ | ⟨x94,_ | ⟨x95,_ | x96⟩⟩
           ·dsimp only at hC
            exact dP (.int .i64 t66) hC
           ·dsimp only at hC
            exact dP (.int .i64 t66) hC
           ·dsimp only at hC
            exact dP (.int .i64 t66) hC
           ·exact absurd hu (nle rfl)
          | 6,_,_ =>
           rcases st with _ | ⟨x94,_ | ⟨x95,_ | x96⟩⟩
           ·dsimp only at hC
            exact dP (.int .i64 (IntKind.i64.wrap (t66 + 1))) hC
           ·dsimp only at hC
            exact dP (.int .i64 (IntKind.i64.wrap (t66 + 1))) hC
           ·dsimp only at hC
            exact dP (.int .i64 (IntKind.i64.wrap (t66 + 1))) hC
           ·exact absurd hu (nle rfl)
          | 7,_,_ =>
           rcases st with _ | ⟨x94,_ | ⟨x95,_ | x96⟩⟩
           ·dsimp only at hC
            exact dP (.pointer (some ⟨b5,0,none⟩)) hC
           ·exact absurd hu (nle rfl)
           ·exact absurd hu (nle rfl)
           ·exact absurd hu (nle rfl)
          | 8,_,he => exact absurd he (by decide)
          | 9,_,_ =>
           rcases st with _ | ⟨x94,_ | ⟨x95,_ | x96⟩⟩
           ·exact absurd hr (nle rfl)
           ·dsimp only at hC
            exact dP (.pointer (some ⟨b5,1,none⟩)) hC
           ·exact absurd hu (nle rfl)
           ·exact absurd hu (nle rfl)
          | 10,_,he => exact absurd he (by decide)
          | 11,_,_ =>
           rcases st with _ | ⟨x94,_ | ⟨x95,_ | x96⟩⟩
           ·exact absurd hr (nle rfl)
           ·exact absurd hr (nle rfl)
           ·dsimp only at hC
            exact dP (.pointer (some ⟨b5,6,none⟩)) hC
           ·exact absurd hu (nle rfl)
          | 12,_,he => exact absurd he (by decide)
          | i + 13,hi,_ => exact absurd hi (by omega)
         ·intro k hk st w hC hr
          match k,hk with
          | 0,_ =>
           rcases st with _ | ⟨x94,_ | ⟨x95,_ | x96⟩⟩
           ·dsimp only at hC
            have hC:=hC.pick1
            refine dS 3 (.tmp 185) (.const (.int .i64 3)) 0 (.int .i64 3) [.int .i64 3] (enc_api_Token (⟨3,(⟨#[]⟩ : ByteArray),0,0,0,a1,0⟩ : api_Token)) hC ?_
            intro w2 h2
            refine ⟨some ((),none),rfl,?_,.inl rfl,h2⟩
            intro j hj
            match j,hj with
            | 0,_ => exact rfl
            | 1,_ => exact rfl
            | 2,_ => exact rfl
            | 3,_ => exact rfl
            | 4,_ => exact rfl
            | 5,_ => exact rfl
            | 6,_ => exact rfl
            | 7,_ => exact rfl
            | 8,hj => exact absurd hj (by decide)
            | 9,hj => exact absurd hj (by decide)
            | 10,hj => exact absurd hj (by decide)
            | 11,hj => exact absurd hj (by decide)
            | 12,hj => exact absurd hj (by decide)
            | j + 13,_ => exact rfl
           ·exact absurd hr (Nat.ne_of_beq_eq_false rfl)
           ·exact absurd hr (Nat.ne_of_beq_eq_false rfl)
           ·exact absurd hr (Nat.ne_of_beq_eq_false rfl)
          | 1,_ =>
           rcases st with _ | ⟨x94,_ | ⟨x95,_ | x96⟩⟩
           ·exact absurd hr (Nat.ne_of_beq_eq_false rfl)
           ·dsimp only at hC
            refine dS 9 (.tmp 186) (.tmp 182) 1 (.string (a0.extract (IntKind.i64.wrap (a1 + 1)).toNat t66.toNat)) [.string (a0.extract (IntKind.i64.wrap (a1 + 1)).toNat t66.toNat)] (enc_api_Token (⟨3,(a0.extract (IntKind.i64.wrap (a1 + 1)).toNat t66.toNat),0,0,0,a1,0⟩ : api_Token)) hC ?_
            intro w2 h2
            refine ⟨some (x94,some ((),none)),rfl,?_,.inl rfl,h2⟩
            intro j hj
            match j,hj with
            | 0,_ => exact rfl
            | 1,_ => exact rfl
            | 2,_ => exact rfl
            | 3,_ => exact rfl
            | 4,_ => exact rfl
            | 5,_ => exact rfl
            | 6,_ => exact rfl
            | 7,_ => exact rfl
            | 8,_ => exact rfl
            | 9,_ => exact rfl
            | 10,hj => exact absurd hj (by decide)
            | 11,hj => exact absurd hj (by decide)
            | 12,hj => exact absurd hj (by decide)
            | j + 13,_ => exact rfl
           ·exact absurd hr (Nat.ne_of_beq_eq_false rfl)
           ·exact absurd hr (Nat.ne_of_beq_eq_false rfl)
          | 2,_ =>
           rcases st with _ | ⟨x94,_ | ⟨x95,_ | x96⟩⟩
           ·exact absurd hr (Nat.ne_of_beq_eq_false rfl)
           ·exact absurd hr (Nat.ne_of_beq_eq_false rfl)
           ·dsimp only at hC
            refine dS 3 (.tmp 187) (.tmp 184) 6 (.int .i64 (IntKind.i64.wrap (t66 + 1))) [.int .i64 (IntKind.i64.wrap (t66 + 1))] (enc_api_Token (⟨3,(a0.extract (IntKind.i64.wrap (a1 + 1)).toNat t66.toNat),0,0,0,a1,(IntKind.i64.wrap (t66 + 1))⟩ : api_Token)) hC ?_
            intro w2 h2
            refine ⟨some (x94,some (x95,some ())),rfl,?_,.inl rfl,h2⟩
            intro j hj
            match j,hj with
            | 0,_ => exact rfl
            | 1,_ => exact rfl
            | 2,_ => exact rfl
            | 3,_ => exact rfl
            | 4,_ => exact rfl
            | 5,_ => exact rfl
            | 6,_ => exact rfl
            | 7,_ => exact rfl
            | 8,_ => exact rfl
            | 9,_ => exact rfl
            | 10,_ => exact rfl
            | 11,_ => exact rfl
            | 12,hj => exact absurd hj (by decide)
            | j + 13,_ => exact rfl
           ·exact absurd hr (Nat.ne_of_beq_eq_false rfl)
          | k + 3,hk => exact absurd hk (by simp)
         intro st100 w97 hS98 hr99
         rcases st100 with _ | ⟨x94,_ | ⟨x95,_ | x96⟩⟩
         ·exact absurd hr99 (nle rfl)
         ·exact absurd hr99 (nle rfl)
         ·exact absurd hr99 (nle rfl)
         replace hS98 : St w0 Z (xblk b5 39 (enc_api_Token (⟨3,(a0.extract (IntKind.i64.wrap (a1 + 1)).toNat t66.toNat),0,0,0,a1,(IntKind.i64.wrap (t66 + 1))⟩ : api_Token))::xblk b1 39 (enc_api_Token (⟨0,(⟨#[]⟩ : ByteArray),0,0,0,0,0⟩ : api_Token))::fs) w97:=hS98
         refine sR 1 td228 ?_
         have hS101:=hS98.pick1
         refine rF (mk 189 [(4,.pointer (some ⟨b1,0,none⟩)),(7,.pointer (some ⟨b5,0,none⟩))]) ?_
         exact J25 (⟨3,(a0.extract (IntKind.i64.wrap (a1 + 1)).toNat t66.toNat),0,0,0,a1,(IntKind.i64.wrap (t66 + 1))⟩ : api_Token) (Option.some.inj hp93) _ _ hS101
        have L111 : ∀ (t102 : Int) (e106 : Int),weirref05_token.l0 a0 t102 = some e106 → e106 = v63 → ∀ (l105 : List Value) (w103 : World) (hS104 : St w0 Z (xblk b1 39 (enc_api_Token (⟨0,(⟨#[]⟩ : ByteArray),0,0,0,0,0⟩ : api_Token))::xblk b5 39 (enc_api_Token (⟨0,(⟨#[]⟩ : ByteArray),0,0,0,a1,0⟩ : api_Token))::fs) w103),Runs Tryz.prog (fx 69) td237 (fill (mk 189 [(0,.string a0),(1,.int .i64 a1),(4,.pointer (some ⟨b1,0,none⟩)),(7,.pointer (some ⟨b5,0,none⟩)),(12,.int .i64 t102)]) l105) w103 R:=by
         refine weirref05_token.l0.partial_correctness a0 (fun t102 e106 => e106 = v63 → ∀ (l105 : List Value) (w103 : World) (hS104 : St w0 Z (xblk b1 39 (enc_api_Token (⟨0,(⟨#[]⟩ : ByteArray),0,0,0,0,0⟩ : api_Token))::xblk b5 39 (enc_api_Token (⟨0,(⟨#[]⟩ : ByteArray),0,0,0,a1,0⟩ : api_Token))::fs) w103),Runs Tryz.prog (fx 69) td237 (fill (mk 189 [(0,.string a0),(1,.int .i64 a1),(4,.pointer (some ⟨b1,0,none⟩)),(7,.pointer (some ⟨b5,0,none⟩)),(12,.int .i64 t102)]) l105) w103 R) ?_
         intro rec110 ih109 t102 e106 hb108 he107 l105 w103 hS104
         refine sS 7 td247 151 (decide (t102 < (a0.size : Int))) (fun h112 => ?_) fun h113 => ?_
         ·have hp114:=ite_t hb108 h112
          refine sR 3 td248 ?_
          obtain ⟨g115,hp116⟩:=ite_some hp114
          refine rV (.index 9 (.tmp 153) (.tmp 154)) (.int .u8 (byt a0 t102)) (fun o ho _ => x_indexStr (kk:=.i64) (by kernel_rfl) (by kernel_rfl) (by kernel_rfl) g115.1 g115.2 ho) ?_
          refine sS 1 td249 156 ((byt a0 t102) != 34) (fun h117 => ?_) fun h118 => ?_
          ·have hp119:=ite_t hp116 h117
           refine sR 4 td250 ?_
           obtain ⟨g120,hp121⟩:=ite_some hp119
           refine rV (.index 9 (.tmp 159) (.tmp 160)) (.int .u8 (byt a0 t102)) (fun o ho _ => x_indexStr (kk:=.i64) (by kernel_rfl) (by kernel_rfl) (by kernel_rfl) g120.1 g120.2 ho) ?_
           refine sS 1 td251 162 ((byt a0 t102) != 10) (fun h122 => ?_) fun h123 => ?_
           ·have hp124:=ite_t hp121 h122
            refine sR 11 td236 ?_
            refine sR 1 td237 ?_
            refine rF (mk 189 [(0,.string a0),(1,.int .i64 a1),(4,.pointer (some ⟨b1,0,none⟩)),(7,.pointer (some ⟨b5,0,none⟩)),(12,.int .i64 (IntKind.i64.wrap (t102 + 1)))]) ?_
            exact ih109 (IntKind.i64.wrap (t102 + 1)) _ hp124 he107 _ _ hS104
           have hp125:=ite_f hp121 h123
           refine sR 4 td234 ?_
           refine rF (mk 189 [(0,.string a0),(1,.int .i64 a1),(4,.pointer (some ⟨b1,0,none⟩)),(7,.pointer (some ⟨b5,0,none⟩)),(12,.int .i64 t102)]) ?_
           exact J69 t102 ((Option.some.inj hp125).trans he107) _ _ hS104
          have hp126:=ite_f hp116 h118
          refine sR 10 td234 ?_
          refine rF (mk 189 [(0,.string a0),(1,.int .i64 a1),(4,.pointer (some ⟨b1,0,none⟩)),(7,.pointer (some ⟨b5,0,none⟩)),(12,.int .i64 t102)]) ?_
          exact J69 t102 ((Option.some.inj hp126).trans he107) _ _ hS104
         have hp127:=ite_f hb108 h113
         refine sR 15 td234 ?_
         refine rF (mk 189 [(0,.string a0),(1,.int .i64 a1),(4,.pointer (some ⟨b1,0,none⟩)),(7,.pointer (some ⟨b5,0,none⟩)),(12,.int .i64 t102)]) ?_
         exact J69 t102 ((Option.some.inj hp127).trans he107) _ _ hS104
        have hS128:=hS56.pick1
        refine rF (mk 189 [(0,.string a0),(1,.int .i64 a1),(4,.pointer (some ⟨b1,0,none⟩)),(7,.pointer (some ⟨b5,0,none⟩)),(12,.int .i64 (IntKind.i64.wrap (a1 + 1)))]) ?_
        exact L111 (IntKind.i64.wrap (a1 + 1)) _ hv64 rfl _ _ hS128
       have hp129:=ite_f hp59 h61
       refine sR 7 td253 ?_
       obtain ⟨t130,hr131,hp132⟩:=bind_some' hp129
       refine rC (weirref05_sign.ok a0 a1 hS56 hr131) ?_
       rintro _ w133 ⟨rfl,hS134⟩
       refine ⟨_,rfl,?_⟩
       refine sS 7 td256 20 (seq t130 (⟨#[]⟩ : ByteArray)) (fun h135 => ?_) fun h136 => ?_
       ·have hp137:=ite_t hp132 h135
        refine sR 6 td258 ?_
        have hS138:=hS134.pick1
        refine rSA 39 (.tmp 4) (.tmp 21) (enc_api_Token (⟨0,(⟨#[]⟩ : ByteArray),0,0,0,0,0⟩ : api_Token)) hS138 (one_api_Token _) ?_
        intro w139 hS140
        refine sR 3 td257 ?_
        refine r_isret (c:=p69_29) (by kernel_rfl) ?_
        have hS141:=hS140.drop
        have hS142:=hS141.drop
        refine rRc (.tuple #[.agg (enc_api_Token (⟨0,(⟨#[]⟩ : ByteArray),0,0,0,0,0⟩ : api_Token)).toArray,.int .i64 50,.int .i64 a1]) (.ca 4 39 (hS140.blk 0 rfl) (.tm 5 (.tm 6 .nil))) Tryz.func69 ?_
        cases hq24 _ (Option.some.inj hp137)
        exact hR _ _ ⟨rfl,hS142⟩
       have hp144:=ite_f hp132 h136
       refine sR 10 td259 ?_
       refine rS 3 (.tmp 28) (.const (.int .i64 4)) 0 (.int .i64 4) [.int .i64 4] (enc_api_Token (⟨4,(⟨#[]⟩ : ByteArray),0,0,0,a1,0⟩ : api_Token)) hS134 ?_
       intro w145 hS146
       refine sR 1 td260 ?_
       refine rS 9 (.tmp 29) (.tmp 23) 1 (.string t130) [.string t130] (enc_api_Token (⟨4,t130,0,0,0,a1,0⟩ : api_Token)) hS146 ?_
       intro w147 hS148
       refine sR 1 td261 ?_
       refine rS 3 (.tmp 30) (.tmp 27) 6 (.int .i64 (IntKind.i64.wrap (a1 + (t130.size : Int)))) [.int .i64 (IntKind.i64.wrap (a1 + (t130.size : Int)))] (enc_api_Token (⟨4,t130,0,0,0,a1,(IntKind.i64.wrap (a1 + (t130.size : Int)))⟩ : api_Token)) hS148 ?_
       intro w149 hS150
       refine sR 2 td228 ?_
       have hS151:=hS150.pick1
       refine rF (mk 189 [(4,.pointer (some ⟨b1,0,none⟩)),(7,.pointer (some ⟨b5,0,none⟩))]) ?_
       exact J25 (⟨4,t130,0,0,0,a1,(IntKind.i64.wrap (a1 + (t130.size : Int)))⟩ : api_Token) (Option.some.inj hp144) _ _ hS151
      have hp152:=ite_t hp54 rfl
      refine sR 8 td265 ?_
      obtain ⟨v153,hv154,hp155⟩:=bind_some' hp152
      have J159 : ∀ (t156 : Int) (he161 : t156 = v153) (l160 : List Value) (w157 : World) (hS158 : St w0 Z (xblk b1 39 (enc_api_Token (⟨0,(⟨#[]⟩ : ByteArray),0,0,0,0,0⟩ : api_Token))::xblk b5 39 (enc_api_Token (⟨0,(⟨#[]⟩ : ByteArray),0,0,0,a1,0⟩ : api_Token))::fs) w157),Runs Tryz.prog (fx 69) td262 (fill (mk 189 [(0,.string a0),(1,.int .i64 a1),(4,.pointer (some ⟨b1,0,none⟩)),(7,.pointer (some ⟨b5,0,none⟩)),(9,.int .i64 t156)]) l160) w157 R:=by
       intro t156 he161 l160 w157 hS158
       subst he161
       try dsimp only at hp155
       refine sR 7 (iR p69_32 5 7::.code p69_33::td229) ?_
       obtain ⟨g162,hp163⟩:=ite_some hp155
       refine rV (.slice 9 (.tmp 113) (some (.tmp 114)) (some (.tmp 117)) none) (.string (a0.extract a1.toNat (IntKind.i64.wrap (a1 + t156)).toNat)) (fun o ho _ => x_cutStr_ss (k:=.i64) (k':=.i64) (by kernel_rfl) (by kernel_rfl) (by kernel_rfl) (by kernel_rfl) g162 ho) ?_
       obtain ⟨⟨t164,t165⟩,hr166,hp167⟩:=bind_some' hp163
       try dsimp only at hp167
       refine rC (weirref04_Parse.ok (a0.extract a1.toNat (IntKind.i64.wrap (a1 + t156)).toNat) hS158 hr166) ?_
       rintro _ w168 ⟨rfl,hS169⟩
       refine ⟨_,rfl,?_⟩
       refine sS 11 (.inRegion (opsOf p69_34) []::.code p69_35::td266) 123 (t165 != 0) (fun h170 => ?_) fun h171 => ?_
       ·have hp172:=ite_t hp167 h170
        refine sR 7 (.inRegion (opsOf p69_37) [3,4,5]::td267) ?_
        refine rSA 39 (.tmp 4) (.tmp 124) (enc_api_Token (⟨0,(⟨#[]⟩ : ByteArray),0,0,0,0,0⟩ : api_Token)) hS169 (one_api_Token _) ?_
        intro w173 hS174
        refine sR 3 td267 ?_
        refine r_isret (c:=p69_38) (by kernel_rfl) ?_
        have hS175:=hS174.drop
        have hS176:=hS175.drop
        refine rRc (.tuple #[.agg (enc_api_Token (⟨0,(⟨#[]⟩ : ByteArray),0,0,0,0,0⟩ : api_Token)).toArray,.int .i64 t165,.int .i64 a1]) (.ca 4 39 (hS174.blk 0 rfl) (.tm 5 (.tm 6 .nil))) Tryz.func69 ?_
        cases hq24 _ (Option.some.inj hp172)
        exact hR _ _ ⟨rfl,hS176⟩
       have hp178:=ite_f hp167 h171
       refine sR 3 td266 ?_
       obtain ⟨g179,hp180⟩:=ite_some hp178
       refine r_drawnG (S:=Option (Unit × Option (Unit × Option (Unit × Option Unit)))) (rank:=(fun st => match st with | none => 0 | some (x181,none) => 1 | some (x181,some (x182,none)) => 2 | some (x181,some (x182,some (x183,none))) => 3 | some (x181,some (x182,some (x183,some x184))) => 4)) (C:=(fun st w' => match st with | none => St w0 Z (xblk b1 39 (enc_api_Token (⟨0,(⟨#[]⟩ : ByteArray),0,0,0,0,0⟩ : api_Token))::xblk b5 39 (enc_api_Token (⟨0,(⟨#[]⟩ : ByteArray),0,0,0,a1,0⟩ : api_Token))::fs) w' | some (x181,none) => St w0 Z (xblk b5 39 (enc_api_Token (⟨2,(⟨#[]⟩ : ByteArray),0,0,0,a1,0⟩ : api_Token))::xblk b1 39 (enc_api_Token (⟨0,(⟨#[]⟩ : ByteArray),0,0,0,0,0⟩ : api_Token))::fs) w' | some (x181,some (x182,none)) => St w0 Z (xblk b5 39 (enc_api_Token (⟨2,(a0.extract a1.toNat (IntKind.i64.wrap (a1 + t156)).toNat),0,0,0,a1,0⟩ : api_Token))::xblk b1 39 (enc_api_Token (⟨0,(⟨#[]⟩ : ByteArray),0,0,0,0,0⟩ : api_Token))::fs) w' | some (x181,some (x182,some (x183,none))) => St w0 Z (xblk b5 39 (enc_api_Token (⟨2,(a0.extract a1.toNat (IntKind.i64.wrap (a1 + t156)).toNat),t164,0,0,a1,0⟩ : api_Token))::xblk b1 39 (enc_api_Token (⟨0,(⟨#[]⟩ : ByteArray),0,0,0,0,0⟩ : api_Token))::fs) w' | some (x181,some (x182,some (x183,some x184))) => St w0 Z (xblk b5 39 (enc_api_Token (⟨2,(a0.extract a1.toNat (IntKind.i64.wrap (a1 + t156)).toNat),t164,0,0,a1,(IntKind.i64.wrap (a1 + t156))⟩ : api_Token))::xblk b1 39 (enc_api_Token (⟨0,(⟨#[]⟩ : ByteArray),0,0,0,0,0⟩ : api_Token))::fs) w')) (v:=(fun st => match st with | none => [.string a0,.int .i64 a1,.int .i64 a1,.int .i64 t156,.int .i64 (IntKind.i64.wrap (a1 + t156)),.string (a0.extract a1.toNat (IntKind.i64.wrap (a1 + t156)).toNat),.int .i64 t164,.int .i64 a1,.int .i64 t156,.int .i64 (IntKind.i64.wrap (a1 + t156)),.pointer (some ⟨b5,0,none⟩),undef,undef,undef,undef,undef,undef,undef] | some (x181,none) => [.string a0,.int .i64 a1,.int .i64 a1,.int .i64 t156,.int .i64 (IntKind.i64.wrap (a1 + t156)),.string (a0.extract a1.toNat (IntKind.i64.wrap (a1 + t156)).toNat),.int .i64 t164,.int .i64 a1,.int .i64 t156,.int .i64 (IntKind.i64.wrap (a1 + t156)),.pointer (some ⟨b5,0,none⟩),undef,.pointer (some ⟨b5,1,none⟩),undef,undef,undef,undef,undef] | some (x181,some (x182,none)) => [.string a0,.int .i64 a1,.int .i64 a1,.int .i64 t156,.int .i64 (IntKind.i64.wrap (a1 + t156)),.string (a0.extract a1.toNat (IntKind.i64.wrap (a1 + t156)).toNat),.int .i64 t164,.int .i64 a1,.int .i64 t156,.int .i64 (IntKind.i64.wrap (a1 + t156)),.pointer (some ⟨b5,0,none⟩),undef,.pointer (some ⟨b5,1,none⟩),undef,.pointer (some ⟨b5,2,none⟩),undef,undef,undef] | some (x181,some (x182,some (x183,none))) => [.string a0,.int .i64 a1,.int .i64 a1,.int .i64 t156,.int .i64 (IntKind.i64.wrap (a1 + t156)),.string (a0.extract a1.toNat (IntKind.i64.wrap (a1 + t156)).toNat),.int .i64 t164,.int .i64 a1,.int .i64 t156,.int .i64 (IntKind.i64.wrap (a1 + t156)),.pointer (some ⟨b5,0,none⟩),undef,.pointer (some ⟨b5,1,none⟩),undef,.pointer (some ⟨b5,2,none⟩),undef,.pointer (some ⟨b5,6,none⟩),undef] | some (x181,some (x182,some (x183,some x184))) => [.string a0,.int .i64 a1,.int .i64 a1,.int .i64 t156,.int .i64 (IntKind.i64.wrap (a1 + t156)),.string (a0.extract a1.toNat (IntKind.i64.wrap (a1 + t156)).toNat),.int .i64 t164,.int .i64 a1,.int .i64 t156,.int .i64 (IntKind.i64.wrap (a1 + t156)),.pointer (some ⟨b5,0,none⟩),undef,.pointer (some ⟨b5,1,none⟩),undef,.pointer (some ⟨b5,2,none⟩),undef,.pointer (some ⟨b5,6,none⟩),undef])) (c:=p69_36) (id:=18) none 11 18 [11,13,15,17] [0,0,0,0,0,0,0,0,0,0,0,0,1,1,2,2,3,3] [1,1,1,1,1,1,2,3,3,3,0,1,1,2,2,3,3,4] [] (by kernel_rfl) (by kernel_rfl) (by kernel_rfl) (by kernel_rfl) (by kernel_rfl) (by kernel_rfl) (by kernel_rfl) (by kernel_rfl) (by kernel_rfl) (by kernel_rfl) rfl hS169.drew ?_ ?_ ?_ ?_
       ·intro st w hC
        rcases st with _ | ⟨x181,_ | ⟨x182,_ | ⟨x183,_ | x184⟩⟩⟩
        ·exact nbl rfl
        ·exact nbl rfl
        ·exact nbl rfl
        ·exact nbl rfl
        ·exact nbl rfl
       ·intro i hi he st w hC hr hu
        match i,hi,he with
        | 0,_,_ =>
         rcases st with _ | ⟨x181,_ | ⟨x182,_ | ⟨x183,_ | x184⟩⟩⟩
         ·dsimp only at hC
          exact dP (.string a0) hC
         ·dsimp only at hC
          exact dP (.string a0) hC
         ·exact absurd hu (nle rfl)
         ·exact absurd hu (nle rfl)
         ·exact absurd hu (nle rfl)
        | 1,_,_ =>
         rcases st with _ | ⟨x181,_ | ⟨x182,_ | ⟨x183,_ | x184⟩⟩⟩
         ·dsimp only at hC
          exact dP (.int .i64 a1) hC
         ·dsimp only at hC
          exact dP (.int .i64 a1) hC
         ·exact absurd hu (nle rfl)
         ·exact absurd hu (nle rfl)
         ·exact absurd hu (nle rfl)
        | 2,_,_ =>
         rcases st with _ | ⟨x181,_ | ⟨x182,_ | ⟨x183,_ | x184⟩⟩⟩
         ·dsimp only at hC
          exact dP (.int .i64 a1) hC
         ·dsimp only at hC
          exact dP (.int .i64 a1) hC
         ·exact absurd hu (nle rfl)
         ·exact absurd hu (nle rfl)
         ·exact absurd hu (nle rfl)
        | 3,_,_ =>
         rcases st with _ | ⟨x181,_ | ⟨x182,_ | ⟨x183,_ | x184⟩⟩⟩
         ·dsimp only at hC
          exact dP (.int .i64 t156) hC
         ·dsimp only at hC
          exact dP (.int .i64 t156) hC
         ·exact absurd hu (nle rfl)
         ·exact absurd hu (nle rfl)
         ·exact absurd hu (nle rfl)
        | 4,_,_ =>
         rcases st with _ | ⟨x181,_ | ⟨x182,_ | ⟨x183,_ | x184⟩⟩⟩
         ·dsimp only at hC
          exact dP (.int .i64 (IntKind.i64.wrap (a1 + t156))) hC
         ·dsimp only at hC
          exact dP (.int .i64 (IntKind.i64.wrap (a1 + t156))) hC
         ·exact absurd hu (nle rfl)
         ·exact absurd hu (nle rfl)
         ·exact absurd hu (nle rfl)
        | 5,_,_ =>
         rcases st with _ | ⟨x181,_ | ⟨x182,_ | ⟨x183,_ | x184⟩⟩⟩
         ·dsimp only at hC
          exact does_run (x_cutStr_ss (t:=9) (x:=(.tmp 127)) (lo:=(.tmp 128)) (hi:=(.tmp 131)) (k:=.i64) (k':=.i64) (by kernel_rfl) (by kernel_rfl) (by kernel_rfl) (by kernel_rfl) g179 (by kernel_rfl)) rfl hC
         ·dsimp only at hC
          exact does_run (x_cutStr_ss (t:=9) (x:=(.tmp 127)) (lo:=(.tmp 128)) (hi:=(.tmp 131)) (k:=.i64) (k':=.i64) (by kernel_rfl) (by kernel_rfl) (by kernel_rfl) (by kernel_rfl) g179 (by kernel_rfl)) rfl hC
         ·exact absurd hu (nle rfl)
         ·exact absurd hu (nle rfl)
         ·exact absurd hu (nle rfl)
        | 6,_,_ =>
         rcases st with _ | ⟨x181,_ | ⟨x182,_ | ⟨x183,_ | x184⟩⟩⟩
         ·dsimp only at hC
          exact dP (.int .i64 t164) hC
         ·dsimp only at hC
          exact dP (.int .i64 t164) hC
         ·dsimp only at hC
          exact dP (.int .i64 t164) hC
         ·exact absurd hu (nle rfl)
         ·exact absurd hu (nle rfl)
        | 7,_,_ =>
         rcases st with _ | ⟨x181,_ | ⟨x182,_ | ⟨x183,_ | x184⟩⟩⟩
         ·dsimp only at hC
          exact dP (.int .i64 a1) hC
         ·dsimp only at hC
          exact dP (.int .i64 a1) hC
         ·dsimp only at hC
          exact dP (.int .i64 a1) hC
         ·dsimp only at hC
          exact dP (.int .i64 a1) hC
         ·exact absurd hu (nle rfl)
        | 8,_,_ =>
         rcases st with _ | ⟨x181,_ | ⟨x182,_ | ⟨x183,_ | x184⟩⟩⟩
         ·dsimp only at hC
          exact dP (.int .i64 t156) hC
         ·dsimp only at hC
          exact dP (.int .i64 t156) hC
         ·dsimp only at hC
          exact dP (.int .i64 t156) hC
         ·dsimp only at hC
          exact dP (.int .i64 t156) hC
         ·exact absurd hu (nle rfl)
        | 9,_,_ =>
         rcases st with _ | ⟨x181,_ | ⟨x182,_ | ⟨x183,_ | x184⟩⟩⟩
         ·dsimp only at hC
          exact dP (.int .i64 (IntKind.i64.wrap (a1 + t156))) hC
         ·dsimp only at hC
          exact dP (.int .i64 (IntKind.i64.wrap (a1 + t156))) hC
         ·dsimp only at hC
          exact dP (.int .i64 (IntKind.i64.wrap (a1 + t156))) hC
         ·dsimp only at hC
          exact dP (.int .i64 (IntKind.i64.wrap (a1 + t156))) hC
         ·exact absurd hu (nle rfl)
        | 10,_,_ =>
         rcases st with _ | ⟨x181,_ | ⟨x182,_ | ⟨x183,_ | x184⟩⟩⟩
         ·dsimp only at hC
          exact dP (.pointer (some ⟨b5,0,none⟩)) hC
         ·exact absurd hu (nle rfl)
         ·exact absurd hu (nle rfl)
         ·exact absurd hu (nle rfl)
         ·exact absurd hu (nle rfl)
        | 11,_,he => exact absurd he (by decide)
        | 12,_,_ =>
         rcases st with _ | ⟨x181,_ | ⟨x182,_ | ⟨x183,_ | x184⟩⟩⟩
         ·exact absurd hr (nle rfl)
         ·dsimp only at hC
          exact dP (.pointer (some ⟨b5,1,none⟩)) hC
         ·exact absurd hu (nle rfl)
         ·exact absurd hu (nle rfl)
         ·exact absurd hu (nle rfl)
        | 13,_,he => exact absurd he (by decide)
        | 14,_,_ =>
         rcases st with _ | ⟨x181,_ | ⟨x182,_ | ⟨x183,_ | x184⟩⟩⟩
         ·exact absurd hr (nle rfl)
         ·exact absurd hr (nle rfl)
         ·dsimp only at hC
          exact dP (.pointer (some ⟨b5,2,none⟩)) hC
         ·exact absurd hu (nle rfl)
         ·exact absurd hu (nle rfl)
        | 15,_,he => exact absurd he (by decide)
        | 16,_,_ =>
         rcases st with _ | ⟨x181,_ | ⟨x182,_ | ⟨x183,_ | x184⟩⟩⟩
         ·exact absurd hr (nle rfl)
         ·exact absurd hr (nle rfl)
         ·exact absurd hr (nle rfl)
         ·dsimp only at hC
          exact dP (.pointer (some ⟨b5,6,none⟩)) hC
         ·exact absurd hu (nle rfl)
        | 17,_,he => exact absurd he (by decide)
        | i + 18,hi,_ => exact absurd hi (by omega)
       ·intro k hk st w hC hr
        match k,hk with
        | 0,_ =>
         rcases st with _ | ⟨x181,_ | ⟨x182,_ | ⟨x183,_ | x184⟩⟩⟩
         ·dsimp only at hC
          have hC:=hC.pick1
          refine dS 3 (.tmp 137) (.const (.int .i64 2)) 0 (.int .i64 2) [.int .i64 2] (enc_api_Token (⟨2,(⟨#[]⟩ : ByteArray),0,0,0,a1,0⟩ : api_Token)) hC ?_
          intro w2 h2
          refine ⟨some ((),none),rfl,?_,.inl rfl,h2⟩
          intro j hj
          match j,hj with
          | 0,_ => exact rfl
          | 1,_ => exact rfl
          | 2,_ => exact rfl
          | 3,_ => exact rfl
          | 4,_ => exact rfl
          | 5,_ => exact rfl
          | 6,_ => exact rfl
          | 7,_ => exact rfl
          | 8,_ => exact rfl
          | 9,_ => exact rfl
          | 10,_ => exact rfl
          | 11,hj => exact absurd hj (by decide)
          | 12,hj => exact absurd hj (by decide)
          | 13,hj => exact absurd hj (by decide)
          | 14,hj => exact absurd hj (by decide)
          | 15,hj => exact absurd hj (by decide)
          | 16,hj => exact absurd hj (by decide)
          | 17,hj => exact absurd hj (by decide)
          | j + 18,_ => exact rfl
         ·exact absurd hr (Nat.ne_of_beq_eq_false rfl)
         ·exact absurd hr (Nat.ne_of_beq_eq_false rfl)
         ·exact absurd hr (Nat.ne_of_beq_eq_false rfl)
         ·exact absurd hr (Nat.ne_of_beq_eq_false rfl)
        | 1,_ =>
         rcases st with _ | ⟨x181,_ | ⟨x182,_ | ⟨x183,_ | x184⟩⟩⟩
         ·exact absurd hr (Nat.ne_of_beq_eq_false rfl)
         ·dsimp only at hC
          refine dS 9 (.tmp 138) (.tmp 132) 1 (.string (a0.extract a1.toNat (IntKind.i64.wrap (a1 + t156)).toNat)) [.string (a0.extract a1.toNat (IntKind.i64.wrap (a1 + t156)).toNat)] (enc_api_Token (⟨2,(a0.extract a1.toNat (IntKind.i64.wrap (a1 + t156)).toNat),0,0,0,a1,0⟩ : api_Token)) hC ?_
          intro w2 h2
          refine ⟨some (x181,some ((),none)),rfl,?_,.inl rfl,h2⟩
          intro j hj
          match j,hj with
          | 0,_ => exact rfl
          | 1,_ => exact rfl
          | 2,_ => exact rfl
          | 3,_ => exact rfl
          | 4,_ => exact rfl
          | 5,_ => exact rfl
          | 6,_ => exact rfl
          | 7,_ => exact rfl
          | 8,_ => exact rfl
          | 9,_ => exact rfl
          | 10,_ => exact rfl
          | 11,_ => exact rfl
          | 12,_ => exact rfl
          | 13,hj => exact absurd hj (by decide)
          | 14,hj => exact absurd hj (by decide)
          | 15,hj => exact absurd hj (by decide)
          | 16,hj => exact absurd hj (by decide)
          | 17,hj => exact absurd hj (by decide)
          | j + 18,_ => exact rfl
         ·exact absurd hr (Nat.ne_of_beq_eq_false rfl)
         ·exact absurd hr (Nat.ne_of_beq_eq_false rfl)
         ·exact absurd hr (Nat.ne_of_beq_eq_false rfl)
        | 2,_ =>
         rcases st with _ | ⟨x181,_ | ⟨x182,_ | ⟨x183,_ | x184⟩⟩⟩
         ·exact absurd hr (Nat.ne_of_beq_eq_false rfl)
         ·exact absurd hr (Nat.ne_of_beq_eq_false rfl)
         ·dsimp only at hC
          refine dS 2 (.tmp 139) (.tmp 133) 2 (.int .i64 t164) [.int .i64 t164] (enc_api_Token (⟨2,(a0.extract a1.toNat (IntKind.i64.wrap (a1 + t156)).toNat),t164,0,0,a1,0⟩ : api_Token)) hC ?_
          intro w2 h2
          refine ⟨some (x181,some (x182,some ((),none))),rfl,?_,.inl rfl,h2⟩
          intro j hj
          match j,hj with
          | 0,_ => exact rfl
          | 1,_ => exact rfl
          | 2,_ => exact rfl
          | 3,_ => exact rfl
          | 4,_ => exact rfl
          | 5,_ => exact rfl
          | 6,_ => exact rfl
          | 7,_ => exact rfl
          | 8,_ => exact rfl
          | 9,_ => exact rfl
          | 10,_ => exact rfl
          | 11,_ => exact rfl
          | 12,_ => exact rfl
          | 13,_ => exact rfl
          | 14,_ => exact rfl
          | 15,hj => exact absurd hj (by decide)
          | 16,hj => exact absurd hj (by decide)
          | 17,hj => exact absurd hj (by decide)
          | j + 18,_ => exact rfl
         ·exact absurd hr (Nat.ne_of_beq_eq_false rfl)
         ·exact absurd hr (Nat.ne_of_beq_eq_false rfl)
        | 3,_ =>
         rcases st with _ | ⟨x181,_ | ⟨x182,_ | ⟨x183,_ | x184⟩⟩⟩
         ·exact absurd hr (Nat.ne_of_beq_eq_false rfl)
         ·exact absurd hr (Nat.ne_of_beq_eq_false rfl)
         ·exact absurd hr (Nat.ne_of_beq_eq_false rfl)
         ·dsimp only at hC
          refine dS 3 (.tmp 140) (.tmp 136) 6 (.int .i64 (IntKind.i64.wrap (a1 + t156))) [.int .i64 (IntKind.i64.wrap (a1 + t156))] (enc_api_Token (⟨2,(a0.extract a1.toNat (IntKind.i64.wrap (a1 + t156)).toNat),t164,0,0,a1,(IntKind.i64.wrap (a1 + t156))⟩ : api_Token)) hC ?_
          intro w2 h2
          refine ⟨some (x181,some (x182,some (x183,some ()))),rfl,?_,.inl rfl,h2⟩
          intro j hj
          match j,hj with
          | 0,_ => exact rfl
          | 1,_ => exact rfl
          | 2,_ => exact rfl
          | 3,_ => exact rfl
          | 4,_ => exact rfl
          | 5,_ => exact rfl
          | 6,_ => exact rfl
          | 7,_ => exact rfl
          | 8,_ => exact rfl
          | 9,_ => exact rfl
          | 10,_ => exact rfl
          | 11,_ => exact rfl
          | 12,_ => exact rfl
          | 13,_ => exact rfl
          | 14,_ => exact rfl
          | 15,_ => exact rfl
          | 16,_ => exact rfl
          | 17,hj => exact absurd hj (by decide)
          | j + 18,_ => exact rfl
         ·exact absurd hr (Nat.ne_of_beq_eq_false rfl)
        | k + 4,hk => exact absurd hk (by simp)
       intro st188 w185 hS186 hr187
       rcases st188 with _ | ⟨x181,_ | ⟨x182,_ | ⟨x183,_ | x184⟩⟩⟩
       ·exact absurd hr187 (nle rfl)
       ·exact absurd hr187 (nle rfl)
       ·exact absurd hr187 (nle rfl)
       ·exact absurd hr187 (nle rfl)
       replace hS186 : St w0 Z (xblk b5 39 (enc_api_Token (⟨2,(a0.extract a1.toNat (IntKind.i64.wrap (a1 + t156)).toNat),t164,0,0,a1,(IntKind.i64.wrap (a1 + t156))⟩ : api_Token))::xblk b1 39 (enc_api_Token (⟨0,(⟨#[]⟩ : ByteArray),0,0,0,0,0⟩ : api_Token))::fs) w185:=hS186
       refine sR 1 td228 ?_
       have hS189:=hS186.pick1
       refine rF (mk 189 [(4,.pointer (some ⟨b1,0,none⟩)),(7,.pointer (some ⟨b5,0,none⟩))]) ?_
       exact J25 (⟨2,(a0.extract a1.toNat (IntKind.i64.wrap (a1 + t156)).toNat),t164,0,0,a1,(IntKind.i64.wrap (a1 + t156))⟩ : api_Token) (Option.some.inj hp180) _ _ hS189
      have L199 : ∀ (t190 : Int) (e194 : Int),weirref05_token.l1 a0 a1 t190 = some e194 → e194 = v153 → ∀ (l193 : List Value) (w191 : World) (hS192 : St w0 Z (xblk b1 39 (enc_api_Token (⟨0,(⟨#[]⟩ : ByteArray),0,0,0,0,0⟩ : api_Token))::xblk b5 39 (enc_api_Token (⟨0,(⟨#[]⟩ : ByteArray),0,0,0,a1,0⟩ : api_Token))::fs) w191),Runs Tryz.prog (fx 69) td265 (fill (mk 189 [(0,.string a0),(1,.int .i64 a1),(4,.pointer (some ⟨b1,0,none⟩)),(7,.pointer (some ⟨b5,0,none⟩)),(9,.int .i64 t190)]) l193) w191 R:=by
       refine weirref05_token.l1.partial_correctness a0 a1 (fun t190 e194 => e194 = v153 → ∀ (l193 : List Value) (w191 : World) (hS192 : St w0 Z (xblk b1 39 (enc_api_Token (⟨0,(⟨#[]⟩ : ByteArray),0,0,0,0,0⟩ : api_Token))::xblk b5 39 (enc_api_Token (⟨0,(⟨#[]⟩ : ByteArray),0,0,0,a1,0⟩ : api_Token))::fs) w191),Runs Tryz.prog (fx 69) td265 (fill (mk 189 [(0,.string a0),(1,.int .i64 a1),(4,.pointer (some ⟨b1,0,none⟩)),(7,.pointer (some ⟨b5,0,none⟩)),(9,.int .i64 t190)]) l193) w191 R) ?_
       intro rec198 ih197 t190 e194 hb196 he195 l193 w191 hS192
       obtain ⟨v200,hv201,hp202⟩:=bind_some' hb196
       have hq205 : ∀ x,Sum.inr x = v200 → x = e194:=by intro x hx; subst hx; simpa using hp202
       have J206 : ∀ (he208 : Sum.inl () = v200) (l207 : List Value) (w203 : World) (hS204 : St w0 Z (xblk b1 39 (enc_api_Token (⟨0,(⟨#[]⟩ : ByteArray),0,0,0,0,0⟩ : api_Token))::xblk b5 39 (enc_api_Token (⟨0,(⟨#[]⟩ : ByteArray),0,0,0,a1,0⟩ : api_Token))::fs) w203),Runs Tryz.prog (fx 69) td268 (fill (mk 189 [(0,.string a0),(1,.int .i64 a1),(4,.pointer (some ⟨b1,0,none⟩)),(7,.pointer (some ⟨b5,0,none⟩)),(9,.int .i64 t190)]) l207) w203 R:=by
        intro he208 l207 w203 hS204
        subst he208
        try dsimp only at hp202
        refine sR 7 td264 ?_
        refine sR 1 td265 ?_
        refine rF (mk 189 [(0,.string a0),(1,.int .i64 a1),(4,.pointer (some ⟨b1,0,none⟩)),(7,.pointer (some ⟨b5,0,none⟩)),(9,.int .i64 (IntKind.i64.wrap (t190 + 1)))]) ?_
        exact ih197 (IntKind.i64.wrap (t190 + 1)) _ hp202 he195 _ _ hS204
       refine sS 9 (iR p69_40 6 24::td269) 85 (decide ((IntKind.i64.wrap (a1 + t190)) < (a0.size : Int))) (fun h209 => ?_) fun h210 => ?_
       ·have hp211:=ite_t hv201 h209
        refine sR 5 (iR p69_40 11 19::td269) ?_
        obtain ⟨g212,hp213⟩:=ite_some hp211
        refine rV (.index 9 (.tmp 87) (.tmp 90)) (.int .u8 (byt a0 (IntKind.i64.wrap (a1 + t190)))) (fun o ho _ => x_indexStr (kk:=.i64) (by kernel_rfl) (by kernel_rfl) (by kernel_rfl) g212.1 g212.2 ho) ?_
        obtain ⟨t214,hr215,hp216⟩:=bind_some' hp213
        refine rC (weirref05_letter.ok (byt a0 (IntKind.i64.wrap (a1 + t190))) hS192 hr215) ?_
        rintro _ w217 ⟨rfl,hS218⟩
        refine ⟨_,rfl,?_⟩
        refine sR 1 (iR p69_40 14 16::td269) ?_
        cases t214
        ·have hp219:=ite_f hp216 rfl
         refine sR 4 (iR p69_40 18 12::td269) ?_
         obtain ⟨g220,hp221⟩:=ite_some hp219
         refine rV (.index 9 (.tmp 94) (.tmp 97)) (.int .u8 (byt a0 (IntKind.i64.wrap (a1 + t190)))) (fun o ho _ => x_indexStr (kk:=.i64) (by kernel_rfl) (by kernel_rfl) (by kernel_rfl) g220.1 g220.2 ho) ?_
         obtain ⟨t222,hr223,hp224⟩:=bind_some' hp221
         refine rC (weirref05_digit.ok (byt a0 (IntKind.i64.wrap (a1 + t190))) hS218 hr223) ?_
         rintro _ w225 ⟨rfl,hS226⟩
         refine ⟨_,rfl,?_⟩
         refine sR 2 (iR p69_40 22 8::td269) ?_
         cases t222
         ·have hp227:=ite_f hp224 rfl
          refine sR 4 (iR p69_40 26 4::td269) ?_
          obtain ⟨g228,hp229⟩:=ite_some hp227
          refine rV (.index 9 (.tmp 102) (.tmp 105)) (.int .u8 (byt a0 (IntKind.i64.wrap (a1 + t190)))) (fun o ho _ => x_indexStr (kk:=.i64) (by kernel_rfl) (by kernel_rfl) (by kernel_rfl) g228.1 g228.2 ho) ?_
          refine sS 1 (.inRegion (opsOf p69_40) [28,29]::td269) 107 ((byt a0 (IntKind.i64.wrap (a1 + t190))) == 46) (fun h230 => ?_) fun h231 => ?_
          ·have hp232:=ite_t hp229 h230
           refine sR 5 td268 ?_
           refine rF (mk 189 [(0,.string a0),(1,.int .i64 a1),(4,.pointer (some ⟨b1,0,none⟩)),(7,.pointer (some ⟨b5,0,none⟩)),(9,.int .i64 t190)]) ?_
           exact J206 (Option.some.inj hp232) _ _ hS226
          have hp233:=ite_f hp229 h231
          refine sR 5 td262 ?_
          refine rF (mk 189 [(0,.string a0),(1,.int .i64 a1),(4,.pointer (some ⟨b1,0,none⟩)),(7,.pointer (some ⟨b5,0,none⟩)),(9,.int .i64 t190)]) ?_
          exact J159 t190 ((hq205 _ (Option.some.inj hp233)).trans he195) _ _ hS226
         have hp234:=ite_t hp224 rfl
         refine sR 11 td268 ?_
         refine rF (mk 189 [(0,.string a0),(1,.int .i64 a1),(4,.pointer (some ⟨b1,0,none⟩)),(7,.pointer (some ⟨b5,0,none⟩)),(9,.int .i64 t190)]) ?_
         exact J206 (Option.some.inj hp234) _ _ hS226
        have hp235:=ite_t hp216 rfl
        refine sR 19 td268 ?_
        refine rF (mk 189 [(0,.string a0),(1,.int .i64 a1),(4,.pointer (some ⟨b1,0,none⟩)),(7,.pointer (some ⟨b5,0,none⟩)),(9,.int .i64 t190)]) ?_
        exact J206 (Option.some.inj hp235) _ _ hS218
       have hp236:=ite_f hv201 h210
       refine sR 27 td262 ?_
       refine rF (mk 189 [(0,.string a0),(1,.int .i64 a1),(4,.pointer (some ⟨b1,0,none⟩)),(7,.pointer (some ⟨b5,0,none⟩)),(9,.int .i64 t190)]) ?_
       exact J159 t190 ((hq205 _ (Option.some.inj hp236)).trans he195) _ _ hS192
      have hS237:=hS56.pick1
      refine rF (mk 189 [(0,.string a0),(1,.int .i64 a1),(4,.pointer (some ⟨b1,0,none⟩)),(7,.pointer (some ⟨b5,0,none⟩)),(9,.int .i64 1)]) ?_
      exact L199 1 _ hv154 rfl _ _ hS237
     have hp238:=ite_f hp46 h48
     refine sR 16 td232 ?_
     obtain ⟨g239,hp240⟩:=ite_some hp238
     refine rV (.index 9 (.tmp 142) (.tmp 143)) (.int .u8 (byt a0 a1)) (fun o ho _ => x_indexStr (kk:=.i64) (by kernel_rfl) (by kernel_rfl) (by kernel_rfl) g239.1 g239.2 ho) ?_
     refine sS 1 td233 145 ((byt a0 a1) == 34) (fun h241 => ?_) fun h242 => ?_
     ·have hp243:=ite_t hp240 h241
      refine sR 12 td237 ?_
      obtain ⟨v244,hv245,hp246⟩:=bind_some' hp243
      have J250 : ∀ (t247 : Int) (he252 : t247 = v244) (l251 : List Value) (w248 : World) (hS249 : St w0 Z (xblk b1 39 (enc_api_Token (⟨0,(⟨#[]⟩ : ByteArray),0,0,0,0,0⟩ : api_Token))::xblk b5 39 (enc_api_Token (⟨0,(⟨#[]⟩ : ByteArray),0,0,0,a1,0⟩ : api_Token))::fs) w248),Runs Tryz.prog (fx 69) td234 (fill (mk 189 [(0,.string a0),(1,.int .i64 a1),(4,.pointer (some ⟨b1,0,none⟩)),(7,.pointer (some ⟨b5,0,none⟩)),(12,.int .i64 t247)]) l251) w248 R:=by
       intro t247 he252 l251 w248 hS249
       subst he252
       try dsimp only at hp246
       refine sS 7 td240 169 (t247 == (a0.size : Int)) (fun h253 => ?_) fun h254 => ?_
       ·have hp255:=ite_t hp246 h253
        refine sR 12 td242 ?_
        refine rSA 39 (.tmp 4) (.tmp 176) (enc_api_Token (⟨0,(⟨#[]⟩ : ByteArray),0,0,0,0,0⟩ : api_Token)) hS249 (one_api_Token _) ?_
        intro w256 hS257
        refine sR 3 td241 ?_
        refine r_isret (c:=p69_19) (by kernel_rfl) ?_
        have hS258:=hS257.drop
        have hS259:=hS258.drop
        refine rRc (.tuple #[.agg (enc_api_Token (⟨0,(⟨#[]⟩ : ByteArray),0,0,0,0,0⟩ : api_Token)).toArray,.int .i64 50,.int .i64 t247]) (.ca 4 39 (hS257.blk 0 rfl) (.tm 5 (.tm 6 .nil))) Tryz.func69 ?_
        cases hq24 _ (Option.some.inj hp255)
        exact hR _ _ ⟨rfl,hS259⟩
       have hp261:=ite_f hp246 h254
       refine sR 3 td243 ?_
       obtain ⟨g262,hp263⟩:=ite_some hp261
       refine rV (.index 9 (.tmp 171) (.tmp 172)) (.int .u8 (byt a0 t247)) (fun o ho _ => x_indexStr (kk:=.i64) (by kernel_rfl) (by kernel_rfl) (by kernel_rfl) g262.1 g262.2 ho) ?_
       refine sS 1 td244 174 ((byt a0 t247) == 10) (fun h264 => ?_) fun h265 => ?_
       ·have hp266:=ite_t hp263 h264
        refine sR 7 td242 ?_
        refine rSA 39 (.tmp 4) (.tmp 176) (enc_api_Token (⟨0,(⟨#[]⟩ : ByteArray),0,0,0,0,0⟩ : api_Token)) hS249 (one_api_Token _) ?_
        intro w267 hS268
        refine sR 3 td241 ?_
        refine r_isret (c:=p69_19) (by kernel_rfl) ?_
        have hS269:=hS268.drop
        have hS270:=hS269.drop
        refine rRc (.tuple #[.agg (enc_api_Token (⟨0,(⟨#[]⟩ : ByteArray),0,0,0,0,0⟩ : api_Token)).toArray,.int .i64 50,.int .i64 t247]) (.ca 4 39 (hS268.blk 0 rfl) (.tm 5 (.tm 6 .nil))) Tryz.func69 ?_
        cases hq24 _ (Option.some.inj hp266)
        exact hR _ _ ⟨rfl,hS270⟩
       have hp272:=ite_f hp263 h265
       refine sR 4 td238 ?_
       obtain ⟨g273,hp274⟩:=ite_some hp272
       refine r_drawnG (S:=Option (Unit × Option (Unit × Option Unit))) (rank:=(fun st => match st with | none => 0 | some (x275,none) => 1 | some (x275,some (x276,none)) => 2 | some (x275,some (x276,some x277)) => 3)) (C:=(fun st w' => match st with | none => St w0 Z (xblk b1 39 (enc_api_Token (⟨0,(⟨#[]⟩ : ByteArray),0,0,0,0,0⟩ : api_Token))::xblk b5 39 (enc_api_Token (⟨0,(⟨#[]⟩ : ByteArray),0,0,0,a1,0⟩ : api_Token))::fs) w' | some (x275,none) => St w0 Z (xblk b5 39 (enc_api_Token (⟨3,(⟨#[]⟩ : ByteArray),0,0,0,a1,0⟩ : api_Token))::xblk b1 39 (enc_api_Token (⟨0,(⟨#[]⟩ : ByteArray),0,0,0,0,0⟩ : api_Token))::fs) w' | some (x275,some (x276,none)) => St w0 Z (xblk b5 39 (enc_api_Token (⟨3,(a0.extract (IntKind.i64.wrap (a1 + 1)).toNat t247.toNat),0,0,0,a1,0⟩ : api_Token))::xblk b1 39 (enc_api_Token (⟨0,(⟨#[]⟩ : ByteArray),0,0,0,0,0⟩ : api_Token))::fs) w' | some (x275,some (x276,some x277)) => St w0 Z (xblk b5 39 (enc_api_Token (⟨3,(a0.extract (IntKind.i64.wrap (a1 + 1)).toNat t247.toNat),0,0,0,a1,(IntKind.i64.wrap (t247 + 1))⟩ : api_Token))::xblk b1 39 (enc_api_Token (⟨0,(⟨#[]⟩ : ByteArray),0,0,0,0,0⟩ : api_Token))::fs) w')) (v:=(fun st => match st with | none => [.string a0,.int .i64 a1,.int .i64 (IntKind.i64.wrap (a1 + 1)),.int .i64 t247,.string (a0.extract (IntKind.i64.wrap (a1 + 1)).toNat t247.toNat),.int .i64 t247,.int .i64 (IntKind.i64.wrap (t247 + 1)),.pointer (some ⟨b5,0,none⟩),undef,undef,undef,undef,undef] | some (x275,none) => [.string a0,.int .i64 a1,.int .i64 (IntKind.i64.wrap (a1 + 1)),.int .i64 t247,.string (a0.extract (IntKind.i64.wrap (a1 + 1)).toNat t247.toNat),.int .i64 t247,.int .i64 (IntKind.i64.wrap (t247 + 1)),.pointer (some ⟨b5,0,none⟩),undef,.pointer (some ⟨b5,1,none⟩),undef,undef,undef] | some (x275,some (x276,none)) => [.string a0,.int .i64 a1,.int .i64 (IntKind.i64.wrap (a1 + 1)),.int .i64 t247,.string (a0.extract (IntKind.i64.wrap (a1 + 1)).toNat t247.toNat),.int .i64 t247,.int .i64 (IntKind.i64.wrap (t247 + 1)),.pointer (some ⟨b5,0,none⟩),undef,.pointer (some ⟨b5,1,none⟩),undef,.pointer (some ⟨b5,6,none⟩),undef] | some (x275,some (x276,some x277)) => [.string a0,.int .i64 a1,.int .i64 (IntKind.i64.wrap (a1 + 1)),.int .i64 t247,.string (a0.extract (IntKind.i64.wrap (a1 + 1)).toNat t247.toNat),.int .i64 t247,.int .i64 (IntKind.i64.wrap (t247 + 1)),.pointer (some ⟨b5,0,none⟩),undef,.pointer (some ⟨b5,1,none⟩),undef,.pointer (some ⟨b5,6,none⟩),undef])) (c:=p69_17) (id:=25) none 8 13 [8,10,12] [0,0,0,0,0,0,0,0,0,1,1,2,2] [1,1,1,1,1,2,2,0,1,1,2,2,3] [] (by kernel_rfl) (by kernel_rfl) (by kernel_rfl) (by kernel_rfl) (by kernel_rfl) (by kernel_rfl) (by kernel_rfl) (by kernel_rfl) (by kernel_rfl) (by kernel_rfl) rfl hS249.drew ?_ ?_ ?_ ?_
       ·intro st w hC
        rcases st with _ | ⟨x275,_ | ⟨x276,_ | x277⟩⟩
        ·exact nbl rfl
        ·exact nbl rfl
        ·exact nbl rfl
        ·exact nbl rfl
       ·intro i hi he st w hC hr hu
        match i,hi,he with
        | 0,_,_ =>
         rcases st with _ | ⟨x275,_ | ⟨x276,_ | x277⟩⟩
         ·dsimp only at hC
          exact dP (.string a0) hC
         ·dsimp only at hC
          exact dP (.string a0) hC
         ·exact absurd hu (nle rfl)
         ·exact absurd hu (nle rfl)
        | 1,_,_ =>
         rcases st with _ | ⟨x275,_ | ⟨x276,_ | x277⟩⟩
         ·dsimp only at hC
          exact dP (.int .i64 a1) hC
         ·dsimp only at hC
          exact dP (.int .i64 a1) hC
         ·exact absurd hu (nle rfl)
         ·exact absurd hu (nle rfl)
        | 2,_,_ =>
         rcases st with _ | ⟨x275,_ | ⟨x276,_ | x277⟩⟩
         ·dsimp only at hC
          exact dP (.int .i64 (IntKind.i64.wrap (a1 + 1))) hC
         ·dsimp only at hC
          exact dP (.int .i64 (IntKind.i64.wrap (a1 + 1))) hC
         ·exact absurd hu (nle rfl)
         ·exact absurd hu (nle rfl)
        | 3,_,_ =>
         rcases st with _ | ⟨x275,_ | ⟨x276,_ | x277⟩⟩
         ·dsimp only at hC
          exact dP (.int .i64 t247) hC
         ·dsimp only at hC
          exact dP (.int .i64 t247) hC
         ·exact absurd hu (nle rfl)
         ·exact absurd hu (nle rfl)
        | 4,_,_ =>
         rcases st with _ | ⟨x275,_ | ⟨x276,_ | x277⟩⟩
         ·dsimp only at hC
          exact does_run (x_cutStr_ss (t:=9) (x:=(.tmp 178)) (lo:=(.tmp 180)) (hi:=(.tmp 181)) (k:=.i64) (k':=.i64) (by kernel_rfl) (by kernel_rfl) (by kernel_rfl) (by kernel_rfl) g273 (by kernel_rfl)) rfl hC
         ·dsimp only at hC
          exact does_run (x_cutStr_ss (t:=9) (x:=(.tmp 178)) (lo:=(.tmp 180)) (hi:=(.tmp 181)) (k:=.i64) (k':=.i64) (by kernel_rfl) (by kernel_rfl) (by kernel_rfl) (by kernel_rfl) g273 (by kernel_rfl)) rfl hC
         ·exact absurd hu (nle rfl)
         ·exact absurd hu (nle rfl)
        | 5,_,_ =>
         rcases st with _ | ⟨x275,_ | ⟨x276,_ | x277⟩⟩
         ·dsimp only at hC
          exact dP (.int .i64 t247) hC
         ·dsimp only at hC
          exact dP (.int .i64 t247) hC
         ·dsimp only at hC
          exact dP (.int .i64 t247) hC
         ·exact absurd hu (nle rfl)
        | 6,_,_ =>
         rcases st with _ | ⟨x275,_ | ⟨x276,_ | x277⟩⟩
         ·dsimp only at hC
          exact dP (.int .i64 (IntKind.i64.wrap (t247 + 1))) hC
         ·dsimp only at hC
          exact dP (.int .i64 (IntKind.i64.wrap (t247 + 1))) hC
         ·dsimp only at hC
          exact dP (.int .i64 (IntKind.i64.wrap (t247 + 1))) hC
         ·exact absurd hu (nle rfl)
        | 7,_,_ =>
         rcases st with _ | ⟨x275,_ | ⟨x276,_ | x277⟩⟩
         ·dsimp only at hC
          exact dP (.pointer (some ⟨b5,0,none⟩)) hC
         ·exact absurd hu (nle rfl)
         ·exact absurd hu (nle rfl)
         ·exact absurd hu (nle rfl)
        | 8,_,he => exact absurd he (by decide)
        | 9,_,_ =>
         rcases st with _ | ⟨x275,_ | ⟨x276,_ | x277⟩⟩
         ·exact absurd hr (nle rfl)
         ·dsimp only at hC
          exact dP (.pointer (some ⟨b5,1,none⟩)) hC
         ·exact absurd hu (nle rfl)
         ·exact absurd hu (nle rfl)
        | 10,_,he => exact absurd he (by decide)
        | 11,_,_ =>
         rcases st with _ | ⟨x275,_ | ⟨x276,_ | x277⟩⟩
         ·exact absurd hr (nle rfl)
         ·exact absurd hr (nle rfl)
         ·dsimp only at hC
          exact dP (.pointer (some ⟨b5,6,none⟩)) hC
         ·exact absurd hu (nle rfl)
        | 12,_,he => exact absurd he (by decide)
        | i + 13,hi,_ => exact absurd hi (by omega)
       ·intro k hk st w hC hr
        match k,hk with
        | 0,_ =>
         rcases st with _ | ⟨x275,_ | ⟨x276,_ | x277⟩⟩
         ·dsimp only at hC
          have hC:=hC.pick1
          refine dS 3 (.tmp 185) (.const (.int .i64 3)) 0 (.int .i64 3) [.int .i64 3] (enc_api_Token (⟨3,(⟨#[]⟩ : ByteArray),0,0,0,a1,0⟩ : api_Token)) hC ?_
          intro w2 h2
          refine ⟨some ((),none),rfl,?_,.inl rfl,h2⟩
          intro j hj
          match j,hj with
          | 0,_ => exact rfl
          | 1,_ => exact rfl
          | 2,_ => exact rfl
          | 3,_ => exact rfl
          | 4,_ => exact rfl
          | 5,_ => exact rfl
          | 6,_ => exact rfl
          | 7,_ => exact rfl
          | 8,hj => exact absurd hj (by decide)
          | 9,hj => exact absurd hj (by decide)
          | 10,hj => exact absurd hj (by decide)
          | 11,hj => exact absurd hj (by decide)
          | 12,hj => exact absurd hj (by decide)
          | j + 13,_ => exact rfl
         ·exact absurd hr (Nat.ne_of_beq_eq_false rfl)
         ·exact absurd hr (Nat.ne_of_beq_eq_false rfl)
         ·exact absurd hr (Nat.ne_of_beq_eq_false rfl)
        | 1,_ =>
         rcases st with _ | ⟨x275,_ | ⟨x276,_ | x277⟩⟩
         ·exact absurd hr (Nat.ne_of_beq_eq_false rfl)
         ·dsimp only at hC
          refine dS 9 (.tmp 186) (.tmp 182) 1 (.string (a0.extract (IntKind.i64.wrap (a1 + 1)).toNat t247.toNat)) [.string (a0.extract (IntKind.i64.wrap (a1 + 1)).toNat t247.toNat)] (enc_api_Token (⟨3,(a0.extract (IntKind.i64.wrap (a1 + 1)).toNat t247.toNat),0,0,0,a1,0⟩ : api_Token)) hC ?_
          intro w2 h2
          refine ⟨some (x275,some ((),none)),rfl,?_,.inl rfl,h2⟩
          intro j hj
          match j,hj with
          | 0,_ => exact rfl
          | 1,_ => exact rfl
          | 2,_ => exact rfl
          | 3,_ => exact rfl
          | 4,_ => exact rfl
          | 5,_ => exact rfl
          | 6,_ => exact rfl
          | 7,_ => exact rfl
          | 8,_ => exact rfl
          | 9,_ => exact rfl
          | 10,hj => exact absurd hj (by decide)
          | 11,hj => exact absurd hj (by decide)
          | 12,hj => exact absurd hj (by decide)
          | j + 13,_ => exact rfl
         ·exact absurd hr (Nat.ne_of_beq_eq_false rfl)
         ·exact absurd hr (Nat.ne_of_beq_eq_false rfl)
        | 2,_ =>
         rcases st with _ | ⟨x275,_ | ⟨x276,_ | x277⟩⟩
         ·exact absurd hr (Nat.ne_of_beq_eq_false rfl)
         ·exact absurd hr (Nat.ne_of_beq_eq_false rfl)
         ·dsimp only at hC
          refine dS 3 (.tmp 187) (.tmp 184) 6 (.int .i64 (IntKind.i64.wrap (t247 + 1))) [.int .i64 (IntKind.i64.wrap (t247 + 1))] (enc_api_Token (⟨3,(a0.extract (IntKind.i64.wrap (a1 + 1)).toNat t247.toNat),0,0,0,a1,(IntKind.i64.wrap (t247 + 1))⟩ : api_Token)) hC ?_
          intro w2 h2
          refine ⟨some (x275,some (x276,some ())),rfl,?_,.inl rfl,h2⟩
          intro j hj
          match j,hj with
          | 0,_ => exact rfl
          | 1,_ => exact rfl
          | 2,_ => exact rfl
          | 3,_ => exact rfl
          | 4,_ => exact rfl
          | 5,_ => exact rfl
          | 6,_ => exact rfl
          | 7,_ => exact rfl
          | 8,_ => exact rfl
          | 9,_ => exact rfl
          | 10,_ => exact rfl
          | 11,_ => exact rfl
          | 12,hj => exact absurd hj (by decide)
          | j + 13,_ => exact rfl
         ·exact absurd hr (Nat.ne_of_beq_eq_false rfl)
        | k + 3,hk => exact absurd hk (by simp)
       intro st281 w278 hS279 hr280
       rcases st281 with _ | ⟨x275,_ | ⟨x276,_ | x277⟩⟩
       ·exact absurd hr280 (nle rfl)
       ·exact absurd hr280 (nle rfl)
       ·exact absurd hr280 (nle rfl)
       replace hS279 : St w0 Z (xblk b5 39 (enc_api_Token (⟨3,(a0.extract (IntKind.i64.wrap (a1 + 1)).toNat t247.toNat),0,0,0,a1,(IntKind.i64.wrap (t247 + 1))⟩ : api_Token))::xblk b1 39 (enc_api_Token (⟨0,(⟨#[]⟩ : ByteArray),0,0,0,0,0⟩ : api_Token))::fs) w278:=hS279
       refine sR 1 td228 ?_
       have hS282:=hS279.pick1
       refine rF (mk 189 [(4,.pointer (some ⟨b1,0,none⟩)),(7,.pointer (some ⟨b5,0,none⟩))]) ?_
       exact J25 (⟨3,(a0.extract (IntKind.i64.wrap (a1 + 1)).toNat t247.toNat),0,0,0,a1,(IntKind.i64.wrap (t247 + 1))⟩ : api_Token) (Option.some.inj hp274) _ _ hS282
      have L292 : ∀ (t283 : Int) (e287 : Int),weirref05_token.l2 a0 t283 = some e287 → e287 = v244 → ∀ (l286 : List Value) (w284 : World) (hS285 : St w0 Z (xblk b1 39 (enc_api_Token (⟨0,(⟨#[]⟩ : ByteArray),0,0,0,0,0⟩ : api_Token))::xblk b5 39 (enc_api_Token (⟨0,(⟨#[]⟩ : ByteArray),0,0,0,a1,0⟩ : api_Token))::fs) w284),Runs Tryz.prog (fx 69) td237 (fill (mk 189 [(0,.string a0),(1,.int .i64 a1),(4,.pointer (some ⟨b1,0,none⟩)),(7,.pointer (some ⟨b5,0,none⟩)),(12,.int .i64 t283)]) l286) w284 R:=by
       refine weirref05_token.l2.partial_correctness a0 (fun t283 e287 => e287 = v244 → ∀ (l286 : List Value) (w284 : World) (hS285 : St w0 Z (xblk b1 39 (enc_api_Token (⟨0,(⟨#[]⟩ : ByteArray),0,0,0,0,0⟩ : api_Token))::xblk b5 39 (enc_api_Token (⟨0,(⟨#[]⟩ : ByteArray),0,0,0,a1,0⟩ : api_Token))::fs) w284),Runs Tryz.prog (fx 69) td237 (fill (mk 189 [(0,.string a0),(1,.int .i64 a1),(4,.pointer (some ⟨b1,0,none⟩)),(7,.pointer (some ⟨b5,0,none⟩)),(12,.int .i64 t283)]) l286) w284 R) ?_
       intro rec291 ih290 t283 e287 hb289 he288 l286 w284 hS285
       refine sS 7 td247 151 (decide (t283 < (a0.size : Int))) (fun h293 => ?_) fun h294 => ?_
       ·have hp295:=ite_t hb289 h293
        refine sR 3 td248 ?_
        obtain ⟨g296,hp297⟩:=ite_some hp295
        refine rV (.index 9 (.tmp 153) (.tmp 154)) (.int .u8 (byt a0 t283)) (fun o ho _ => x_indexStr (kk:=.i64) (by kernel_rfl) (by kernel_rfl) (by kernel_rfl) g296.1 g296.2 ho) ?_
        refine sS 1 td249 156 ((byt a0 t283) != 34) (fun h298 => ?_) fun h299 => ?_
        ·have hp300:=ite_t hp297 h298
         refine sR 4 td250 ?_
         obtain ⟨g301,hp302⟩:=ite_some hp300
         refine rV (.index 9 (.tmp 159) (.tmp 160)) (.int .u8 (byt a0 t283)) (fun o ho _ => x_indexStr (kk:=.i64) (by kernel_rfl) (by kernel_rfl) (by kernel_rfl) g301.1 g301.2 ho) ?_
         refine sS 1 td251 162 ((byt a0 t283) != 10) (fun h303 => ?_) fun h304 => ?_
         ·have hp305:=ite_t hp302 h303
          refine sR 11 td236 ?_
          refine sR 1 td237 ?_
          refine rF (mk 189 [(0,.string a0),(1,.int .i64 a1),(4,.pointer (some ⟨b1,0,none⟩)),(7,.pointer (some ⟨b5,0,none⟩)),(12,.int .i64 (IntKind.i64.wrap (t283 + 1)))]) ?_
          exact ih290 (IntKind.i64.wrap (t283 + 1)) _ hp305 he288 _ _ hS285
         have hp306:=ite_f hp302 h304
         refine sR 4 td234 ?_
         refine rF (mk 189 [(0,.string a0),(1,.int .i64 a1),(4,.pointer (some ⟨b1,0,none⟩)),(7,.pointer (some ⟨b5,0,none⟩)),(12,.int .i64 t283)]) ?_
         exact J250 t283 ((Option.some.inj hp306).trans he288) _ _ hS285
        have hp307:=ite_f hp297 h299
        refine sR 10 td234 ?_
        refine rF (mk 189 [(0,.string a0),(1,.int .i64 a1),(4,.pointer (some ⟨b1,0,none⟩)),(7,.pointer (some ⟨b5,0,none⟩)),(12,.int .i64 t283)]) ?_
        exact J250 t283 ((Option.some.inj hp307).trans he288) _ _ hS285
       have hp308:=ite_f hb289 h294
       refine sR 15 td234 ?_
       refine rF (mk 189 [(0,.string a0),(1,.int .i64 a1),(4,.pointer (some ⟨b1,0,none⟩)),(7,.pointer (some ⟨b5,0,none⟩)),(12,.int .i64 t283)]) ?_
       exact J250 t283 ((Option.some.inj hp308).trans he288) _ _ hS285
      have hS309:=hS40.pick1
      refine rF (mk 189 [(0,.string a0),(1,.int .i64 a1),(4,.pointer (some ⟨b1,0,none⟩)),(7,.pointer (some ⟨b5,0,none⟩)),(12,.int .i64 (IntKind.i64.wrap (a1 + 1)))]) ?_
      exact L292 (IntKind.i64.wrap (a1 + 1)) _ hv245 rfl _ _ hS309
     have hp310:=ite_f hp240 h242
     refine sR 7 td253 ?_
     obtain ⟨t311,hr312,hp313⟩:=bind_some' hp310
     refine rC (weirref05_sign.ok a0 a1 hS40 hr312) ?_
     rintro _ w314 ⟨rfl,hS315⟩
     refine ⟨_,rfl,?_⟩
     refine sS 7 td256 20 (seq t311 (⟨#[]⟩ : ByteArray)) (fun h316 => ?_) fun h317 => ?_
     ·have hp318:=ite_t hp313 h316
      refine sR 6 td258 ?_
      have hS319:=hS315.pick1
      refine rSA 39 (.tmp 4) (.tmp 21) (enc_api_Token (⟨0,(⟨#[]⟩ : ByteArray),0,0,0,0,0⟩ : api_Token)) hS319 (one_api_Token _) ?_
      intro w320 hS321
      refine sR 3 td257 ?_
      refine r_isret (c:=p69_29) (by kernel_rfl) ?_
      have hS322:=hS321.drop
      have hS323:=hS322.drop
      refine rRc (.tuple #[.agg (enc_api_Token (⟨0,(⟨#[]⟩ : ByteArray),0,0,0,0,0⟩ : api_Token)).toArray,.int .i64 50,.int .i64 a1]) (.ca 4 39 (hS321.blk 0 rfl) (.tm 5 (.tm 6 .nil))) Tryz.func69 ?_
      cases hq24 _ (Option.some.inj hp318)
      exact hR _ _ ⟨rfl,hS323⟩
     have hp325:=ite_f hp313 h317
     refine sR 10 td259 ?_
     refine rS 3 (.tmp 28) (.const (.int .i64 4)) 0 (.int .i64 4) [.int .i64 4] (enc_api_Token (⟨4,(⟨#[]⟩ : ByteArray),0,0,0,a1,0⟩ : api_Token)) hS315 ?_
     intro w326 hS327
     refine sR 1 td260 ?_
     refine rS 9 (.tmp 29) (.tmp 23) 1 (.string t311) [.string t311] (enc_api_Token (⟨4,t311,0,0,0,a1,0⟩ : api_Token)) hS327 ?_
     intro w328 hS329
     refine sR 1 td261 ?_
     refine rS 3 (.tmp 30) (.tmp 27) 6 (.int .i64 (IntKind.i64.wrap (a1 + (t311.size : Int)))) [.int .i64 (IntKind.i64.wrap (a1 + (t311.size : Int)))] (enc_api_Token (⟨4,t311,0,0,0,a1,(IntKind.i64.wrap (a1 + (t311.size : Int)))⟩ : api_Token)) hS329 ?_
     intro w330 hS331
     refine sR 2 td228 ?_
     have hS332:=hS331.pick1
     refine rF (mk 189 [(4,.pointer (some ⟨b1,0,none⟩)),(7,.pointer (some ⟨b5,0,none⟩))]) ?_
     exact J25 (⟨4,t311,0,0,0,a1,(IntKind.i64.wrap (a1 + (t311.size : Int)))⟩ : api_Token) (Option.some.inj hp325) _ _ hS332
    have hp333:=ite_f hp43 h45
    refine sR 22 td232 ?_
    obtain ⟨g334,hp335⟩:=ite_some hp333
    refine rV (.index 9 (.tmp 142) (.tmp 143)) (.int .u8 (byt a0 a1)) (fun o ho _ => x_indexStr (kk:=.i64) (by kernel_rfl) (by kernel_rfl) (by kernel_rfl) g334.1 g334.2 ho) ?_
    refine sS 1 td233 145 ((byt a0 a1) == 34) (fun h336 => ?_) fun h337 => ?_
    ·have hp338:=ite_t hp335 h336
     refine sR 12 td237 ?_
     obtain ⟨v339,hv340,hp341⟩:=bind_some' hp338
     have J345 : ∀ (t342 : Int) (he347 : t342 = v339) (l346 : List Value) (w343 : World) (hS344 : St w0 Z (xblk b1 39 (enc_api_Token (⟨0,(⟨#[]⟩ : ByteArray),0,0,0,0,0⟩ : api_Token))::xblk b5 39 (enc_api_Token (⟨0,(⟨#[]⟩ : ByteArray),0,0,0,a1,0⟩ : api_Token))::fs) w343),Runs Tryz.prog (fx 69) td234 (fill (mk 189 [(0,.string a0),(1,.int .i64 a1),(4,.pointer (some ⟨b1,0,none⟩)),(7,.pointer (some ⟨b5,0,none⟩)),(12,.int .i64 t342)]) l346) w343 R:=by
      intro t342 he347 l346 w343 hS344
      subst he347
      try dsimp only at hp341
      refine sS 7 td240 169 (t342 == (a0.size : Int)) (fun h348 => ?_) fun h349 => ?_
      ·have hp350:=ite_t hp341 h348
       refine sR 12 td242 ?_
       refine rSA 39 (.tmp 4) (.tmp 176) (enc_api_Token (⟨0,(⟨#[]⟩ : ByteArray),0,0,0,0,0⟩ : api_Token)) hS344 (one_api_Token _) ?_
       intro w351 hS352
       refine sR 3 td241 ?_
       refine r_isret (c:=p69_19) (by kernel_rfl) ?_
       have hS353:=hS352.drop
       have hS354:=hS353.drop
       refine rRc (.tuple #[.agg (enc_api_Token (⟨0,(⟨#[]⟩ : ByteArray),0,0,0,0,0⟩ : api_Token)).toArray,.int .i64 50,.int .i64 t342]) (.ca 4 39 (hS352.blk 0 rfl) (.tm 5 (.tm 6 .nil))) Tryz.func69 ?_
       cases hq24 _ (Option.some.inj hp350)
       exact hR _ _ ⟨rfl,hS354⟩
      have hp356:=ite_f hp341 h349
      refine sR 3 td243 ?_
      obtain ⟨g357,hp358⟩:=ite_some hp356
      refine rV (.index 9 (.tmp 171) (.tmp 172)) (.int .u8 (byt a0 t342)) (fun o ho _ => x_indexStr (kk:=.i64) (by kernel_rfl) (by kernel_rfl) (by kernel_rfl) g357.1 g357.2 ho) ?_
      refine sS 1 td244 174 ((byt a0 t342) == 10) (fun h359 => ?_) fun h360 => ?_
      ·have hp361:=ite_t hp358 h359
       refine sR 7 td242 ?_
       refine rSA 39 (.tmp 4) (.tmp 176) (enc_api_Token (⟨0,(⟨#[]⟩ : ByteArray),0,0,0,0,0⟩ : api_Token)) hS344 (one_api_Token _) ?_
       intro w362 hS363
       refine sR 3 td241 ?_
       refine r_isret (c:=p69_19) (by kernel_rfl) ?_
       have hS364:=hS363.drop
       have hS365:=hS364.drop
       refine rRc (.tuple #[.agg (enc_api_Token (⟨0,(⟨#[]⟩ : ByteArray),0,0,0,0,0⟩ : api_Token)).toArray,.int .i64 50,.int .i64 t342]) (.ca 4 39 (hS363.blk 0 rfl) (.tm 5 (.tm 6 .nil))) Tryz.func69 ?_
       cases hq24 _ (Option.some.inj hp361)
       exact hR _ _ ⟨rfl,hS365⟩
      have hp367:=ite_f hp358 h360
      refine sR 4 td238 ?_
      obtain ⟨g368,hp369⟩:=ite_some hp367
      refine r_drawnG (S:=Option (Unit × Option (Unit × Option Unit))) (rank:=(fun st => match st with | none => 0 | some (x370,none) => 1 | some (x370,some (x371,none)) => 2 | some (x370,some (x371,some x372)) => 3)) (C:=(fun st w' => match st with | none => St w0 Z (xblk b1 39 (enc_api_Token (⟨0,(⟨#[]⟩ : ByteArray),0,0,0,0,0⟩ : api_Token))::xblk b5 39 (enc_api_Token (⟨0,(⟨#[]⟩ : ByteArray),0,0,0,a1,0⟩ : api_Token))::fs) w' | some (x370,none) => St w0 Z (xblk b5 39 (enc_api_Token (⟨3,(⟨#[]⟩ : ByteArray),0,0,0,a1,0⟩ : api_Token))::xblk b1 39 (enc_api_Token (⟨0,(⟨#[]⟩ : ByteArray),0,0,0,0,0⟩ : api_Token))::fs) w' | some (x370,some (x371,none)) => St w0 Z (xblk b5 39 (enc_api_Token (⟨3,(a0.extract (IntKind.i64.wrap (a1 + 1)).toNat t342.toNat),0,0,0,a1,0⟩ : api_Token))::xblk b1 39 (enc_api_Token (⟨0,(⟨#[]⟩ : ByteArray),0,0,0,0,0⟩ : api_Token))::fs) w' | some (x370,some (x371,some x372)) => St w0 Z (xblk b5 39 (enc_api_Token (⟨3,(a0.extract (IntKind.i64.wrap (a1 + 1)).toNat t342.toNat),0,0,0,a1,(IntKind.i64.wrap (t342 + 1))⟩ : api_Token))::xblk b1 39 (enc_api_Token (⟨0,(⟨#[]⟩ : ByteArray),0,0,0,0,0⟩ : api_Token))::fs) w')) (v:=(fun st => match st with | none => [.string a0,.int .i64 a1,.int .i64 (IntKind.i64.wrap (a1 + 1)),.int .i64 t342,.string (a0.extract (IntKind.i64.wrap (a1 + 1)).toNat t342.toNat),.int .i64 t342,.int .i64 (IntKind.i64.wrap (t342 + 1)),.pointer (some ⟨b5,0,none⟩),undef,undef,undef,undef,undef] | some (x370,none) => [.string a0,.int .i64 a1,.int .i64 (IntKind.i64.wrap (a1 + 1)),.int .i64 t342,.string (a0.extract (IntKind.i64.wrap (a1 + 1)).toNat t342.toNat),.int .i64 t342,.int .i64 (IntKind.i64.wrap (t342 + 1)),.pointer (some ⟨b5,0,none⟩),undef,.pointer (some ⟨b5,1,none⟩),undef,undef,undef] | some (x370,some (x371,none)) => [.string a0,.int .i64 a1,.int .i64 (IntKind.i64.wrap (a1 + 1)),.int .i64 t342,.string (a0.extract (IntKind.i64.wrap (a1 + 1)).toNat t342.toNat),.int .i64 t342,.int .i64 (IntKind.i64.wrap (t342 + 1)),.pointer (some ⟨b5,0,none⟩),undef,.pointer (some ⟨b5,1,none⟩),undef,.pointer (some ⟨b5,6,none⟩),undef] | some (x370,some (x371,some x372)) => [.string a0,.int .i64 a1,.int .i64 (IntKind.i64.wrap (a1 + 1)),.int .i64 t342,.string (a0.extract (IntKind.i64.wrap (a1 + 1)).toNat t342.toNat),.int .i64 t342,.int .i64 (IntKind.i64.wrap (t342 + 1)),.pointer (some ⟨b5,0,none⟩),undef,.pointer (some ⟨b5,1,none⟩),undef,.pointer (some ⟨b5,6,none⟩),undef])) (c:=p69_17) (id:=25) none 8 13 [8,10,12] [0,0,0,0,0,0,0,0,0,1,1,2,2] [1,1,1,1,1,2,2,0,1,1,2,2,3] [] (by kernel_rfl) (by kernel_rfl) (by kernel_rfl) (by kernel_rfl) (by kernel_rfl) (by kernel_rfl) (by kernel_rfl) (by kernel_rfl) (by kernel_rfl) (by kernel_rfl) rfl hS344.drew ?_ ?_ ?_ ?_
      ·intro st w hC
       rcases st with _ | ⟨x370,_ | ⟨x371,_ | x372⟩⟩
       ·exact nbl rfl
       ·exact nbl rfl
       ·exact nbl rfl
       ·exact nbl rfl
      ·intro i hi he st w hC hr hu
       match i,hi,he with
       | 0,_,_ =>
        rcases st with _ | ⟨x370,_ | ⟨x371,_ | x372⟩⟩
        ·dsimp only at hC
         exact dP (.string a0) hC
        ·dsimp only at hC
         exact dP (.string a0) hC
        ·exact absurd hu (nle rfl)
        ·exact absurd hu (nle rfl)
       | 1,_,_ =>
        rcases st with _ | ⟨x370,_ | ⟨x371,_ | x372⟩⟩
        ·dsimp only at hC
         exact dP (.int .i64 a1) hC
        ·dsimp only at hC
         exact dP (.int .i64 a1) hC
        ·exact absurd hu (nle rfl)
        ·exact absurd hu (nle rfl)
       | 2,_,_ =>
        rcases st with _ | ⟨x370,_ | ⟨x371,_ | x372⟩⟩
        ·dsimp only at hC
         exact dP (.int .i64 (IntKind.i64.wrap (a1 + 1))) hC
        ·dsimp only at hC
         exact dP (.int .i64 (IntKind.i64.wrap (a1 + 1))) hC
        ·exact absurd hu (nle rfl)
        ·exact absurd hu (nle rfl)
       | 3,_,_ =>
        rcases st with _ | ⟨x370,_ | ⟨x371,_ | x372⟩⟩
        ·dsimp only at hC
         exact dP (.int .i64 t342) hC
        ·dsimp only at hC
         exact dP (.int .i64 t342) hC
        ·exact absurd hu (nle rfl)
        ·exact absurd hu (nle rfl)
       | 4,_,_ =>
        rcases st with _ | ⟨x370,_ | ⟨x371,_ | x372⟩⟩
        ·dsimp only at hC
         exact does_run (x_cutStr_ss (t:=9) (x:=(.tmp 178)) (lo:=(.tmp 180)) (hi:=(.tmp 181)) (k:=.i64) (k':=.i64) (by kernel_rfl) (by kernel_rfl) (by kernel_rfl) (by kernel_rfl) g368 (by kernel_rfl)) rfl hC
        ·dsimp only at hC
         exact does_run (x_cutStr_ss (t:=9) (x:=(.tmp 178)) (lo:=(.tmp 180)) (hi:=(.tmp 181)) (k:=.i64) (k':=.i64) (by kernel_rfl) (by kernel_rfl) (by kernel_rfl) (by kernel_rfl) g368 (by kernel_rfl)) rfl hC
        ·exact absurd hu (nle rfl)
        ·exact absurd hu (nle rfl)
       | 5,_,_ =>
        rcases st with _ | ⟨x370,_ | ⟨x371,_ | x372⟩⟩
        ·dsimp only at hC
         exact dP (.int .i64 t342) hC
        ·dsimp only at hC
         exact dP (.int .i64 t342) hC
        ·dsimp only at hC
         exact dP (.int .i64 t342) hC
        ·exact absurd hu (nle rfl)
       | 6,_,_ =>
        rcases st with _ | ⟨x370,_ | ⟨x371,_ | x372⟩⟩
        ·dsimp only at hC
         exact dP (.int .i64 (IntKind.i64.wrap (t342 + 1))) hC
        ·dsimp only at hC
         exact dP (.int .i64 (IntKind.i64.wrap (t342 + 1))) hC
        ·dsimp only at hC
         exact dP (.int .i64 (IntKind.i64.wrap (t342 + 1))) hC
        ·exact absurd hu (nle rfl)
       | 7,_,_ =>
        rcases st with _ | ⟨x370,_ | ⟨x371,_ | x372⟩⟩
        ·dsimp only at hC
         exact dP (.pointer (some ⟨b5,0,none⟩)) hC
        ·exact absurd hu (nle rfl)
        ·exact absurd hu (nle rfl)
        ·exact absurd hu (nle rfl)
       | 8,_,he => exact absurd he (by decide)
       | 9,_,_ =>
        rcases st with _ | ⟨x370,_ | ⟨x371,_ | x372⟩⟩
        ·exact absurd hr (nle rfl)
        ·dsimp only at hC
         exact dP (.pointer (some ⟨b5,1,none⟩)) hC
        ·exact absurd hu (nle rfl)
        ·exact absurd hu (nle rfl)
       | 10,_,he => exact absurd he (by decide)
       | 11,_,_ =>
        rcases st with _ | ⟨x370,_ | ⟨x371,_ | x372⟩⟩
        ·exact absurd hr (nle rfl)
        ·exact absurd hr (nle rfl)
        ·dsimp only at hC
         exact dP (.pointer (some ⟨b5,6,none⟩)) hC
        ·exact absurd hu (nle rfl)
       | 12,_,he => exact absurd he (by decide)
       | i + 13,hi,_ => exact absurd hi (by omega)
      ·intro k hk st w hC hr
       match k,hk with
       | 0,_ =>
        rcases st with _ | ⟨x370,_ | ⟨x371,_ | x372⟩⟩
        ·dsimp only at hC
         have hC:=hC.pick1
         refine dS 3 (.tmp 185) (.const (.int .i64 3)) 0 (.int .i64 3) [.int .i64 3] (enc_api_Token (⟨3,(⟨#[]⟩ : ByteArray),0,0,0,a1,0⟩ : api_Token)) hC ?_
         intro w2 h2
         refine ⟨some ((),none),rfl,?_,.inl rfl,h2⟩
         intro j hj
         match j,hj with
         | 0,_ => exact rfl
         | 1,_ => exact rfl
         | 2,_ => exact rfl
         | 3,_ => exact rfl
         | 4,_ => exact rfl
         | 5,_ => exact rfl
         | 6,_ => exact rfl
         | 7,_ => exact rfl
         | 8,hj => exact absurd hj (by decide)
         | 9,hj => exact absurd hj (by decide)
         | 10,hj => exact absurd hj (by decide)
         | 11,hj => exact absurd hj (by decide)
         | 12,hj => exact absurd hj (by decide)
         | j + 13,_ => exact rfl
        ·exact absurd hr (Nat.ne_of_beq_eq_false rfl)
        ·exact absurd hr (Nat.ne_of_beq_eq_false rfl)
        ·exact absurd hr (Nat.ne_of_beq_eq_false rfl)
       | 1,_ =>
        rcases st with _ | ⟨x370,_ | ⟨x371,_ | x372⟩⟩
        ·exact absurd hr (Nat.ne_of_beq_eq_false rfl)
        ·dsimp only at hC
         refine dS 9 (.tmp 186) (.tmp 182) 1 (.string (a0.extract (IntKind.i64.wrap (a1 + 1)).toNat t342.toNat)) [.string (a0.extract (IntKind.i64.wrap (a1 + 1)).toNat t342.toNat)] (enc_api_Token (⟨3,(a0.extract (IntKind.i64.wrap (a1 + 1)).toNat t342.toNat),0,0,0,a1,0⟩ : api_Token)) hC ?_
         intro w2 h2
         refine ⟨some (x370,some ((),none)),rfl,?_,.inl rfl,h2⟩
         intro j hj
         match j,hj with
         | 0,_ => exact rfl
         | 1,_ => exact rfl
         | 2,_ => exact rfl
         | 3,_ => exact rfl
         | 4,_ => exact rfl
         | 5,_ => exact rfl
         | 6,_ => exact rfl
         | 7,_ => exact rfl
         | 8,_ => exact rfl
         | 9,_ => exact rfl
         | 10,hj => exact absurd hj (by decide)
         | 11,hj => exact absurd hj (by decide)
         | 12,hj => exact absurd hj (by decide)
         | j + 13,_ => exact rfl
        ·exact absurd hr (Nat.ne_of_beq_eq_false rfl)
        ·exact absurd hr (Nat.ne_of_beq_eq_false rfl)
       | 2,_ =>
        rcases st with _ | ⟨x370,_ | ⟨x371,_ | x372⟩⟩
        ·exact absurd hr (Nat.ne_of_beq_eq_false rfl)
        ·exact absurd hr (Nat.ne_of_beq_eq_false rfl)
        ·dsimp only at hC
         refine dS 3 (.tmp 187) (.tmp 184) 6 (.int .i64 (IntKind.i64.wrap (t342 + 1))) [.int .i64 (IntKind.i64.wrap (t342 + 1))] (enc_api_Token (⟨3,(a0.extract (IntKind.i64.wrap (a1 + 1)).toNat t342.toNat),0,0,0,a1,(IntKind.i64.wrap (t342 + 1))⟩ : api_Token)) hC ?_
         intro w2 h2
         refine ⟨some (x370,some (x371,some ())),rfl,?_,.inl rfl,h2⟩
         intro j hj
         match j,hj with
         | 0,_ => exact rfl
         | 1,_ => exact rfl
         | 2,_ => exact rfl
         | 3,_ => exact rfl
         | 4,_ => exact rfl
         | 5,_ => exact rfl
         | 6,_ => exact rfl
         | 7,_ => exact rfl
         | 8,_ => exact rfl
         | 9,_ => exact rfl
         | 10,_ => exact rfl
         | 11,_ => exact rfl
         | 12,hj => exact absurd hj (by decide)
         | j + 13,_ => exact rfl
        ·exact absurd hr (Nat.ne_of_beq_eq_false rfl)
       | k + 3,hk => exact absurd hk (by simp)
      intro st376 w373 hS374 hr375
      rcases st376 with _ | ⟨x370,_ | ⟨x371,_ | x372⟩⟩
      ·exact absurd hr375 (nle rfl)
      ·exact absurd hr375 (nle rfl)
      ·exact absurd hr375 (nle rfl)
      replace hS374 : St w0 Z (xblk b5 39 (enc_api_Token (⟨3,(a0.extract (IntKind.i64.wrap (a1 + 1)).toNat t342.toNat),0,0,0,a1,(IntKind.i64.wrap (t342 + 1))⟩ : api_Token))::xblk b1 39 (enc_api_Token (⟨0,(⟨#[]⟩ : ByteArray),0,0,0,0,0⟩ : api_Token))::fs) w373:=hS374
      refine sR 1 td228 ?_
      have hS377:=hS374.pick1
      refine rF (mk 189 [(4,.pointer (some ⟨b1,0,none⟩)),(7,.pointer (some ⟨b5,0,none⟩))]) ?_
      exact J25 (⟨3,(a0.extract (IntKind.i64.wrap (a1 + 1)).toNat t342.toNat),0,0,0,a1,(IntKind.i64.wrap (t342 + 1))⟩ : api_Token) (Option.some.inj hp369) _ _ hS377
     have L387 : ∀ (t378 : Int) (e382 : Int),weirref05_token.l3 a0 t378 = some e382 → e382 = v339 → ∀ (l381 : List Value) (w379 : World) (hS380 : St w0 Z (xblk b1 39 (enc_api_Token (⟨0,(⟨#[]⟩ : ByteArray),0,0,0,0,0⟩ : api_Token))::xblk b5 39 (enc_api_Token (⟨0,(⟨#[]⟩ : ByteArray),0,0,0,a1,0⟩ : api_Token))::fs) w379),Runs Tryz.prog (fx 69) td237 (fill (mk 189 [(0,.string a0),(1,.int .i64 a1),(4,.pointer (some ⟨b1,0,none⟩)),(7,.pointer (some ⟨b5,0,none⟩)),(12,.int .i64 t378)]) l381) w379 R:=by
      refine weirref05_token.l3.partial_correctness a0 (fun t378 e382 => e382 = v339 → ∀ (l381 : List Value) (w379 : World) (hS380 : St w0 Z (xblk b1 39 (enc_api_Token (⟨0,(⟨#[]⟩ : ByteArray),0,0,0,0,0⟩ : api_Token))::xblk b5 39 (enc_api_Token (⟨0,(⟨#[]⟩ : ByteArray),0,0,0,a1,0⟩ : api_Token))::fs) w379),Runs Tryz.prog (fx 69) td237 (fill (mk 189 [(0,.string a0),(1,.int .i64 a1),(4,.pointer (some ⟨b1,0,none⟩)),(7,.pointer (some ⟨b5,0,none⟩)),(12,.int .i64 t378)]) l381) w379 R) ?_
      intro rec386 ih385 t378 e382 hb384 he383 l381 w379 hS380
      refine sS 7 td247 151 (decide (t378 < (a0.size : Int))) (fun h388 => ?_) fun h389 => ?_
      ·have hp390:=ite_t hb384 h388
       refine sR 3 td248 ?_
       obtain ⟨g391,hp392⟩:=ite_some hp390
       refine rV (.index 9 (.tmp 153) (.tmp 154)) (.int .u8 (byt a0 t378)) (fun o ho _ => x_indexStr (kk:=.i64) (by kernel_rfl) (by kernel_rfl) (by kernel_rfl) g391.1 g391.2 ho) ?_
       refine sS 1 td249 156 ((byt a0 t378) != 34) (fun h393 => ?_) fun h394 => ?_
       ·have hp395:=ite_t hp392 h393
        refine sR 4 td250 ?_
        obtain ⟨g396,hp397⟩:=ite_some hp395
        refine rV (.index 9 (.tmp 159) (.tmp 160)) (.int .u8 (byt a0 t378)) (fun o ho _ => x_indexStr (kk:=.i64) (by kernel_rfl) (by kernel_rfl) (by kernel_rfl) g396.1 g396.2 ho) ?_
        refine sS 1 td251 162 ((byt a0 t378) != 10) (fun h398 => ?_) fun h399 => ?_
        ·have hp400:=ite_t hp397 h398
         refine sR 11 td236 ?_
         refine sR 1 td237 ?_
         refine rF (mk 189 [(0,.string a0),(1,.int .i64 a1),(4,.pointer (some ⟨b1,0,none⟩)),(7,.pointer (some ⟨b5,0,none⟩)),(12,.int .i64 (IntKind.i64.wrap (t378 + 1)))]) ?_
         exact ih385 (IntKind.i64.wrap (t378 + 1)) _ hp400 he383 _ _ hS380
        have hp401:=ite_f hp397 h399
        refine sR 4 td234 ?_
        refine rF (mk 189 [(0,.string a0),(1,.int .i64 a1),(4,.pointer (some ⟨b1,0,none⟩)),(7,.pointer (some ⟨b5,0,none⟩)),(12,.int .i64 t378)]) ?_
        exact J345 t378 ((Option.some.inj hp401).trans he383) _ _ hS380
       have hp402:=ite_f hp392 h394
       refine sR 10 td234 ?_
       refine rF (mk 189 [(0,.string a0),(1,.int .i64 a1),(4,.pointer (some ⟨b1,0,none⟩)),(7,.pointer (some ⟨b5,0,none⟩)),(12,.int .i64 t378)]) ?_
       exact J345 t378 ((Option.some.inj hp402).trans he383) _ _ hS380
      have hp403:=ite_f hb384 h389
      refine sR 15 td234 ?_
      refine rF (mk 189 [(0,.string a0),(1,.int .i64 a1),(4,.pointer (some ⟨b1,0,none⟩)),(7,.pointer (some ⟨b5,0,none⟩)),(12,.int .i64 t378)]) ?_
      exact J345 t378 ((Option.some.inj hp403).trans he383) _ _ hS380
     have hS404:=hS40.pick1
     refine rF (mk 189 [(0,.string a0),(1,.int .i64 a1),(4,.pointer (some ⟨b1,0,none⟩)),(7,.pointer (some ⟨b5,0,none⟩)),(12,.int .i64 (IntKind.i64.wrap (a1 + 1)))]) ?_
     exact L387 (IntKind.i64.wrap (a1 + 1)) _ hv340 rfl _ _ hS404
    have hp405:=ite_f hp335 h337
    refine sR 7 td253 ?_
    obtain ⟨t406,hr407,hp408⟩:=bind_some' hp405
    refine rC (weirref05_sign.ok a0 a1 hS40 hr407) ?_
    rintro _ w409 ⟨rfl,hS410⟩
    refine ⟨_,rfl,?_⟩
    refine sS 7 td256 20 (seq t406 (⟨#[]⟩ : ByteArray)) (fun h411 => ?_) fun h412 => ?_
    ·have hp413:=ite_t hp408 h411
     refine sR 6 td258 ?_
     have hS414:=hS410.pick1
     refine rSA 39 (.tmp 4) (.tmp 21) (enc_api_Token (⟨0,(⟨#[]⟩ : ByteArray),0,0,0,0,0⟩ : api_Token)) hS414 (one_api_Token _) ?_
     intro w415 hS416
     refine sR 3 td257 ?_
     refine r_isret (c:=p69_29) (by kernel_rfl) ?_
     have hS417:=hS416.drop
     have hS418:=hS417.drop
     refine rRc (.tuple #[.agg (enc_api_Token (⟨0,(⟨#[]⟩ : ByteArray),0,0,0,0,0⟩ : api_Token)).toArray,.int .i64 50,.int .i64 a1]) (.ca 4 39 (hS416.blk 0 rfl) (.tm 5 (.tm 6 .nil))) Tryz.func69 ?_
     cases hq24 _ (Option.some.inj hp413)
     exact hR _ _ ⟨rfl,hS418⟩
    have hp420:=ite_f hp408 h412
    refine sR 10 td259 ?_
    refine rS 3 (.tmp 28) (.const (.int .i64 4)) 0 (.int .i64 4) [.int .i64 4] (enc_api_Token (⟨4,(⟨#[]⟩ : ByteArray),0,0,0,a1,0⟩ : api_Token)) hS410 ?_
    intro w421 hS422
    refine sR 1 td260 ?_
    refine rS 9 (.tmp 29) (.tmp 23) 1 (.string t406) [.string t406] (enc_api_Token (⟨4,t406,0,0,0,a1,0⟩ : api_Token)) hS422 ?_
    intro w423 hS424
    refine sR 1 td261 ?_
    refine rS 3 (.tmp 30) (.tmp 27) 6 (.int .i64 (IntKind.i64.wrap (a1 + (t406.size : Int)))) [.int .i64 (IntKind.i64.wrap (a1 + (t406.size : Int)))] (enc_api_Token (⟨4,t406,0,0,0,a1,(IntKind.i64.wrap (a1 + (t406.size : Int)))⟩ : api_Token)) hS424 ?_
    intro w425 hS426
    refine sR 2 td228 ?_
    have hS427:=hS426.pick1
    refine rF (mk 189 [(4,.pointer (some ⟨b1,0,none⟩)),(7,.pointer (some ⟨b5,0,none⟩))]) ?_
    exact J25 (⟨4,t406,0,0,0,a1,(IntKind.i64.wrap (a1 + (t406.size : Int)))⟩ : api_Token) (Option.some.inj hp420) _ _ hS427
   have hp428:=ite_t hp38 rfl
   refine sR 29 td265 ?_
   obtain ⟨v429,hv430,hp431⟩:=bind_some' hp428
   have J435 : ∀ (t432 : Int) (he437 : t432 = v429) (l436 : List Value) (w433 : World) (hS434 : St w0 Z (xblk b1 39 (enc_api_Token (⟨0,(⟨#[]⟩ : ByteArray),0,0,0,0,0⟩ : api_Token))::xblk b5 39 (enc_api_Token (⟨0,(⟨#[]⟩ : ByteArray),0,0,0,a1,0⟩ : api_Token))::fs) w433),Runs Tryz.prog (fx 69) td262 (fill (mk 189 [(0,.string a0),(1,.int .i64 a1),(4,.pointer (some ⟨b1,0,none⟩)),(7,.pointer (some ⟨b5,0,none⟩)),(9,.int .i64 t432)]) l436) w433 R:=by
    intro t432 he437 l436 w433 hS434
    subst he437
    try dsimp only at hp431
    refine sR 7 (iR p69_32 5 7::.code p69_33::td229) ?_
    obtain ⟨g438,hp439⟩:=ite_some hp431
    refine rV (.slice 9 (.tmp 113) (some (.tmp 114)) (some (.tmp 117)) none) (.string (a0.extract a1.toNat (IntKind.i64.wrap (a1 + t432)).toNat)) (fun o ho _ => x_cutStr_ss (k:=.i64) (k':=.i64) (by kernel_rfl) (by kernel_rfl) (by kernel_rfl) (by kernel_rfl) g438 ho) ?_
    obtain ⟨⟨t440,t441⟩,hr442,hp443⟩:=bind_some' hp439
    try dsimp only at hp443
    refine rC (weirref04_Parse.ok (a0.extract a1.toNat (IntKind.i64.wrap (a1 + t432)).toNat) hS434 hr442) ?_
    rintro _ w444 ⟨rfl,hS445⟩
    refine ⟨_,rfl,?_⟩
    refine sS 11 (.inRegion (opsOf p69_34) []::.code p69_35::td266) 123 (t441 != 0) (fun h446 => ?_) fun h447 => ?_
    ·have hp448:=ite_t hp443 h446
     refine sR 7 (.inRegion (opsOf p69_37) [3,4,5]::td267) ?_
     refine rSA 39 (.tmp 4) (.tmp 124) (enc_api_Token (⟨0,(⟨#[]⟩ : ByteArray),0,0,0,0,0⟩ : api_Token)) hS445 (one_api_Token _) ?_
     intro w449 hS450
     refine sR 3 td267 ?_
     refine r_isret (c:=p69_38) (by kernel_rfl) ?_
     have hS451:=hS450.drop
     have hS452:=hS451.drop
     refine rRc (.tuple #[.agg (enc_api_Token (⟨0,(⟨#[]⟩ : ByteArray),0,0,0,0,0⟩ : api_Token)).toArray,.int .i64 t441,.int .i64 a1]) (.ca 4 39 (hS450.blk 0 rfl) (.tm 5 (.tm 6 .nil))) Tryz.func69 ?_
     cases hq24 _ (Option.some.inj hp448)
     exact hR _ _ ⟨rfl,hS452⟩
    have hp454:=ite_f hp443 h447
    refine sR 3 td266 ?_
    obtain ⟨g455,hp456⟩:=ite_some hp454
    refine r_drawnG (S:=Option (Unit × Option (Unit × Option (Unit × Option Unit)))) (rank:=(fun st => match st with | none => 0 | some (x457,none) => 1 | some (x457,some (x458,none)) => 2 | some (x457,some (x458,some (x459,none))) => 3 | some (x457,some (x458,some (x459,some x460))) => 4)) (C:=(fun st w' => match st with | none => St w0 Z (xblk b1 39 (enc_api_Token (⟨0,(⟨#[]⟩ : ByteArray),0,0,0,0,0⟩ : api_Token))::xblk b5 39 (enc_api_Token (⟨0,(⟨#[]⟩ : ByteArray),0,0,0,a1,0⟩ : api_Token))::fs) w' | some (x457,none) => St w0 Z (xblk b5 39 (enc_api_Token (⟨2,(⟨#[]⟩ : ByteArray),0,0,0,a1,0⟩ : api_Token))::xblk b1 39 (enc_api_Token (⟨0,(⟨#[]⟩ : ByteArray),0,0,0,0,0⟩ : api_Token))::fs) w' | some (x457,some (x458,none)) => St w0 Z (xblk b5 39 (enc_api_Token (⟨2,(a0.extract a1.toNat (IntKind.i64.wrap (a1 + t432)).toNat),0,0,0,a1,0⟩ : api_Token))::xblk b1 39 (enc_api_Token (⟨0,(⟨#[]⟩ : ByteArray),0,0,0,0,0⟩ : api_Token))::fs) w' | some (x457,some (x458,some (x459,none))) => St w0 Z (xblk b5 39 (enc_api_Token (⟨2,(a0.extract a1.toNat (IntKind.i64.wrap (a1 + t432)).toNat),t440,0,0,a1,0⟩ : api_Token))::xblk b1 39 (enc_api_Token (⟨0,(⟨#[]⟩ : ByteArray),0,0,0,0,0⟩ : api_Token))::fs) w' | some (x457,some (x458,some (x459,some x460))) => St w0 Z (xblk b5 39 (enc_api_Token (⟨2,(a0.extract a1.toNat (IntKind.i64.wrap (a1 + t432)).toNat),t440,0,0,a1,(IntKind.i64.wrap (a1 + t432))⟩ : api_Token))::xblk b1 39 (enc_api_Token (⟨0,(⟨#[]⟩ : ByteArray),0,0,0,0,0⟩ : api_Token))::fs) w')) (v:=(fun st => match st with | none => [.string a0,.int .i64 a1,.int .i64 a1,.int .i64 t432,.int .i64 (IntKind.i64.wrap (a1 + t432)),.string (a0.extract a1.toNat (IntKind.i64.wrap (a1 + t432)).toNat),.int .i64 t440,.int .i64 a1,.int .i64 t432,.int .i64 (IntKind.i64.wrap (a1 + t432)),.pointer (some ⟨b5,0,none⟩),undef,undef,undef,undef,undef,undef,undef] | some (x457,none) => [.string a0,.int .i64 a1,.int .i64 a1,.int .i64 t432,.int .i64 (IntKind.i64.wrap (a1 + t432)),.string (a0.extract a1.toNat (IntKind.i64.wrap (a1 + t432)).toNat),.int .i64 t440,.int .i64 a1,.int .i64 t432,.int .i64 (IntKind.i64.wrap (a1 + t432)),.pointer (some ⟨b5,0,none⟩),undef,.pointer (some ⟨b5,1,none⟩),undef,undef,undef,undef,undef] | some (x457,some (x458,none)) => [.string a0,.int .i64 a1,.int .i64 a1,.int .i64 t432,.int .i64 (IntKind.i64.wrap (a1 + t432)),.string (a0.extract a1.toNat (IntKind.i64.wrap (a1 + t432)).toNat),.int .i64 t440,.int .i64 a1,.int .i64 t432,.int .i64 (IntKind.i64.wrap (a1 + t432)),.pointer (some ⟨b5,0,none⟩),undef,.pointer (some ⟨b5,1,none⟩),undef,.pointer (some ⟨b5,2,none⟩),undef,undef,undef] | some (x457,some (x458,some (x459,none))) => [.string a0,.int .i64 a1,.int .i64 a1,.int .i64 t432,.int .i64 (IntKind.i64.wrap (a1 + t432)),.string (a0.extract a1.toNat (IntKind.i64.wrap (a1 + t432)).toNat),.int .i64 t440,.int .i64 a1,.int .i64 t432,.int .i64 (IntKind.i64.wrap (a1 + t432)),.pointer (some ⟨b5,0,none⟩),undef,.pointer (some ⟨b5,1,none⟩),undef,.pointer (some ⟨b5,2,none⟩),undef,.pointer (some ⟨b5,6,none⟩),undef] | some (x457,some (x458,some (x459,some x460))) => [.string a0,.int .i64 a1,.int .i64 a1,.int .i64 t432,.int .i64 (IntKind.i64.wrap (a1 + t432)),.string (a0.extract a1.toNat (IntKind.i64.wrap (a1 + t432)).toNat),.int .i64 t440,.int .i64 a1,.int .i64 t432,.int .i64 (IntKind.i64.wrap (a1 + t432)),.pointer (some ⟨b5,0,none⟩),undef,.pointer (some ⟨b5,1,none⟩),undef,.pointer (some ⟨b5,2,none⟩),undef,.pointer (some ⟨b5,6,none⟩),undef])) (c:=p69_36) (id:=18) none 11 18 [11,13,15,17] [0,0,0,0,0,0,0,0,0,0,0,0,1,1,2,2,3,3] [1,1,1,1,1,1,2,3,3,3,0,1,1,2,2,3,3,4] [] (by kernel_rfl) (by kernel_rfl) (by kernel_rfl) (by kernel_rfl) (by kernel_rfl) (by kernel_rfl) (by kernel_rfl) (by kernel_rfl) (by kernel_rfl) (by kernel_rfl) rfl hS445.drew ?_ ?_ ?_ ?_
    ·intro st w hC
     rcases st with _ | ⟨x457,_ | ⟨x458,_ | ⟨x459,_ | x460⟩⟩⟩
     ·exact nbl rfl
     ·exact nbl rfl
     ·exact nbl rfl
     ·exact nbl rfl
     ·exact nbl rfl
    ·intro i hi he st w hC hr hu
     match i,hi,he with
     | 0,_,_ =>
      rcases st with _ | ⟨x457,_ | ⟨x458,_ | ⟨x459,_ | x460⟩⟩⟩
      ·dsimp only at hC
       exact dP (.string a0) hC
      ·dsimp only at hC
       exact dP (.string a0) hC
      ·exact absurd hu (nle rfl)
      ·exact absurd hu (nle rfl)
      ·exact absurd hu (nle rfl)
     | 1,_,_ =>
      rcases st with _ | ⟨x457,_ | ⟨x458,_ | ⟨x459,_ | x460⟩⟩⟩
      ·dsimp only at hC
       exact dP (.int .i64 a1) hC
      ·dsimp only at hC
       exact dP (.int .i64 a1) hC
      ·exact absurd hu (nle rfl)
      ·exact absurd hu (nle rfl)
      ·exact absurd hu (nle rfl)
     | 2,_,_ =>
      rcases st with _ | ⟨x457,_ | ⟨x458,_ | ⟨x459,_ | x460⟩⟩⟩
      ·dsimp only at hC
       exact dP (.int .i64 a1) hC
      ·dsimp only at hC
       exact dP (.int .i64 a1) hC
      ·exact absurd hu (nle rfl)
      ·exact absurd hu (nle rfl)
      ·exact absurd hu (nle rfl)
     | 3,_,_ =>
      rcases st with _ | ⟨x457,_ | ⟨x458,_ | ⟨x459,_ | x460⟩⟩⟩
      ·dsimp only at hC
       exact dP (.int .i64 t432) hC
      ·dsimp only at hC
       exact dP (.int .i64 t432) hC
      ·exact absurd hu (nle rfl)
      ·exact absurd hu (nle rfl)
      ·exact absurd hu (nle rfl)
     | 4,_,_ =>
      rcases st with _ | ⟨x457,_ | ⟨x458,_ | ⟨x459,_ | x460⟩⟩⟩
      ·dsimp only at hC
       exact dP (.int .i64 (IntKind.i64.wrap (a1 + t432))) hC
      ·dsimp only at hC
       exact dP (.int .i64 (IntKind.i64.wrap (a1 + t432))) hC
      ·exact absurd hu (nle rfl)
      ·exact absurd hu (nle rfl)
      ·exact absurd hu (nle rfl)
     | 5,_,_ =>
      rcases st with _ | ⟨x457,_ | ⟨x458,_ | ⟨x459,_ | x460⟩⟩⟩
      ·dsimp only at hC
       exact does_run (x_cutStr_ss (t:=9) (x:=(.tmp 127)) (lo:=(.tmp 128)) (hi:=(.tmp 131)) (k:=.i64) (k':=.i64) (by kernel_rfl) (by kernel_rfl) (by kernel_rfl) (by kernel_rfl) g455 (by kernel_rfl)) rfl hC
      ·dsimp only at hC
       exact does_run (x_cutStr_ss (t:=9) (x:=(.tmp 127)) (lo:=(.tmp 128)) (hi:=(.tmp 131)) (k:=.i64) (k':=.i64) (by kernel_rfl) (by kernel_rfl) (by kernel_rfl) (by kernel_rfl) g455 (by kernel_rfl)) rfl hC
      ·exact absurd hu (nle rfl)
      ·exact absurd hu (nle rfl)
      ·exact absurd hu (nle rfl)
     | 6,_,_ =>
      rcases st with _ | ⟨x457,_ | ⟨x458,_ | ⟨x459,_ | x460⟩⟩⟩
      ·dsimp only at hC
       exact dP (.int .i64 t440) hC
      ·dsimp only at hC
       exact dP (.int .i64 t440) hC
      ·dsimp only at hC
       exact dP (.int .i64 t440) hC
      ·exact absurd hu (nle rfl)
      ·exact absurd hu (nle rfl)
     | 7,_,_ =>
      rcases st with _ | ⟨x457,_ | ⟨x458,_ | ⟨x459,_ | x460⟩⟩⟩
      ·dsimp only at hC
       exact dP (.int .i64 a1) hC
      ·dsimp only at hC
       exact dP (.int .i64 a1) hC
      ·dsimp only at hC
       exact dP (.int .i64 a1) hC
      ·dsimp only at hC
       exact dP (.int .i64 a1) hC
      ·exact absurd hu (nle rfl)
     | 8,_,_ =>
      rcases st with _ | ⟨x457,_ | ⟨x458,_ | ⟨x459,_ | x460⟩⟩⟩
      ·dsimp only at hC
       exact dP (.int .i64 t432) hC
      ·dsimp only at hC
       exact dP (.int .i64 t432) hC
      ·dsimp only at hC
       exact dP (.int .i64 t432) hC
      ·dsimp only at hC
       exact dP (.int .i64 t432) hC
      ·exact absurd hu (nle rfl)
     | 9,_,_ =>
      rcases st with _ | ⟨x457,_ | ⟨x458,_ | ⟨x459,_ | x460⟩⟩⟩
      ·dsimp only at hC
       exact dP (.int .i64 (IntKind.i64.wrap (a1 + t432))) hC
      ·dsimp only at hC
       exact dP (.int .i64 (IntKind.i64.wrap (a1 + t432))) hC
      ·dsimp only at hC
       exact dP (.int .i64 (IntKind.i64.wrap (a1 + t432))) hC
      ·dsimp only at hC
       exact dP (.int .i64 (IntKind.i64.wrap (a1 + t432))) hC
      ·exact absurd hu (nle rfl)
     | 10,_,_ =>
      rcases st with _ | ⟨x457,_ | ⟨x458,_ | ⟨x459,_ | x460⟩⟩⟩
      ·dsimp only at hC
       exact dP (.pointer (some ⟨b5,0,none⟩)) hC
      ·exact absurd hu (nle rfl)
      ·exact absurd hu (nle rfl)
      ·exact absurd hu (nle rfl)
      ·exact absurd hu (nle rfl)
     | 11,_,he => exact absurd he (by decide)
     | 12,_,_ =>
      rcases st with _ | ⟨x457,_ | ⟨x458,_ | ⟨x459,_ | x460⟩⟩⟩
      ·exact absurd hr (nle rfl)
      ·dsimp only at hC
       exact dP (.pointer (some ⟨b5,1,none⟩)) hC
      ·exact absurd hu (nle rfl)
      ·exact absurd hu (nle rfl)
      ·exact absurd hu (nle rfl)
     | 13,_,he => exact absurd he (by decide)
     | 14,_,_ =>
      rcases st with _ | ⟨x457,_ | ⟨x458,_ | ⟨x459,_ | x460⟩⟩⟩
      ·exact absurd hr (nle rfl)
      ·exact absurd hr (nle rfl)
      ·dsimp only at hC
       exact dP (.pointer (some ⟨b5,2,none⟩)) hC
      ·exact absurd hu (nle rfl)
      ·exact absurd hu (nle rfl)
     | 15,_,he => exact absurd he (by decide)
     | 16,_,_ =>
      rcases st with _ | ⟨x457,_ | ⟨x458,_ | ⟨x459,_ | x460⟩⟩⟩
      ·exact absurd hr (nle rfl)
      ·exact absurd hr (nle rfl)
      ·exact absurd hr (nle rfl)
      ·dsimp only at hC
       exact dP (.pointer (some ⟨b5,6,none⟩)) hC
      ·exact absurd hu (nle rfl)
     | 17,_,he => exact absurd he (by decide)
     | i + 18,hi,_ => exact absurd hi (by omega)
    ·intro k hk st w hC hr
     match k,hk with
     | 0,_ =>
      rcases st with _ | ⟨x457,_ | ⟨x458,_ | ⟨x459,_ | x460⟩⟩⟩
      ·dsimp only at hC
       have hC:=hC.pick1
       refine dS 3 (.tmp 137) (.const (.int .i64 2)) 0 (.int .i64 2) [.int .i64 2] (enc_api_Token (⟨2,(⟨#[]⟩ : ByteArray),0,0,0,a1,0⟩ : api_Token)) hC ?_
       intro w2 h2
       refine ⟨some ((),none),rfl,?_,.inl rfl,h2⟩
       intro j hj
       match j,hj with
       | 0,_ => exact rfl
       | 1,_ => exact rfl
       | 2,_ => exact rfl
       | 3,_ => exact rfl
       | 4,_ => exact rfl
       | 5,_ => exact rfl
       | 6,_ => exact rfl
       | 7,_ => exact rfl
       | 8,_ => exact rfl
       | 9,_ => exact rfl
       | 10,_ => exact rfl
       | 11,hj => exact absurd hj (by decide)
       | 12,hj => exact absurd hj (by decide)
       | 13,hj => exact absurd hj (by decide)
       | 14,hj => exact absurd hj (by decide)
       | 15,hj => exact absurd hj (by decide)
       | 16,hj => exact absurd hj (by decide)
       | 17,hj => exact absurd hj (by decide)
       | j + 18,_ => exact rfl
      ·exact absurd hr (Nat.ne_of_beq_eq_false rfl)
      ·exact absurd hr (Nat.ne_of_beq_eq_false rfl)
      ·exact absurd hr (Nat.ne_of_beq_eq_false rfl)
      ·exact absurd hr (Nat.ne_of_beq_eq_false rfl)
     | 1,_ =>
      rcases st with _ | ⟨x457,_ | ⟨x458,_ | ⟨x459,_ | x460⟩⟩⟩
      ·exact absurd hr (Nat.ne_of_beq_eq_false rfl)
      ·dsimp only at hC
       refine dS 9 (.tmp 138) (.tmp 132) 1 (.string (a0.extract a1.toNat (IntKind.i64.wrap (a1 + t432)).toNat)) [.string (a0.extract a1.toNat (IntKind.i64.wrap (a1 + t432)).toNat)] (enc_api_Token (⟨2,(a0.extract a1.toNat (IntKind.i64.wrap (a1 + t432)).toNat),0,0,0,a1,0⟩ : api_Token)) hC ?_
       intro w2 h2
       refine ⟨some (x457,some ((),none)),rfl,?_,.inl rfl,h2⟩
       intro j hj
       match j,hj with
       | 0,_ => exact rfl
       | 1,_ => exact rfl
       | 2,_ => exact rfl
       | 3,_ => exact rfl
       | 4,_ => exact rfl
       | 5,_ => exact rfl
       | 6,_ => exact rfl
       | 7,_ => exact rfl
       | 8,_ => exact rfl
       | 9,_ => exact rfl
       | 10,_ => exact rfl
       | 11,_ => exact rfl
       | 12,_ => exact rfl
       | 13,hj => exact absurd hj (by decide)
       | 14,hj => exact absurd hj (by decide)
       | 15,hj => exact absurd hj (by decide)
       | 16,hj => exact absurd hj (by decide)
       | 17,hj => exact absurd hj (by decide)
       | j + 18,_ => exact rfl
      ·exact absurd hr (Nat.ne_of_beq_eq_false rfl)
      ·exact absurd hr (Nat.ne_of_beq_eq_false rfl)
      ·exact absurd hr (Nat.ne_of_beq_eq_false rfl)
     | 2,_ =>
      rcases st with _ | ⟨x457,_ | ⟨x458,_ | ⟨x459,_ | x460⟩⟩⟩
      ·exact absurd hr (Nat.ne_of_beq_eq_false rfl)
      ·exact absurd hr (Nat.ne_of_beq_eq_false rfl)
      ·dsimp only at hC
       refine dS 2 (.tmp 139) (.tmp 133) 2 (.int .i64 t440) [.int .i64 t440] (enc_api_Token (⟨2,(a0.extract a1.toNat (IntKind.i64.wrap (a1 + t432)).toNat),t440,0,0,a1,0⟩ : api_Token)) hC ?_
       intro w2 h2
       refine ⟨some (x457,some (x458,some ((),none))),rfl,?_,.inl rfl,h2⟩
       intro j hj
       match j,hj with
       | 0,_ => exact rfl
       | 1,_ => exact rfl
       | 2,_ => exact rfl
       | 3,_ => exact rfl
       | 4,_ => exact rfl
       | 5,_ => exact rfl
       | 6,_ => exact rfl
       | 7,_ => exact rfl
       | 8,_ => exact rfl
       | 9,_ => exact rfl
       | 10,_ => exact rfl
       | 11,_ => exact rfl
       | 12,_ => exact rfl
       | 13,_ => exact rfl
       | 14,_ => exact rfl
       | 15,hj => exact absurd hj (by decide)
       | 16,hj => exact absurd hj (by decide)
       | 17,hj => exact absurd hj (by decide)
       | j + 18,_ => exact rfl
      ·exact absurd hr (Nat.ne_of_beq_eq_false rfl)
      ·exact absurd hr (Nat.ne_of_beq_eq_false rfl)
     | 3,_ =>
      rcases st with _ | ⟨x457,_ | ⟨x458,_ | ⟨x459,_ | x460⟩⟩⟩
      ·exact absurd hr (Nat.ne_of_beq_eq_false rfl)
      ·exact absurd hr (Nat.ne_of_beq_eq_false rfl)
      ·exact absurd hr (Nat.ne_of_beq_eq_false rfl)
      ·dsimp only at hC
       refine dS 3 (.tmp 140) (.tmp 136) 6 (.int .i64 (IntKind.i64.wrap (a1 + t432))) [.int .i64 (IntKind.i64.wrap (a1 + t432))] (enc_api_Token (⟨2,(a0.extract a1.toNat (IntKind.i64.wrap (a1 + t432)).toNat),t440,0,0,a1,(IntKind.i64.wrap (a1 + t432))⟩ : api_Token)) hC ?_
       intro w2 h2
       refine ⟨some (x457,some (x458,some (x459,some ()))),rfl,?_,.inl rfl,h2⟩
       intro j hj
       match j,hj with
       | 0,_ => exact rfl
       | 1,_ => exact rfl
       | 2,_ => exact rfl
       | 3,_ => exact rfl
       | 4,_ => exact rfl
       | 5,_ => exact rfl
       | 6,_ => exact rfl
       | 7,_ => exact rfl
       | 8,_ => exact rfl
       | 9,_ => exact rfl
       | 10,_ => exact rfl
       | 11,_ => exact rfl
       | 12,_ => exact rfl
       | 13,_ => exact rfl
       | 14,_ => exact rfl
       | 15,_ => exact rfl
       | 16,_ => exact rfl
       | 17,hj => exact absurd hj (by decide)
       | j + 18,_ => exact rfl
      ·exact absurd hr (Nat.ne_of_beq_eq_false rfl)
     | k + 4,hk => exact absurd hk (by simp)
    intro st464 w461 hS462 hr463
    rcases st464 with _ | ⟨x457,_ | ⟨x458,_ | ⟨x459,_ | x460⟩⟩⟩
    ·exact absurd hr463 (nle rfl)
    ·exact absurd hr463 (nle rfl)
    ·exact absurd hr463 (nle rfl)
    ·exact absurd hr463 (nle rfl)
    replace hS462 : St w0 Z (xblk b5 39 (enc_api_Token (⟨2,(a0.extract a1.toNat (IntKind.i64.wrap (a1 + t432)).toNat),t440,0,0,a1,(IntKind.i64.wrap (a1 + t432))⟩ : api_Token))::xblk b1 39 (enc_api_Token (⟨0,(⟨#[]⟩ : ByteArray),0,0,0,0,0⟩ : api_Token))::fs) w461:=hS462
    refine sR 1 td228 ?_
    have hS465:=hS462.pick1
    refine rF (mk 189 [(4,.pointer (some ⟨b1,0,none⟩)),(7,.pointer (some ⟨b5,0,none⟩))]) ?_
    exact J25 (⟨2,(a0.extract a1.toNat (IntKind.i64.wrap (a1 + t432)).toNat),t440,0,0,a1,(IntKind.i64.wrap (a1 + t432))⟩ : api_Token) (Option.some.inj hp456) _ _ hS465
   have L475 : ∀ (t466 : Int) (e470 : Int),weirref05_token.l4 a0 a1 t466 = some e470 → e470 = v429 → ∀ (l469 : List Value) (w467 : World) (hS468 : St w0 Z (xblk b1 39 (enc_api_Token (⟨0,(⟨#[]⟩ : ByteArray),0,0,0,0,0⟩ : api_Token))::xblk b5 39 (enc_api_Token (⟨0,(⟨#[]⟩ : ByteArray),0,0,0,a1,0⟩ : api_Token))::fs) w467),Runs Tryz.prog (fx 69) td265 (fill (mk 189 [(0,.string a0),(1,.int .i64 a1),(4,.pointer (some ⟨b1,0,none⟩)),(7,.pointer (some ⟨b5,0,none⟩)),(9,.int .i64 t466)]) l469) w467 R:=by
    refine weirref05_token.l4.partial_correctness a0 a1 (fun t466 e470 => e470 = v429 → ∀ (l469 : List Value) (w467 : World) (hS468 : St w0 Z (xblk b1 39 (enc_api_Token (⟨0,(⟨#[]⟩ : ByteArray),0,0,0,0,0⟩ : api_Token))::xblk b5 39 (enc_api_Token (⟨0,(⟨#[]⟩ : ByteArray),0,0,0,a1,0⟩ : api_Token))::fs) w467),Runs Tryz.prog (fx 69) td265 (fill (mk 189 [(0,.string a0),(1,.int .i64 a1),(4,.pointer (some ⟨b1,0,none⟩)),(7,.pointer (some ⟨b5,0,none⟩)),(9,.int .i64 t466)]) l469) w467 R) ?_
    intro rec474 ih473 t466 e470 hb472 he471 l469 w467 hS468
    obtain ⟨v476,hv477,hp478⟩:=bind_some' hb472
    have hq481 : ∀ x,Sum.inr x = v476 → x = e470:=by intro x hx; subst hx; simpa using hp478
    have J482 : ∀ (he484 : Sum.inl () = v476) (l483 : List Value) (w479 : World) (hS480 : St w0 Z (xblk b1 39 (enc_api_Token (⟨0,(⟨#[]⟩ : ByteArray),0,0,0,0,0⟩ : api_Token))::xblk b5 39 (enc_api_Token (⟨0,(⟨#[]⟩ : ByteArray),0,0,0,a1,0⟩ : api_Token))::fs) w479),Runs Tryz.prog (fx 69) td268 (fill (mk 189 [(0,.string a0),(1,.int .i64 a1),(4,.pointer (some ⟨b1,0,none⟩)),(7,.pointer (some ⟨b5,0,none⟩)),(9,.int .i64 t466)]) l483) w479 R:=by
     intro he484 l483 w479 hS480
     subst he484
     try dsimp only at hp478
     refine sR 7 td264 ?_
     refine sR 1 td265 ?_
     refine rF (mk 189 [(0,.string a0),(1,.int .i64 a1),(4,.pointer (some ⟨b1,0,none⟩)),(7,.pointer (some ⟨b5,0,none⟩)),(9,.int .i64 (IntKind.i64.wrap (t466 + 1)))]) ?_
     exact ih473 (IntKind.i64.wrap (t466 + 1)) _ hp478 he471 _ _ hS480
    refine sS 9 (iR p69_40 6 24::td269) 85 (decide ((IntKind.i64.wrap (a1 + t466)) < (a0.size : Int))) (fun h485 => ?_) fun h486 => ?_
    ·have hp487:=ite_t hv477 h485
     refine sR 5 (iR p69_40 11 19::td269) ?_
     obtain ⟨g488,hp489⟩:=ite_some hp487
     refine rV (.index 9 (.tmp 87) (.tmp 90)) (.int .u8 (byt a0 (IntKind.i64.wrap (a1 + t466)))) (fun o ho _ => x_indexStr (kk:=.i64) (by kernel_rfl) (by kernel_rfl) (by kernel_rfl) g488.1 g488.2 ho) ?_
     obtain ⟨t490,hr491,hp492⟩:=bind_some' hp489
     refine rC (weirref05_letter.ok (byt a0 (IntKind.i64.wrap (a1 + t466))) hS468 hr491) ?_
     rintro _ w493 ⟨rfl,hS494⟩
     refine ⟨_,rfl,?_⟩
     refine sR 1 (iR p69_40 14 16::td269) ?_
     cases t490
     ·have hp495:=ite_f hp492 rfl
      refine sR 4 (iR p69_40 18 12::td269) ?_
      obtain ⟨g496,hp497⟩:=ite_some hp495
      refine rV (.index 9 (.tmp 94) (.tmp 97)) (.int .u8 (byt a0 (IntKind.i64.wrap (a1 + t466)))) (fun o ho _ => x_indexStr (kk:=.i64) (by kernel_rfl) (by kernel_rfl) (by kernel_rfl) g496.1 g496.2 ho) ?_
      obtain ⟨t498,hr499,hp500⟩:=bind_some' hp497
      refine rC (weirref05_digit.ok (byt a0 (IntKind.i64.wrap (a1 + t466))) hS494 hr499) ?_
      rintro _ w501 ⟨rfl,hS502⟩
      refine ⟨_,rfl,?_⟩
      refine sR 2 (iR p69_40 22 8::td269) ?_
      cases t498
      ·have hp503:=ite_f hp500 rfl
       refine sR 4 (iR p69_40 26 4::td269) ?_
       obtain ⟨g504,hp505⟩:=ite_some hp503
       refine rV (.index 9 (.tmp 102) (.tmp 105)) (.int .u8 (byt a0 (IntKind.i64.wrap (a1 + t466)))) (fun o ho _ => x_indexStr (kk:=.i64) (by kernel_rfl) (by kernel_rfl) (by kernel_rfl) g504.1 g504.2 ho) ?_
       refine sS 1 (.inRegion (opsOf p69_40) [28,29]::td269) 107 ((byt a0 (IntKind.i64.wrap (a1 + t466))) == 46) (fun h506 => ?_) fun h507 => ?_
       ·have hp508:=ite_t hp505 h506
        refine sR 5 td268 ?_
        refine rF (mk 189 [(0,.string a0),(1,.int .i64 a1),(4,.pointer (some ⟨b1,0,none⟩)),(7,.pointer (some ⟨b5,0,none⟩)),(9,.int .i64 t466)]) ?_
        exact J482 (Option.some.inj hp508) _ _ hS502
       have hp509:=ite_f hp505 h507
       refine sR 5 td262 ?_
       refine rF (mk 189 [(0,.string a0),(1,.int .i64 a1),(4,.pointer (some ⟨b1,0,none⟩)),(7,.pointer (some ⟨b5,0,none⟩)),(9,.int .i64 t466)]) ?_
       exact J435 t466 ((hq481 _ (Option.some.inj hp509)).trans he471) _ _ hS502
      have hp510:=ite_t hp500 rfl
      refine sR 11 td268 ?_
      refine rF (mk 189 [(0,.string a0),(1,.int .i64 a1),(4,.pointer (some ⟨b1,0,none⟩)),(7,.pointer (some ⟨b5,0,none⟩)),(9,.int .i64 t466)]) ?_
      exact J482 (Option.some.inj hp510) _ _ hS502
     have hp511:=ite_t hp492 rfl
     refine sR 19 td268 ?_
     refine rF (mk 189 [(0,.string a0),(1,.int .i64 a1),(4,.pointer (some ⟨b1,0,none⟩)),(7,.pointer (some ⟨b5,0,none⟩)),(9,.int .i64 t466)]) ?_
     exact J482 (Option.some.inj hp511) _ _ hS494
    have hp512:=ite_f hv477 h486
    refine sR 27 td262 ?_
    refine rF (mk 189 [(0,.string a0),(1,.int .i64 a1),(4,.pointer (some ⟨b1,0,none⟩)),(7,.pointer (some ⟨b5,0,none⟩)),(9,.int .i64 t466)]) ?_
    exact J435 t466 ((hq481 _ (Option.some.inj hp512)).trans he471) _ _ hS468
   have hS513:=hS40.pick1
   refine rF (mk 189 [(0,.string a0),(1,.int .i64 a1),(4,.pointer (some ⟨b1,0,none⟩)),(7,.pointer (some ⟨b5,0,none⟩)),(9,.int .i64 1)]) ?_
   exact L475 1 _ hv430 rfl _ _ hS513
  have hp514:=ite_t hv19 rfl
  refine sR 5 (.inRegion (opsOf (cd69 [1,1,0,0,1,0,0])) [2,3]::.code (cd69 [1,1,0,0,1,0,1])::td229) ?_
  obtain ⟨t515,hr516,hp517⟩:=bind_some' hp514
  refine rC (weirref05_name.ok a0 a1 hS17 hr516) ?_
  rintro _ w518 ⟨rfl,hS519⟩
  refine ⟨_,rfl,?_⟩
  refine sS 7 (.inRegion (opsOf (cd69 [1,1,0,0,1,0,1,0,0])) []::.code (cd69 [1,1,0,0,1,0,1,0,1])::td270) 40 (decide (t515 > 64)) (fun h520 => ?_) fun h521 => ?_
  ·have hp522:=ite_t hp517 h520
   refine sR 6 (.inRegion (opsOf (cd69 [1,1,0,0,1,0,1,0,1,0,0])) [2,3,4]::.code p69_48::td270) ?_
   have hS523:=hS519.pick1
   refine rSA 39 (.tmp 4) (.tmp 41) (enc_api_Token (⟨0,(⟨#[]⟩ : ByteArray),0,0,0,0,0⟩ : api_Token)) hS523 (one_api_Token _) ?_
   intro w524 hS525
   refine sR 3 (.code p69_48::td270) ?_
   have hS526:=hS525.drop
   have hS527:=hS526.drop
   refine rRc (.tuple #[.agg (enc_api_Token (⟨0,(⟨#[]⟩ : ByteArray),0,0,0,0,0⟩ : api_Token)).toArray,.int .i64 1,.int .i64 a1]) (.ca 4 39 (hS525.blk 0 rfl) (.tm 5 (.tm 6 .nil))) Tryz.func69 ?_
   cases hq24 _ (Option.some.inj hp522)
   exact hR _ _ ⟨rfl,hS527⟩
  have hp529:=ite_f hp517 h521
  refine sR 3 td270 ?_
  obtain ⟨g530,hp531⟩:=ite_some hp529
  refine r_drawnG (S:=Option (Unit × Option (Unit × Option Unit))) (rank:=(fun st => match st with | none => 0 | some (x532,none) => 1 | some (x532,some (x533,none)) => 2 | some (x532,some (x533,some x534)) => 3)) (C:=(fun st w' => match st with | none => St w0 Z (xblk b5 39 (enc_api_Token (⟨0,(⟨#[]⟩ : ByteArray),0,0,0,a1,0⟩ : api_Token))::xblk b1 39 (enc_api_Token (⟨0,(⟨#[]⟩ : ByteArray),0,0,0,0,0⟩ : api_Token))::fs) w' | some (x532,none) => St w0 Z (xblk b5 39 (enc_api_Token (⟨1,(⟨#[]⟩ : ByteArray),0,0,0,a1,0⟩ : api_Token))::xblk b1 39 (enc_api_Token (⟨0,(⟨#[]⟩ : ByteArray),0,0,0,0,0⟩ : api_Token))::fs) w' | some (x532,some (x533,none)) => St w0 Z (xblk b5 39 (enc_api_Token (⟨1,(a0.extract a1.toNat (IntKind.i64.wrap (a1 + t515)).toNat),0,0,0,a1,0⟩ : api_Token))::xblk b1 39 (enc_api_Token (⟨0,(⟨#[]⟩ : ByteArray),0,0,0,0,0⟩ : api_Token))::fs) w' | some (x532,some (x533,some x534)) => St w0 Z (xblk b5 39 (enc_api_Token (⟨1,(a0.extract a1.toNat (IntKind.i64.wrap (a1 + t515)).toNat),0,0,0,a1,(IntKind.i64.wrap (a1 + t515))⟩ : api_Token))::xblk b1 39 (enc_api_Token (⟨0,(⟨#[]⟩ : ByteArray),0,0,0,0,0⟩ : api_Token))::fs) w')) (v:=(fun st => match st with | none => [.string a0,.int .i64 a1,.int .i64 a1,.int .i64 t515,.int .i64 (IntKind.i64.wrap (a1 + t515)),.string (a0.extract a1.toNat (IntKind.i64.wrap (a1 + t515)).toNat),.int .i64 a1,.int .i64 t515,.int .i64 (IntKind.i64.wrap (a1 + t515)),.pointer (some ⟨b5,0,none⟩),undef,undef,undef,undef,undef] | some (x532,none) => [.string a0,.int .i64 a1,.int .i64 a1,.int .i64 t515,.int .i64 (IntKind.i64.wrap (a1 + t515)),.string (a0.extract a1.toNat (IntKind.i64.wrap (a1 + t515)).toNat),.int .i64 a1,.int .i64 t515,.int .i64 (IntKind.i64.wrap (a1 + t515)),.pointer (some ⟨b5,0,none⟩),undef,.pointer (some ⟨b5,1,none⟩),undef,undef,undef] | some (x532,some (x533,none)) => [.string a0,.int .i64 a1,.int .i64 a1,.int .i64 t515,.int .i64 (IntKind.i64.wrap (a1 + t515)),.string (a0.extract a1.toNat (IntKind.i64.wrap (a1 + t515)).toNat),.int .i64 a1,.int .i64 t515,.int .i64 (IntKind.i64.wrap (a1 + t515)),.pointer (some ⟨b5,0,none⟩),undef,.pointer (some ⟨b5,1,none⟩),undef,.pointer (some ⟨b5,6,none⟩),undef] | some (x532,some (x533,some x534)) => [.string a0,.int .i64 a1,.int .i64 a1,.int .i64 t515,.int .i64 (IntKind.i64.wrap (a1 + t515)),.string (a0.extract a1.toNat (IntKind.i64.wrap (a1 + t515)).toNat),.int .i64 a1,.int .i64 t515,.int .i64 (IntKind.i64.wrap (a1 + t515)),.pointer (some ⟨b5,0,none⟩),undef,.pointer (some ⟨b5,1,none⟩),undef,.pointer (some ⟨b5,6,none⟩),undef])) (c:=(cd69 [1,1,0,0,1,0,1,1])) (id:=10) none 10 15 [10,12,14] [0,0,0,0,0,0,0,0,0,0,0,1,1,2,2] [1,1,1,1,1,1,2,2,2,0,1,1,2,2,3] [] (by kernel_rfl) (by kernel_rfl) (by kernel_rfl) (by kernel_rfl) (by kernel_rfl) (by kernel_rfl) (by kernel_rfl) (by kernel_rfl) (by kernel_rfl) (by kernel_rfl) rfl hS519.drew ?_ ?_ ?_ ?_
  ·intro st w hC
   rcases st with _ | ⟨x532,_ | ⟨x533,_ | x534⟩⟩
   ·exact nbl rfl
   ·exact nbl rfl
   ·exact nbl rfl
   ·exact nbl rfl
  ·intro i hi he st w hC hr hu
   match i,hi,he with
   | 0,_,_ =>
    rcases st with _ | ⟨x532,_ | ⟨x533,_ | x534⟩⟩
    ·dsimp only at hC
     exact dP (.string a0) hC
    ·dsimp only at hC
     exact dP (.string a0) hC
    ·exact absurd hu (nle rfl)
    ·exact absurd hu (nle rfl)
   | 1,_,_ =>
    rcases st with _ | ⟨x532,_ | ⟨x533,_ | x534⟩⟩
    ·dsimp only at hC
     exact dP (.int .i64 a1) hC
    ·dsimp only at hC
     exact dP (.int .i64 a1) hC
    ·exact absurd hu (nle rfl)
    ·exact absurd hu (nle rfl)
   | 2,_,_ =>
    rcases st with _ | ⟨x532,_ | ⟨x533,_ | x534⟩⟩
    ·dsimp only at hC
     exact dP (.int .i64 a1) hC
    ·dsimp only at hC
     exact dP (.int .i64 a1) hC
    ·exact absurd hu (nle rfl)
    ·exact absurd hu (nle rfl)
   | 3,_,_ =>
    rcases st with _ | ⟨x532,_ | ⟨x533,_ | x534⟩⟩
    ·dsimp only at hC
     exact dP (.int .i64 t515) hC
    ·dsimp only at hC
     exact dP (.int .i64 t515) hC
    ·exact absurd hu (nle rfl)
    ·exact absurd hu (nle rfl)
   | 4,_,_ =>
    rcases st with _ | ⟨x532,_ | ⟨x533,_ | x534⟩⟩
    ·dsimp only at hC
     exact dP (.int .i64 (IntKind.i64.wrap (a1 + t515))) hC
    ·dsimp only at hC
     exact dP (.int .i64 (IntKind.i64.wrap (a1 + t515))) hC
    ·exact absurd hu (nle rfl)
    ·exact absurd hu (nle rfl)
   | 5,_,_ =>
    rcases st with _ | ⟨x532,_ | ⟨x533,_ | x534⟩⟩
    ·dsimp only at hC
     exact does_run (x_cutStr_ss (t:=9) (x:=(.tmp 43)) (lo:=(.tmp 44)) (hi:=(.tmp 47)) (k:=.i64) (k':=.i64) (by kernel_rfl) (by kernel_rfl) (by kernel_rfl) (by kernel_rfl) g530 (by kernel_rfl)) rfl hC
    ·dsimp only at hC
     exact does_run (x_cutStr_ss (t:=9) (x:=(.tmp 43)) (lo:=(.tmp 44)) (hi:=(.tmp 47)) (k:=.i64) (k':=.i64) (by kernel_rfl) (by kernel_rfl) (by kernel_rfl) (by kernel_rfl) g530 (by kernel_rfl)) rfl hC
    ·exact absurd hu (nle rfl)
    ·exact absurd hu (nle rfl)
   | 6,_,_ =>
    rcases st with _ | ⟨x532,_ | ⟨x533,_ | x534⟩⟩
    ·dsimp only at hC
     exact dP (.int .i64 a1) hC
    ·dsimp only at hC
     exact dP (.int .i64 a1) hC
    ·dsimp only at hC
     exact dP (.int .i64 a1) hC
    ·exact absurd hu (nle rfl)
   | 7,_,_ =>
    rcases st with _ | ⟨x532,_ | ⟨x533,_ | x534⟩⟩
    ·dsimp only at hC
     exact dP (.int .i64 t515) hC
    ·dsimp only at hC
     exact dP (.int .i64 t515) hC
    ·dsimp only at hC
     exact dP (.int .i64 t515) hC
    ·exact absurd hu (nle rfl)
   | 8,_,_ =>
    rcases st with _ | ⟨x532,_ | ⟨x533,_ | x534⟩⟩
    ·dsimp only at hC
     exact dP (.int .i64 (IntKind.i64.wrap (a1 + t515))) hC
    ·dsimp only at hC
     exact dP (.int .i64 (IntKind.i64.wrap (a1 + t515))) hC
    ·dsimp only at hC
     exact dP (.int .i64 (IntKind.i64.wrap (a1 + t515))) hC
    ·exact absurd hu (nle rfl)
   | 9,_,_ =>
    rcases st with _ | ⟨x532,_ | ⟨x533,_ | x534⟩⟩
    ·dsimp only at hC
     exact dP (.pointer (some ⟨b5,0,none⟩)) hC
    ·exact absurd hu (nle rfl)
    ·exact absurd hu (nle rfl)
    ·exact absurd hu (nle rfl)
   | 10,_,he => exact absurd he (by decide)
   | 11,_,_ =>
    rcases st with _ | ⟨x532,_ | ⟨x533,_ | x534⟩⟩
    ·exact absurd hr (nle rfl)
    ·dsimp only at hC
     exact dP (.pointer (some ⟨b5,1,none⟩)) hC
    ·exact absurd hu (nle rfl)
    ·exact absurd hu (nle rfl)
   | 12,_,he => exact absurd he (by decide)
   | 13,_,_ =>
    rcases st with _ | ⟨x532,_ | ⟨x533,_ | x534⟩⟩
    ·exact absurd hr (nle rfl)
    ·exact absurd hr (nle rfl)
    ·dsimp only at hC
     exact dP (.pointer (some ⟨b5,6,none⟩)) hC
    ·exact absurd hu (nle rfl)
   | 14,_,he => exact absurd he (by decide)
   | i + 15,hi,_ => exact absurd hi (by omega)
  ·intro k hk st w hC hr
   match k,hk with
   | 0,_ =>
    rcases st with _ | ⟨x532,_ | ⟨x533,_ | x534⟩⟩
    ·dsimp only at hC
     refine dS 3 (.tmp 52) (.const (.int .i64 1)) 0 (.int .i64 1) [.int .i64 1] (enc_api_Token (⟨1,(⟨#[]⟩ : ByteArray),0,0,0,a1,0⟩ : api_Token)) hC ?_
     intro w2 h2
     refine ⟨some ((),none),rfl,?_,.inl rfl,h2⟩
     intro j hj
     match j,hj with
     | 0,_ => exact rfl
     | 1,_ => exact rfl
     | 2,_ => exact rfl
     | 3,_ => exact rfl
     | 4,_ => exact rfl
     | 5,_ => exact rfl
     | 6,_ => exact rfl
     | 7,_ => exact rfl
     | 8,_ => exact rfl
     | 9,_ => exact rfl
     | 10,hj => exact absurd hj (by decide)
     | 11,hj => exact absurd hj (by decide)
     | 12,hj => exact absurd hj (by decide)
     | 13,hj => exact absurd hj (by decide)
     | 14,hj => exact absurd hj (by decide)
     | j + 15,_ => exact rfl
    ·exact absurd hr (Nat.ne_of_beq_eq_false rfl)
    ·exact absurd hr (Nat.ne_of_beq_eq_false rfl)
    ·exact absurd hr (Nat.ne_of_beq_eq_false rfl)
   | 1,_ =>
    rcases st with _ | ⟨x532,_ | ⟨x533,_ | x534⟩⟩
    ·exact absurd hr (Nat.ne_of_beq_eq_false rfl)
    ·dsimp only at hC
     refine dS 9 (.tmp 53) (.tmp 48) 1 (.string (a0.extract a1.toNat (IntKind.i64.wrap (a1 + t515)).toNat)) [.string (a0.extract a1.toNat (IntKind.i64.wrap (a1 + t515)).toNat)] (enc_api_Token (⟨1,(a0.extract a1.toNat (IntKind.i64.wrap (a1 + t515)).toNat),0,0,0,a1,0⟩ : api_Token)) hC ?_
     intro w2 h2
     refine ⟨some (x532,some ((),none)),rfl,?_,.inl rfl,h2⟩
     intro j hj
     match j,hj with
     | 0,_ => exact rfl
     | 1,_ => exact rfl
     | 2,_ => exact rfl
     | 3,_ => exact rfl
     | 4,_ => exact rfl
     | 5,_ => exact rfl
     | 6,_ => exact rfl
     | 7,_ => exact rfl
     | 8,_ => exact rfl
     | 9,_ => exact rfl
     | 10,_ => exact rfl
     | 11,_ => exact rfl
     | 12,hj => exact absurd hj (by decide)
     | 13,hj => exact absurd hj (by decide)
     | 14,hj => exact absurd hj (by decide)
     | j + 15,_ => exact rfl
    ·exact absurd hr (Nat.ne_of_beq_eq_false rfl)
    ·exact absurd hr (Nat.ne_of_beq_eq_false rfl)
   | 2,_ =>
    rcases st with _ | ⟨x532,_ | ⟨x533,_ | x534⟩⟩
    ·exact absurd hr (Nat.ne_of_beq_eq_false rfl)
    ·exact absurd hr (Nat.ne_of_beq_eq_false rfl)
    ·dsimp only at hC
     refine dS 3 (.tmp 54) (.tmp 51) 6 (.int .i64 (IntKind.i64.wrap (a1 + t515))) [.int .i64 (IntKind.i64.wrap (a1 + t515))] (enc_api_Token (⟨1,(a0.extract a1.toNat (IntKind.i64.wrap (a1 + t515)).toNat),0,0,0,a1,(IntKind.i64.wrap (a1 + t515))⟩ : api_Token)) hC ?_
     intro w2 h2
     refine ⟨some (x532,some (x533,some ())),rfl,?_,.inl rfl,h2⟩
     intro j hj
     match j,hj with
     | 0,_ => exact rfl
     | 1,_ => exact rfl
     | 2,_ => exact rfl
     | 3,_ => exact rfl
     | 4,_ => exact rfl
     | 5,_ => exact rfl
     | 6,_ => exact rfl
     | 7,_ => exact rfl
     | 8,_ => exact rfl
     | 9,_ => exact rfl
     | 10,_ => exact rfl
     | 11,_ => exact rfl
     | 12,_ => exact rfl
     | 13,_ => exact rfl
     | 14,hj => exact absurd hj (by decide)
     | j + 15,_ => exact rfl
    ·exact absurd hr (Nat.ne_of_beq_eq_false rfl)
   | k + 3,hk => exact absurd hk (by simp)
  intro st538 w535 hS536 hr537
  rcases st538 with _ | ⟨x532,_ | ⟨x533,_ | x534⟩⟩
  ·exact absurd hr537 (nle rfl)
  ·exact absurd hr537 (nle rfl)
  ·exact absurd hr537 (nle rfl)
  replace hS536 : St w0 Z (xblk b5 39 (enc_api_Token (⟨1,(a0.extract a1.toNat (IntKind.i64.wrap (a1 + t515)).toNat),0,0,0,a1,(IntKind.i64.wrap (a1 + t515))⟩ : api_Token))::xblk b1 39 (enc_api_Token (⟨0,(⟨#[]⟩ : ByteArray),0,0,0,0,0⟩ : api_Token))::fs) w535:=hS536
  refine sR 1 td228 ?_
  have hS539:=hS536.pick1
  refine rF (mk 189 [(4,.pointer (some ⟨b1,0,none⟩)),(7,.pointer (some ⟨b5,0,none⟩))]) ?_
  exact J25 (⟨1,(a0.extract a1.toNat (IntKind.i64.wrap (a1 + t515)).toNat),0,0,0,a1,(IntKind.i64.wrap (a1 + t515))⟩ : api_Token) (Option.some.inj hp531) _ _ hS539

noncomputable def cd70 (p : List Nat) : Code := sub (bodyOf Tryz.f70) p
abbrev p70_9:=cd70 [1,0,0,0,1,0,1,0,0]
abbrev p70_11:=cd70 [1,0,0,0,1,0,1,1]
abbrev p70_12:=cd70 [1,0,0,0,1,0,1,0,1,0,0]
abbrev p70_13:=cd70 [1,0,0,0,1,0,1,0,1,0,1]
abbrev td271:List Item:=[.code (cd70 [1,1])]
abbrev td272:List Item:=.inBlock 0::td271
abbrev td273:List Item:=.inLoop (cd70 [1,0,0,0])::td272
abbrev td274:List Item:=.code (cd70 [1,0,0,0])::td273
abbrev td275:List Item:=.inBlock 1::td273
abbrev td276:List Item:=.code p70_11::td275
def weirref05_Lexer__place.l0 (a1 : Int) (t13 : weirref05_Lexer) : Option weirref05_Lexer :=
  (if (decide (t13.from_ < a1)) = true then (if 0 ≤ t13.from_ ∧ t13.from_ < (t13.S.size : Int) then (if ((byt t13.S t13.from_) == 10) = true then (weirref05_Lexer__place.l0 a1 (⟨t13.S,t13.At,t13.F,(IntKind.i64.wrap (t13.from_ + 1)),(IntKind.i64.wrap (t13.line + 1)),1⟩ : weirref05_Lexer)) else (weirref05_Lexer__place.l0 a1 (⟨t13.S,t13.At,t13.F,(IntKind.i64.wrap (t13.from_ + 1)),t13.line,(IntKind.i64.wrap (t13.col + 1))⟩ : weirref05_Lexer))) else none) else some (t13))
 partial_fixpoint
def weirref05_Lexer__place.f (a0v : weirref05_Lexer) (a1 : Int) : Option (Int × Int × weirref05_Lexer) :=
  (weirref05_Lexer__place.l0 a1 a0v >>= (fun t4 => some ((t4.line,t4.col,t4))))
set_option maxHeartbeats 16000000 in
theorem weirref05_Lexer__place.ok (a0v : weirref05_Lexer) (a1 : Int) (ba0 : Nat) {w0 : World} {Z : Zm} {fs : List XObj} {w : World} (hS0 : St w0 Z (xblk ba0 135 (enc_weirref05_Lexer a0v)::fs) w) {q0 : Int} {q1 : Int} {q2 : weirref05_Lexer} (hp0 : weirref05_Lexer__place.f a0v a1 = some (q0,q1,q2)) :
    Calls Tryz.prog 70 #[.pointer (some ⟨ba0,0,none⟩),.int .i64 a1] w (fun e w' => e = .returned (.tuple #[.int .i64 q0,.int .i64 q1]) ∧ St w0 Z (xblk ba0 135 (enc_weirref05_Lexer q2)::fs) w'):=by
  refine calls_abs ?_; intro R hR
  unfold weirref05_Lexer__place.f at hp0
  refine calls_of_runs (fn:=Tryz.f70) (c:=cd70 []) Tryz.func70 (by kernel_rfl) (al:=[.pointer (some ⟨ba0,0,none⟩),.int .i64 a1]) rfl (n:=52) rfl ?_
  refine sR 8 td274 ?_
  obtain ⟨v1,hv2,hp3⟩:=bind_some' hp0
  have J7 : ∀ (t4 : weirref05_Lexer) (he9 : t4 = v1) (l8 : List Value) (w5 : World) (hS6 : St w0 Z (xblk ba0 135 (enc_weirref05_Lexer t4)::fs) w5),Runs Tryz.prog (fx 70) td271 (fill (mk 54 [(0,.pointer (some ⟨ba0,0,none⟩))]) l8) w5 R:=by
   intro t4 he9 l8 w5 hS6
   subst he9
   try dsimp only at hp3
   refine sR 1 [.code (cd70 [1,1,0]),.code (cd70 [1,1,1])] ?_
   refine r_quiet hS6 (c:=(cd70 [1,1,0])) (id:=7) (by kernel_rfl) (by kernel_rfl) (by kernel_rfl) (is:=[0,1,2,3,4,5,6,7,8,9]) (by kernel_rfl) ?_
   refine qR 3 (rg 3 7) ?_
   refine qL1 3 (.tmp 48) 6 (fun w hC => (hC.blk 0 rfl)) ?_
   refine qR 3 [7,8,9] ?_
   refine qL1 3 (.tmp 52) 7 (fun w hC => (hC.blk 0 rfl)) ?_
   refine qR 2 [] ?_
   refine Qs.nil ?_
   intro w10 hS11
   refine rR (.tuple #[.int .i64 t4.line,.int .i64 t4.col]) Tryz.func70 ?_
   cases Option.some.inj hp3
   exact hR _ _ ⟨rfl,hS11⟩
  have L22 : ∀ (t13 : weirref05_Lexer) (e17 : weirref05_Lexer),weirref05_Lexer__place.l0 a1 t13 = some e17 → e17 = v1 → ∀ (l16 : List Value) (w14 : World) (hS15 : St w0 Z (xblk ba0 135 (enc_weirref05_Lexer t13)::fs) w14),Runs Tryz.prog (fx 70) td274 (fill (mk 54 [(0,.pointer (some ⟨ba0,0,none⟩)),(1,.int .i64 a1)]) l16) w14 R:=by
   refine weirref05_Lexer__place.l0.partial_correctness a1 (fun t13 e17 => e17 = v1 → ∀ (l16 : List Value) (w14 : World) (hS15 : St w0 Z (xblk ba0 135 (enc_weirref05_Lexer t13)::fs) w14),Runs Tryz.prog (fx 70) td274 (fill (mk 54 [(0,.pointer (some ⟨ba0,0,none⟩)),(1,.int .i64 a1)]) l16) w14 R) ?_
   intro rec21 ih20 t13 e17 hb19 he18 l16 w14 hS15
   refine sR 6 (.inRegion (opsOf (cd70 [1,0,0,0,0,0])) [3,4,5]::.code (cd70 [1,0,0,0,0,1])::.code (cd70 [1,0,0,0,1])::td273) ?_
   refine rL1 3 (.tmp 8) 5 (hS15.blk 0 rfl) ?_
   refine sS 2 (.inRegion (opsOf (cd70 [1,0,0,0,0,0])) []::.code (cd70 [1,0,0,0,0,1])::.code (cd70 [1,0,0,0,1])::td273) 11 (decide (t13.from_ < a1)) (fun h23 => ?_) fun h24 => ?_
   ·have hp25:=ite_t hb19 h23
    refine sR 9 (iR (cd70 [1,0,0,0,1,0,0]) 3 5::.code (cd70 [1,0,0,0,1,0,1])::td275) ?_
    refine rL1 3 (.tmp 14) 7 (hS15.blk 0 rfl) ?_
    refine sR 3 (.inRegion (opsOf (cd70 [1,0,0,0,1,0,0])) [7]::.code (cd70 [1,0,0,0,1,0,1])::td275) ?_
    refine rS 3 (.tmp 18) (.tmp 16) 7 (.int .i64 (IntKind.i64.wrap (t13.col + 1))) [.int .i64 (IntKind.i64.wrap (t13.col + 1))] (enc_weirref05_Lexer (⟨t13.S,t13.At,t13.F,t13.from_,t13.line,(IntKind.i64.wrap (t13.col + 1))⟩ : weirref05_Lexer)) hS15 ?_
    intro w26 hS27
    refine sR 3 (.code p70_9::.code (cd70 [1,0,0,0,1,0,1,0,1])::td276) ?_
    refine r_quiet hS27 (c:=p70_9) (id:=3) (by kernel_rfl) (by kernel_rfl) (by kernel_rfl) (is:=[0,1,2,3,4,5,6,7,8,9]) (by kernel_rfl) ?_
    refine qR 3 (rg 3 7) ?_
    refine qL1 9 (.tmp 21) 0 (fun w hC => (hC.blk 0 rfl)) ?_
    refine qR 3 [7,8,9] ?_
    refine qL1 3 (.tmp 25) 5 (fun w hC => (hC.blk 0 rfl)) ?_
    obtain ⟨g28,hp29⟩:=ite_some hp25
    refine qV (.index 9 (.tmp 22) (.tmp 26)) (.int .u8 (byt t13.S t13.from_)) (fun w hC o ho _ => x_indexStr (kk:=.i64) (by kernel_rfl) (by kernel_rfl) (by kernel_rfl) g28.1 g28.2 ho) ?_
    refine qS 1 [] 28 ((byt t13.S t13.from_) == 10) (fun h30 => ?_) fun h31 => ?_
    ·have hp32:=ite_t hp29 h30
     refine Qs.nil ?_
     intro w33 hS34
     refine sR 6 (iR p70_12 3 5::.code p70_13::td276) ?_
     refine rL1 3 (.tmp 31) 6 (hS34.blk 0 rfl) ?_
     refine sR 3 (.inRegion (opsOf p70_12) [7]::.code p70_13::td276) ?_
     refine rS 3 (.tmp 35) (.tmp 33) 6 (.int .i64 (IntKind.i64.wrap (t13.line + 1))) [.int .i64 (IntKind.i64.wrap (t13.line + 1))] (enc_weirref05_Lexer (⟨t13.S,t13.At,t13.F,t13.from_,(IntKind.i64.wrap (t13.line + 1)),(IntKind.i64.wrap (t13.col + 1))⟩ : weirref05_Lexer)) hS34 ?_
     intro w35 hS36
     refine sR 5 (.inRegion (opsOf p70_13) [3]::td276) ?_
     refine rS 3 (.tmp 38) (.const (.int .i64 1)) 7 (.int .i64 1) [.int .i64 1] (enc_weirref05_Lexer (⟨t13.S,t13.At,t13.F,t13.from_,(IntKind.i64.wrap (t13.line + 1)),1⟩ : weirref05_Lexer)) hS36 ?_
     intro w37 hS38
     refine sR 5 (iR p70_11 3 5::td275) ?_
     refine rL1 3 (.tmp 41) 5 (hS38.blk 0 rfl) ?_
     refine sR 3 (.inRegion (opsOf p70_11) [7]::td275) ?_
     refine rS 3 (.tmp 45) (.tmp 43) 5 (.int .i64 (IntKind.i64.wrap (t13.from_ + 1))) [.int .i64 (IntKind.i64.wrap (t13.from_ + 1))] (enc_weirref05_Lexer (⟨t13.S,t13.At,t13.F,(IntKind.i64.wrap (t13.from_ + 1)),(IntKind.i64.wrap (t13.line + 1)),1⟩ : weirref05_Lexer)) hS38 ?_
     intro w39 hS40
     refine sR 2 td273 ?_
     refine sR 1 td274 ?_
     refine rF (mk 54 [(0,.pointer (some ⟨ba0,0,none⟩)),(1,.int .i64 a1)]) ?_
     exact ih20 (⟨t13.S,t13.At,t13.F,(IntKind.i64.wrap (t13.from_ + 1)),(IntKind.i64.wrap (t13.line + 1)),1⟩ : weirref05_Lexer) _ hp32 he18 _ _ hS40
    have hp41:=ite_f hp29 h31
    refine Qs.nil ?_
    intro w42 hS43
    refine sR 6 (iR p70_11 3 5::td275) ?_
    refine rL1 3 (.tmp 41) 5 (hS43.blk 0 rfl) ?_
    refine sR 3 (.inRegion (opsOf p70_11) [7]::td275) ?_
    refine rS 3 (.tmp 45) (.tmp 43) 5 (.int .i64 (IntKind.i64.wrap (t13.from_ + 1))) [.int .i64 (IntKind.i64.wrap (t13.from_ + 1))] (enc_weirref05_Lexer (⟨t13.S,t13.At,t13.F,(IntKind.i64.wrap (t13.from_ + 1)),t13.line,(IntKind.i64.wrap (t13.col + 1))⟩ : weirref05_Lexer)) hS43 ?_
    intro w44 hS45
    refine sR 2 td273 ?_
    refine sR 1 td274 ?_
    refine rF (mk 54 [(0,.pointer (some ⟨ba0,0,none⟩)),(1,.int .i64 a1)]) ?_
    exact ih20 (⟨t13.S,t13.At,t13.F,(IntKind.i64.wrap (t13.from_ + 1)),t13.line,(IntKind.i64.wrap (t13.col + 1))⟩ : weirref05_Lexer) _ hp41 he18 _ _ hS45
   have hp46:=ite_f hb19 h24
   refine sR 3 td271 ?_
   refine rF (mk 54 [(0,.pointer (some ⟨ba0,0,none⟩))]) ?_
   exact J7 t13 ((Option.some.inj hp46).trans he18) _ _ hS15
  refine rF (mk 54 [(0,.pointer (some ⟨ba0,0,none⟩)),(1,.int .i64 a1)]) ?_
  exact L22 a0v _ hv2 rfl _ _ hS0

noncomputable def cd51 (p : List Nat) : Code := sub (bodyOf Tryz.f51) p
abbrev p51_7:=cd51 [1,1,0]
abbrev p51_14:=cd51 [1,1,1,1,1,1,1]
abbrev p51_19:=cd51 [1,1,1,1,1,1,0,1,0,1,1,0]
abbrev p51_21:=cd51 [1,1,1,1,1,1,1,0]
abbrev p51_22:=cd51 [1,1,1,1,1,1,1,1]
abbrev p51_23:=cd51 [1,1,1,1,1,1,1,1,0]
abbrev p51_24:=cd51 [1,1,1,1,1,1,1,1,1]
abbrev p51_25:=cd51 [1,1,1,1,1,1,1,1,1,0]
abbrev p51_26:=cd51 [1,1,1,1,1,1,1,1,1,1]
abbrev p51_27:=cd51 [1,1,1,1,1,0,0]
abbrev p51_29:=cd51 [1,1,1,1,1,0,1,0,0]
abbrev td277:List Item:=[.code (cd51 [1,1,1,1,1,1])]
abbrev td278:List Item:=.code (cd51 [1,1,1,1,1,0,1])::td277
abbrev td279:List Item:=.code (cd51 [1,1,1,1,1,0,1,0,1])::td277
def weirref05_Lexer__Next.f (a0v : weirref05_Lexer) : Option (api_Token × weirref05_Fault × weirref05_Lexer) :=
  (if (a0v.F.Code != 0) = true then some (((⟨0,(⟨#[]⟩ : ByteArray),0,0,0,0,0⟩ : api_Token),a0v.F,a0v)) else (weirref05_blanks.f a0v.S a0v.At >>= (fun (t22,t23) => (((if (decide (t23 < 0)) = true then (if (decide (t22 < (a0v.S.size : Int))) = true then (weirref05_token.f a0v.S t22 >>= (fun (t104,t105,t106) => (if (t105 == 0) = true then some (((-1),t105,t104)) else some ((t106,t105,t104))))) else some ((t23,51,(⟨0,(⟨#[]⟩ : ByteArray),0,0,0,t22,t22⟩ : api_Token)))) else some ((t23,51,(⟨0,(⟨#[]⟩ : ByteArray),0,0,0,t22,t22⟩ : api_Token)))) : Option (Int × Int × api_Token)) >>= (fun (t40,t41,t42) => (if (decide (t40 ≥ 0)) = true then (weirref05_Lexer__place.f a0v t40 >>= (fun (t51,t52,t53) => some (((⟨0,(⟨#[]⟩ : ByteArray),0,0,0,0,0⟩ : api_Token),(⟨t51,t52,t41⟩ : weirref05_Fault),(⟨t53.S,t53.At,(⟨t51,t52,t41⟩ : weirref05_Fault),t53.from_,t53.line,t53.col⟩ : weirref05_Lexer))))) else (weirref05_Lexer__place.f a0v t22 >>= (fun (t72,t73,t74) => some (((⟨t42.Kind,t42.Text,t42.Value,t72,t73,t42.At,t42.End⟩ : api_Token),(⟨0,0,0⟩ : weirref05_Fault),(⟨t74.S,t42.End,t74.F,t74.from_,t74.line,t74.col⟩ : weirref05_Lexer)))))))))))
set_option maxHeartbeats 16000000 in
theorem weirref05_Lexer__Next.ok (a0v : weirref05_Lexer) (ba0 : Nat) {w0 : World} {Z : Zm} {fs : List XObj} {w : World} (hS0 : St w0 Z (xblk ba0 135 (enc_weirref05_Lexer a0v)::fs) w) {q0 : api_Token} {q1 : weirref05_Fault} {q2 : weirref05_Lexer} (hp0 : weirref05_Lexer__Next.f a0v = some (q0,q1,q2)) :
    Calls Tryz.prog 51 #[.pointer (some ⟨ba0,0,none⟩)] w (fun e w' => e = .returned (.tuple #[.agg (enc_api_Token q0).toArray,.agg (enc_weirref05_Fault q1).toArray]) ∧ St w0 Z (xblk ba0 135 (enc_weirref05_Lexer q2)::fs) w'):=by
  refine calls_abs ?_; intro R hR
  unfold weirref05_Lexer__Next.f at hp0
  refine calls_of_runs (fn:=Tryz.f51) (c:=cd51 []) Tryz.func51 (by kernel_rfl) (al:=[.pointer (some ⟨ba0,0,none⟩)]) rfl (n:=93) rfl ?_
  refine sR 2 [.inRegion (opsOf (cd51 [0])) [0,1],.code (cd51 [1])] ?_
  refine rA 39 (.agg (enc_api_Token (⟨0,(⟨#[]⟩ : ByteArray),0,0,0,0,0⟩ : api_Token)).toArray) (enc_api_Token (⟨0,(⟨#[]⟩ : ByteArray),0,0,0,0,0⟩ : api_Token)) hS0 ?_
  intro b1 w2 hS3
  refine rA 29 (.agg (enc_weirref05_Fault (⟨0,0,0⟩ : weirref05_Fault)).toArray) (enc_weirref05_Fault (⟨0,0,0⟩ : weirref05_Fault)) hS3 ?_
  intro b5 w6 hS7
  refine sR 8 [.inRegion (opsOf (cd51 [1,0,0])) [4,5],.code (cd51 [1,0,1]),.code (cd51 [1,1])] ?_
  refine rL1 3 (.tmp 13) 2 (sub_weirref05_Lexer_F (hS7.blk 2 rfl)) ?_
  refine sS 1 [.inRegion (opsOf (cd51 [1,0,0])) [],.code (cd51 [1,0,1]),.code (cd51 [1,1])] 15 (a0v.F.Code != 0) (fun h9 => ?_) fun h10 => ?_
  ·have hp11:=ite_t hp0 h9
   refine sR 3 [.code (cd51 [1,0,1,0,0]),.code (cd51 [1,0,1,0,1]),.code (cd51 [1,1])] ?_
   refine r_drawnG (S:=Option (Unit × Option Unit)) (rank:=(fun st => match st with | none => 0 | some (x12,none) => 1 | some (x12,some x13) => 2)) (C:=(fun st w' => match st with | none => St w0 Z (xblk b5 29 (enc_weirref05_Fault (⟨0,0,0⟩ : weirref05_Fault))::xblk b1 39 (enc_api_Token (⟨0,(⟨#[]⟩ : ByteArray),0,0,0,0,0⟩ : api_Token))::xblk ba0 135 (enc_weirref05_Lexer a0v)::fs) w' | some (x12,none) => St w0 Z (xblk b1 39 (enc_api_Token (⟨0,(⟨#[]⟩ : ByteArray),0,0,0,0,0⟩ : api_Token))::xblk b5 29 (enc_weirref05_Fault (⟨0,0,0⟩ : weirref05_Fault))::xblk ba0 135 (enc_weirref05_Lexer a0v)::fs) w' | some (x12,some x13) => St w0 Z (xblk b5 29 (enc_weirref05_Fault a0v.F)::xblk b1 39 (enc_api_Token (⟨0,(⟨#[]⟩ : ByteArray),0,0,0,0,0⟩ : api_Token))::xblk ba0 135 (enc_weirref05_Lexer a0v)::fs) w')) (v:=(fun st => match st with | none => [.agg (enc_api_Token (⟨0,(⟨#[]⟩ : ByteArray),0,0,0,0,0⟩ : api_Token)).toArray,.pointer (some ⟨ba0,0,none⟩),.pointer (some ⟨ba0,0,none⟩),.pointer (some ⟨ba0,2,none⟩),.agg (enc_weirref05_Fault a0v.F).toArray,undef,undef] | some (x12,none) => [.agg (enc_api_Token (⟨0,(⟨#[]⟩ : ByteArray),0,0,0,0,0⟩ : api_Token)).toArray,.pointer (some ⟨ba0,0,none⟩),.pointer (some ⟨ba0,0,none⟩),.pointer (some ⟨ba0,2,none⟩),.agg (enc_weirref05_Fault a0v.F).toArray,undef,undef] | some (x12,some x13) => [.agg (enc_api_Token (⟨0,(⟨#[]⟩ : ByteArray),0,0,0,0,0⟩ : api_Token)).toArray,.pointer (some ⟨ba0,0,none⟩),.pointer (some ⟨ba0,0,none⟩),.pointer (some ⟨ba0,2,none⟩),.agg (enc_weirref05_Fault a0v.F).toArray,undef,undef])) (c:=(cd51 [1,0,1,0,0])) (id:=2) none 5 7 [5,6] [0,0,0,0,0,0,1] [0,1,1,1,1,1,2] [] (by kernel_rfl) (by kernel_rfl) (by kernel_rfl) (by kernel_rfl) (by kernel_rfl) (by kernel_rfl) (by kernel_rfl) (by kernel_rfl) (by kernel_rfl) (by kernel_rfl) rfl hS7.drew ?_ ?_ ?_ ?_
   ·intro st w hC
    rcases st with _ | ⟨x12,_ | x13⟩
    ·exact nbl rfl
    ·exact nbl rfl
    ·exact nbl rfl
   ·intro i hi he st w hC hr hu
    match i,hi,he with
    | 0,_,_ =>
     rcases st with _ | ⟨x12,_ | x13⟩
     ·dsimp only at hC
      exact dP (.agg (enc_api_Token (⟨0,(⟨#[]⟩ : ByteArray),0,0,0,0,0⟩ : api_Token)).toArray) hC
     ·exact absurd hu (nle rfl)
     ·exact absurd hu (nle rfl)
    | 1,_,_ =>
     rcases st with _ | ⟨x12,_ | x13⟩
     ·dsimp only at hC
      exact dP (.pointer (some ⟨ba0,0,none⟩)) hC
     ·dsimp only at hC
      exact dP (.pointer (some ⟨ba0,0,none⟩)) hC
     ·exact absurd hu (nle rfl)
    | 2,_,_ =>
     rcases st with _ | ⟨x12,_ | x13⟩
     ·dsimp only at hC
      exact dP (.pointer (some ⟨ba0,0,none⟩)) hC
     ·dsimp only at hC
      exact dP (.pointer (some ⟨ba0,0,none⟩)) hC
     ·exact absurd hu (nle rfl)
    | 3,_,_ =>
     rcases st with _ | ⟨x12,_ | x13⟩
     ·dsimp only at hC
      exact dP (.pointer (some ⟨ba0,2,none⟩)) hC
     ·dsimp only at hC
      exact dP (.pointer (some ⟨ba0,2,none⟩)) hC
     ·exact absurd hu (nle rfl)
    | 4,_,_ =>
     rcases st with _ | ⟨x12,_ | x13⟩
     ·dsimp only at hC
      exact does_run (x_load (t:=29) (x:=(.tmp 19)) (p:=⟨ba0,2,none⟩) (v:=.agg (enc_weirref05_Fault a0v.F).toArray) (by kernel_rfl) (loads_agg (sub_weirref05_Lexer_F (hC.blk 2 rfl)) (by kernel_rfl) (by kernel_rfl)) (by kernel_rfl)) rfl hC
     ·dsimp only at hC
      exact does_run (x_load (t:=29) (x:=(.tmp 19)) (p:=⟨ba0,2,none⟩) (v:=.agg (enc_weirref05_Fault a0v.F).toArray) (by kernel_rfl) (loads_agg (sub_weirref05_Lexer_F (hC.blk 2 rfl)) (by kernel_rfl) (by kernel_rfl)) (by kernel_rfl)) rfl hC
     ·exact absurd hu (nle rfl)
    | 5,_,he => exact absurd he (by decide)
    | 6,_,he => exact absurd he (by decide)
    | i + 7,hi,_ => exact absurd hi (by omega)
   ·intro k hk st w hC hr
    match k,hk with
    | 0,_ =>
     rcases st with _ | ⟨x12,_ | x13⟩
     ·dsimp only at hC
      have hC:=hC.pick1
      refine dSG 39 (.tmp 2) (.tmp 16) 0 (.agg (enc_api_Token (⟨0,(⟨#[]⟩ : ByteArray),0,0,0,0,0⟩ : api_Token)).toArray) (enc_api_Token (⟨0,(⟨#[]⟩ : ByteArray),0,0,0,0,0⟩ : api_Token)) (enc_api_Token (⟨0,(⟨#[]⟩ : ByteArray),0,0,0,0,0⟩ : api_Token)) hC (one_api_Token _) ?_
      intro w2 h2
      refine ⟨some ((),none),rfl,?_,.inl rfl,h2⟩
      intro j hj
      match j,hj with
      | 0,_ => exact rfl
      | 1,_ => exact rfl
      | 2,_ => exact rfl
      | 3,_ => exact rfl
      | 4,_ => exact rfl
      | 5,hj => exact absurd hj (by decide)
      | 6,hj => exact absurd hj (by decide)
      | j + 7,_ => exact rfl
     ·exact absurd hr (Nat.ne_of_beq_eq_false rfl)
     ·exact absurd hr (Nat.ne_of_beq_eq_false rfl)
    | 1,_ =>
     rcases st with _ | ⟨x12,_ | x13⟩
     ·exact absurd hr (Nat.ne_of_beq_eq_false rfl)
     ·dsimp only at hC
      have hC:=hC.pick1
      refine dSG 29 (.tmp 3) (.tmp 20) 0 (.agg (enc_weirref05_Fault a0v.F).toArray) (enc_weirref05_Fault a0v.F) (enc_weirref05_Fault a0v.F) hC (one_weirref05_Fault _) ?_
      intro w2 h2
      refine ⟨some (x12,some ()),rfl,?_,.inl rfl,h2⟩
      intro j hj
      match j,hj with
      | 0,_ => exact rfl
      | 1,_ => exact rfl
      | 2,_ => exact rfl
      | 3,_ => exact rfl
      | 4,_ => exact rfl
      | 5,_ => exact rfl
      | 6,hj => exact absurd hj (by decide)
      | j + 7,_ => exact rfl
     ·exact absurd hr (Nat.ne_of_beq_eq_false rfl)
    | k + 2,hk => exact absurd hk (by simp)
   intro st17 w14 hS15 hr16
   rcases st17 with _ | ⟨x12,_ | x13⟩
   ·exact absurd hr16 (nle rfl)
   ·exact absurd hr16 (nle rfl)
   replace hS15 : St w0 Z (xblk b5 29 (enc_weirref05_Fault a0v.F)::xblk b1 39 (enc_api_Token (⟨0,(⟨#[]⟩ : ByteArray),0,0,0,0,0⟩ : api_Token))::xblk ba0 135 (enc_weirref05_Lexer a0v)::fs) w14:=hS15
   have hS18:=hS15.drop
   have hS19:=hS18.drop
   refine rRc (.tuple #[.agg (enc_api_Token (⟨0,(⟨#[]⟩ : ByteArray),0,0,0,0,0⟩ : api_Token)).toArray,.agg (enc_weirref05_Fault a0v.F).toArray]) (.ca 2 39 (hS15.blk 1 rfl) (.ca 3 29 (hS15.blk 0 rfl) .nil)) Tryz.func51 ?_
   cases Option.some.inj hp11
   exact hR _ _ ⟨rfl,hS19⟩
  have hp21:=ite_f hp0 h10
  refine sR 4 [.code p51_7,.code (cd51 [1,1,1])] ?_
  refine r_quiet hS7 (c:=p51_7) (id:=3) (by kernel_rfl) (by kernel_rfl) (by kernel_rfl) (is:=[0,1,2,3,4,5,6,7,8,9,10,11,12,13]) (by kernel_rfl) ?_
  refine qR 3 (rg 3 11) ?_
  refine qL1 9 (.tmp 24) 0 (fun w hC => (hC.blk 2 rfl)) ?_
  refine qR 3 (rg 7 7) ?_
  refine qL1 3 (.tmp 28) 1 (fun w hC => (hC.blk 2 rfl)) ?_
  obtain ⟨⟨t22,t23⟩,hr24,hp25⟩:=bind_some' hp21
  try dsimp only at hp25
  refine q_call1 (c:=p51_7) (i:=8) (d:=(some 30)) (v:=.tuple #[.int .i64 t22,.int .i64 t23]) (g:=68) (args:=#[.string a0v.S,.int .i64 a0v.At]) (by kernel_rfl) (by kernel_rfl) (by kernel_rfl) (by kernel_rfl) (fun w hC => by
   refine (weirref05_blanks.ok a0v.S a0v.At hC hr24).mono ?_
   rintro e w2 ⟨rfl,h2⟩
   have hS26:=h2.pick2
   have hS27:=hS26.pick2
   have hS28:=hS27.pick2
   exact ⟨rfl,hS28⟩) ?_
  refine qR 5 [] ?_
  refine Qs.nil ?_
  intro w29 hS30
  refine sR 9 [.inRegion (opsOf (cd51 [1,1,1,1,0])) [3,4],.code (cd51 [1,1,1,1,1])] ?_
  refine rA 39 (.agg (enc_api_Token (⟨0,(⟨#[]⟩ : ByteArray),0,0,0,0,0⟩ : api_Token)).toArray) (enc_api_Token (⟨0,(⟨#[]⟩ : ByteArray),0,0,0,0,0⟩ : api_Token)) hS30 ?_
  intro b31 w32 hS33
  refine rSA 39 (.tmp 7) (.tmp 35) (enc_api_Token (⟨0,(⟨#[]⟩ : ByteArray),0,0,0,t22,t22⟩ : api_Token)) hS33 (one_api_Token _) ?_
  intro w35 hS36
  obtain ⟨v37,hv38,hp39⟩:=bind_some' hp25
  have J45 : ∀ (t40 : Int) (t41 : Int) (t42 : api_Token) (he47 : (t40,t41,t42) = v37) (l46 : List Value) (w43 : World) (hS44 : St w0 Z (xblk ba0 135 (enc_weirref05_Lexer a0v)::xblk b1 39 (enc_api_Token (⟨0,(⟨#[]⟩ : ByteArray),0,0,0,0,0⟩ : api_Token))::xblk b5 29 (enc_weirref05_Fault (⟨0,0,0⟩ : weirref05_Fault))::xblk b31 39 (enc_api_Token t42)::fs) w43),Runs Tryz.prog (fx 51) td277 (fill (mk 94 [(0,.pointer (some ⟨ba0,0,none⟩)),(2,.pointer (some ⟨b1,0,none⟩)),(3,.pointer (some ⟨b5,0,none⟩)),(4,.int .i64 t22),(5,.int .i64 t40),(6,.int .i64 t41),(7,.pointer (some ⟨b31,0,none⟩))]) l46) w43 R:=by
   intro t40 t41 t42 he47 l46 w43 hS44
   subst he47
   try dsimp only at hp39
   refine sS 5 [.inRegion (opsOf (cd51 [1,1,1,1,1,1,0,0])) [],.code (cd51 [1,1,1,1,1,1,0,1]),.code p51_14] 60 (decide (t40 ≥ 0)) (fun h48 => ?_) fun h49 => ?_
   ·have hp50:=ite_t hp39 h48
    refine sR 6 [iR (cd51 [1,1,1,1,1,1,0,1,0,0]) 2 6,.code (cd51 [1,1,1,1,1,1,0,1,0,1]),.code p51_14] ?_
    obtain ⟨⟨t51,t52,t53⟩,hr54,hp55⟩:=bind_some' hp50
    try dsimp only at hp55
    refine rC (weirref05_Lexer__place.ok a0v t40 ba0 hS44 hr54) ?_
    rintro _ w56 ⟨rfl,hS57⟩
    refine ⟨_,rfl,?_⟩
    refine sR 15 [.inRegion (opsOf (cd51 [1,1,1,1,1,1,0,1,0,1,0])) [7],.code (cd51 [1,1,1,1,1,1,0,1,0,1,1]),.code p51_14] ?_
    refine rSG 29 (.tmp 73) (.tmp 71) 2 (.agg (enc_weirref05_Fault (⟨t51,t52,t41⟩ : weirref05_Fault)).toArray) (enc_weirref05_Fault (⟨t51,t52,t41⟩ : weirref05_Fault)) (enc_weirref05_Lexer (⟨t53.S,t53.At,(⟨t51,t52,t41⟩ : weirref05_Fault),t53.from_,t53.line,t53.col⟩ : weirref05_Lexer)) hS57 (one_weirref05_Fault _) ?_
    intro w58 hS59
    refine sR 2 [.code p51_19,.code (cd51 [1,1,1,1,1,1,0,1,0,1,1,1]),.code p51_14] ?_
    refine r_drawnG (S:=Option (Unit × Option Unit)) (rank:=(fun st => match st with | none => 0 | some (x60,none) => 1 | some (x60,some x61) => 2)) (C:=(fun st w' => match st with | none => St w0 Z (xblk ba0 135 (enc_weirref05_Lexer (⟨t53.S,t53.At,(⟨t51,t52,t41⟩ : weirref05_Fault),t53.from_,t53.line,t53.col⟩ : weirref05_Lexer))::xblk b1 39 (enc_api_Token (⟨0,(⟨#[]⟩ : ByteArray),0,0,0,0,0⟩ : api_Token))::xblk b5 29 (enc_weirref05_Fault (⟨0,0,0⟩ : weirref05_Fault))::xblk b31 39 (enc_api_Token t42)::fs) w' | some (x60,none) => St w0 Z (xblk b1 39 (enc_api_Token (⟨0,(⟨#[]⟩ : ByteArray),0,0,0,0,0⟩ : api_Token))::xblk ba0 135 (enc_weirref05_Lexer (⟨t53.S,t53.At,(⟨t51,t52,t41⟩ : weirref05_Fault),t53.from_,t53.line,t53.col⟩ : weirref05_Lexer))::xblk b5 29 (enc_weirref05_Fault (⟨0,0,0⟩ : weirref05_Fault))::xblk b31 39 (enc_api_Token t42)::fs) w' | some (x60,some x61) => St w0 Z (xblk b5 29 (enc_weirref05_Fault (⟨t51,t52,t41⟩ : weirref05_Fault))::xblk b1 39 (enc_api_Token (⟨0,(⟨#[]⟩ : ByteArray),0,0,0,0,0⟩ : api_Token))::xblk ba0 135 (enc_weirref05_Lexer (⟨t53.S,t53.At,(⟨t51,t52,t41⟩ : weirref05_Fault),t53.from_,t53.line,t53.col⟩ : weirref05_Lexer))::xblk b31 39 (enc_api_Token t42)::fs) w')) (v:=(fun st => match st with | none => [.agg (enc_api_Token (⟨0,(⟨#[]⟩ : ByteArray),0,0,0,0,0⟩ : api_Token)).toArray,.pointer (some ⟨ba0,0,none⟩),.pointer (some ⟨ba0,0,none⟩),.pointer (some ⟨ba0,2,none⟩),.agg (enc_weirref05_Fault (⟨t51,t52,t41⟩ : weirref05_Fault)).toArray,undef,undef] | some (x60,none) => [.agg (enc_api_Token (⟨0,(⟨#[]⟩ : ByteArray),0,0,0,0,0⟩ : api_Token)).toArray,.pointer (some ⟨ba0,0,none⟩),.pointer (some ⟨ba0,0,none⟩),.pointer (some ⟨ba0,2,none⟩),.agg (enc_weirref05_Fault (⟨t51,t52,t41⟩ : weirref05_Fault)).toArray,undef,undef] | some (x60,some x61) => [.agg (enc_api_Token (⟨0,(⟨#[]⟩ : ByteArray),0,0,0,0,0⟩ : api_Token)).toArray,.pointer (some ⟨ba0,0,none⟩),.pointer (some ⟨ba0,0,none⟩),.pointer (some ⟨ba0,2,none⟩),.agg (enc_weirref05_Fault (⟨t51,t52,t41⟩ : weirref05_Fault)).toArray,undef,undef])) (c:=p51_19) (id:=13) none 5 7 [5,6] [0,0,0,0,0,0,1] [0,1,1,1,1,1,2] [] (by kernel_rfl) (by kernel_rfl) (by kernel_rfl) (by kernel_rfl) (by kernel_rfl) (by kernel_rfl) (by kernel_rfl) (by kernel_rfl) (by kernel_rfl) (by kernel_rfl) rfl hS59.drew ?_ ?_ ?_ ?_
    ·intro st w hC
     rcases st with _ | ⟨x60,_ | x61⟩
     ·exact nbl rfl
     ·exact nbl rfl
     ·exact nbl rfl
    ·intro i hi he st w hC hr hu
     match i,hi,he with
     | 0,_,_ =>
      rcases st with _ | ⟨x60,_ | x61⟩
      ·dsimp only at hC
       exact dP (.agg (enc_api_Token (⟨0,(⟨#[]⟩ : ByteArray),0,0,0,0,0⟩ : api_Token)).toArray) hC
      ·exact absurd hu (nle rfl)
      ·exact absurd hu (nle rfl)
     | 1,_,_ =>
      rcases st with _ | ⟨x60,_ | x61⟩
      ·dsimp only at hC
       exact dP (.pointer (some ⟨ba0,0,none⟩)) hC
      ·dsimp only at hC
       exact dP (.pointer (some ⟨ba0,0,none⟩)) hC
      ·exact absurd hu (nle rfl)
     | 2,_,_ =>
      rcases st with _ | ⟨x60,_ | x61⟩
      ·dsimp only at hC
       exact dP (.pointer (some ⟨ba0,0,none⟩)) hC
      ·dsimp only at hC
       exact dP (.pointer (some ⟨ba0,0,none⟩)) hC
      ·exact absurd hu (nle rfl)
     | 3,_,_ =>
      rcases st with _ | ⟨x60,_ | x61⟩
      ·dsimp only at hC
       exact dP (.pointer (some ⟨ba0,2,none⟩)) hC
      ·dsimp only at hC
       exact dP (.pointer (some ⟨ba0,2,none⟩)) hC
      ·exact absurd hu (nle rfl)
     | 4,_,_ =>
      rcases st with _ | ⟨x60,_ | x61⟩
      ·dsimp only at hC
       exact does_run (x_load (t:=29) (x:=(.tmp 77)) (p:=⟨ba0,2,none⟩) (v:=.agg (enc_weirref05_Fault (⟨t51,t52,t41⟩ : weirref05_Fault)).toArray) (by kernel_rfl) (loads_agg (sub_weirref05_Lexer_F (hC.blk 0 rfl)) (by kernel_rfl) (by kernel_rfl)) (by kernel_rfl)) rfl hC
      ·dsimp only at hC
       exact does_run (x_load (t:=29) (x:=(.tmp 77)) (p:=⟨ba0,2,none⟩) (v:=.agg (enc_weirref05_Fault (⟨t51,t52,t41⟩ : weirref05_Fault)).toArray) (by kernel_rfl) (loads_agg (sub_weirref05_Lexer_F (hC.blk 1 rfl)) (by kernel_rfl) (by kernel_rfl)) (by kernel_rfl)) rfl hC
      ·exact absurd hu (nle rfl)
     | 5,_,he => exact absurd he (by decide)
     | 6,_,he => exact absurd he (by decide)
     | i + 7,hi,_ => exact absurd hi (by omega)
    ·intro k hk st w hC hr
     match k,hk with
     | 0,_ =>
      rcases st with _ | ⟨x60,_ | x61⟩
      ·dsimp only at hC
       have hC:=hC.pick1
       refine dSG 39 (.tmp 2) (.tmp 74) 0 (.agg (enc_api_Token (⟨0,(⟨#[]⟩ : ByteArray),0,0,0,0,0⟩ : api_Token)).toArray) (enc_api_Token (⟨0,(⟨#[]⟩ : ByteArray),0,0,0,0,0⟩ : api_Token)) (enc_api_Token (⟨0,(⟨#[]⟩ : ByteArray),0,0,0,0,0⟩ : api_Token)) hC (one_api_Token _) ?_
       intro w2 h2
       refine ⟨some ((),none),rfl,?_,.inl rfl,h2⟩
       intro j hj
       match j,hj with
       | 0,_ => exact rfl
       | 1,_ => exact rfl
       | 2,_ => exact rfl
       | 3,_ => exact rfl
       | 4,_ => exact rfl
       | 5,hj => exact absurd hj (by decide)
       | 6,hj => exact absurd hj (by decide)
       | j + 7,_ => exact rfl
      ·exact absurd hr (Nat.ne_of_beq_eq_false rfl)
      ·exact absurd hr (Nat.ne_of_beq_eq_false rfl)
     | 1,_ =>
      rcases st with _ | ⟨x60,_ | x61⟩
      ·exact absurd hr (Nat.ne_of_beq_eq_false rfl)
      ·dsimp only at hC
       have hC:=hC.pick2
       refine dSG 29 (.tmp 3) (.tmp 78) 0 (.agg (enc_weirref05_Fault (⟨t51,t52,t41⟩ : weirref05_Fault)).toArray) (enc_weirref05_Fault (⟨t51,t52,t41⟩ : weirref05_Fault)) (enc_weirref05_Fault (⟨t51,t52,t41⟩ : weirref05_Fault)) hC (one_weirref05_Fault _) ?_
       intro w2 h2
       refine ⟨some (x60,some ()),rfl,?_,.inl rfl,h2⟩
       intro j hj
       match j,hj with
       | 0,_ => exact rfl
       | 1,_ => exact rfl
       | 2,_ => exact rfl
       | 3,_ => exact rfl
       | 4,_ => exact rfl
       | 5,_ => exact rfl
       | 6,hj => exact absurd hj (by decide)
       | j + 7,_ => exact rfl
      ·exact absurd hr (Nat.ne_of_beq_eq_false rfl)
     | k + 2,hk => exact absurd hk (by simp)
    intro st65 w62 hS63 hr64
    rcases st65 with _ | ⟨x60,_ | x61⟩
    ·exact absurd hr64 (nle rfl)
    ·exact absurd hr64 (nle rfl)
    replace hS63 : St w0 Z (xblk b5 29 (enc_weirref05_Fault (⟨t51,t52,t41⟩ : weirref05_Fault))::xblk b1 39 (enc_api_Token (⟨0,(⟨#[]⟩ : ByteArray),0,0,0,0,0⟩ : api_Token))::xblk ba0 135 (enc_weirref05_Lexer (⟨t53.S,t53.At,(⟨t51,t52,t41⟩ : weirref05_Fault),t53.from_,t53.line,t53.col⟩ : weirref05_Lexer))::xblk b31 39 (enc_api_Token t42)::fs) w62:=hS63
    have hS66:=hS63.drop
    have hS67:=hS66.drop
    have hS68:=hS67.pick1
    have hS69:=hS68.drop
    refine rRc (.tuple #[.agg (enc_api_Token (⟨0,(⟨#[]⟩ : ByteArray),0,0,0,0,0⟩ : api_Token)).toArray,.agg (enc_weirref05_Fault (⟨t51,t52,t41⟩ : weirref05_Fault)).toArray]) (.ca 2 39 (hS63.blk 1 rfl) (.ca 3 29 (hS63.blk 0 rfl) .nil)) Tryz.func51 ?_
    cases Option.some.inj hp55
    exact hR _ _ ⟨rfl,hS69⟩
   have hp71:=ite_f hp39 h49
   refine sR 7 [iR p51_21 2 8,.code p51_22] ?_
   obtain ⟨⟨t72,t73,t74⟩,hr75,hp76⟩:=bind_some' hp71
   try dsimp only at hp76
   refine rC (weirref05_Lexer__place.ok a0v t22 ba0 hS44 hr75) ?_
   rintro _ w77 ⟨rfl,hS78⟩
   refine ⟨_,rfl,?_⟩
   refine sR 4 [.inRegion (opsOf p51_21) [7,8,9],.code p51_22] ?_
   have hS79:=hS78.pick3
   refine rS 3 (.tmp 85) (.tmp 83) 3 (.int .i64 t72) [.int .i64 t72] (enc_api_Token (⟨t42.Kind,t42.Text,t42.Value,t72,t42.Col,t42.At,t42.End⟩ : api_Token)) hS79 ?_
   intro w80 hS81
   refine sR 1 [.inRegion (opsOf p51_21) [9],.code p51_22] ?_
   refine rS 3 (.tmp 86) (.tmp 84) 4 (.int .i64 t73) [.int .i64 t73] (enc_api_Token (⟨t42.Kind,t42.Text,t42.Value,t72,t73,t42.At,t42.End⟩ : api_Token)) hS81 ?_
   intro w82 hS83
   refine sR 5 [iR p51_23 2 4,.code p51_24] ?_
   refine rL1 3 (.tmp 88) 6 (hS83.blk 0 rfl) ?_
   refine sR 2 [.inRegion (opsOf p51_23) [5],.code p51_24] ?_
   have hS84:=hS83.pick1
   refine rS 3 (.tmp 91) (.tmp 89) 1 (.int .i64 t42.End) [.int .i64 t42.End] (enc_weirref05_Lexer (⟨t74.S,t42.End,t74.F,t74.from_,t74.line,t74.col⟩ : weirref05_Lexer)) hS84 ?_
   intro w85 hS86
   refine sR 3 [iR p51_25 0 4,.code p51_26] ?_
   refine rLa 39 (.tmp 7) (hS86.blk 1 rfl) ?_
   refine sR 1 [.inRegion (opsOf p51_25) [2,3],.code p51_26] ?_
   have hS87:=hS86.pick2
   refine rSA 39 (.tmp 2) (.tmp 92) (enc_api_Token (⟨t42.Kind,t42.Text,t42.Value,t72,t73,t42.At,t42.End⟩ : api_Token)) hS87 (one_api_Token _) ?_
   intro w88 hS89
   have hS90:=hS89.pick3
   refine rSA 29 (.tmp 3) (.tmp 93) (enc_weirref05_Fault (⟨0,0,0⟩ : weirref05_Fault)) hS90 (one_weirref05_Fault _) ?_
   intro w91 hS92
   refine sR 1 [.code p51_26] ?_
   have hS93:=hS92.drop
   have hS94:=hS93.drop
   have hS95:=hS94.pick1
   have hS96:=hS95.drop
   refine rRc (.tuple #[.agg (enc_api_Token (⟨t42.Kind,t42.Text,t42.Value,t72,t73,t42.At,t42.End⟩ : api_Token)).toArray,.agg (enc_weirref05_Fault (⟨0,0,0⟩ : weirref05_Fault)).toArray]) (.ca 2 39 (hS92.blk 1 rfl) (.ca 3 29 (hS92.blk 0 rfl) .nil)) Tryz.func51 ?_
   cases Option.some.inj hp76
   exact hR _ _ ⟨rfl,hS96⟩
  refine sS 6 (iR p51_27 2 9::td278) 37 (decide (t23 < 0)) (fun h98 => ?_) fun h99 => ?_
  ·have hp100:=ite_t hv38 h98
   refine sR 5 (iR p51_27 7 4::td278) ?_
   refine rL1 9 (.tmp 42) 0 (hS36.blk 3 rfl) ?_
   refine sS 2 (.inRegion (opsOf p51_27) [10]::td278) 45 (decide (t22 < (a0v.S.size : Int))) (fun h101 => ?_) fun h102 => ?_
   ·have hp103:=ite_t hp100 h101
    refine sR 8 (iR p51_29 3 10::td279) ?_
    refine rL1 9 (.tmp 50) 0 (hS36.blk 3 rfl) ?_
    refine sR 1 (iR p51_29 5 8::td279) ?_
    obtain ⟨⟨t104,t105,t106⟩,hr107,hp108⟩:=bind_some' hp103
    try dsimp only at hp108
    refine rC (weirref05_token.ok a0v.S t22 hS36 hr107) ?_
    rintro _ w109 ⟨rfl,hS110⟩
    refine ⟨_,rfl,?_⟩
    refine sR 4 (.inRegion (opsOf p51_29) [10,11,12]::td279) ?_
    refine rSA 39 (.tmp 7) (.tmp 54) (enc_api_Token t104) hS110 (one_api_Token _) ?_
    intro w111 hS112
    refine sS 7 (.inRegion (opsOf (cd51 [1,1,1,1,1,0,1,0,1,0])) []::.code (cd51 [1,1,1,1,1,0,1,0,1,1])::td277) 58 (t105 == 0) (fun h113 => ?_) fun h114 => ?_
    ·have hp115:=ite_t hp108 h113
     refine sR 5 td277 ?_
     have hS116:=hS112.pick1
     have hS117:=hS116.pick2
     have hS118:=hS117.pick3
     refine rF (mk 94 [(0,.pointer (some ⟨ba0,0,none⟩)),(2,.pointer (some ⟨b1,0,none⟩)),(3,.pointer (some ⟨b5,0,none⟩)),(4,.int .i64 t22),(5,.int .i64 (-1)),(6,.int .i64 t105),(7,.pointer (some ⟨b31,0,none⟩))]) ?_
     exact J45 (-1) t105 t104 (Option.some.inj hp115) _ _ hS118
    have hp119:=ite_f hp108 h114
    refine sR 3 td277 ?_
    have hS120:=hS112.pick1
    have hS121:=hS120.pick2
    have hS122:=hS121.pick3
    refine rF (mk 94 [(0,.pointer (some ⟨ba0,0,none⟩)),(2,.pointer (some ⟨b1,0,none⟩)),(3,.pointer (some ⟨b5,0,none⟩)),(4,.int .i64 t22),(5,.int .i64 t106),(6,.int .i64 t105),(7,.pointer (some ⟨b31,0,none⟩))]) ?_
    exact J45 t106 t105 t104 (Option.some.inj hp119) _ _ hS122
   have hp123:=ite_f hp100 h102
   refine sR 4 td277 ?_
   have hS124:=hS36.pick1
   have hS125:=hS124.pick2
   have hS126:=hS125.pick3
   refine rF (mk 94 [(0,.pointer (some ⟨ba0,0,none⟩)),(2,.pointer (some ⟨b1,0,none⟩)),(3,.pointer (some ⟨b5,0,none⟩)),(4,.int .i64 t22),(5,.int .i64 t23),(6,.int .i64 51),(7,.pointer (some ⟨b31,0,none⟩))]) ?_
   exact J45 t23 51 (⟨0,(⟨#[]⟩ : ByteArray),0,0,0,t22,t22⟩ : api_Token) (Option.some.inj hp123) _ _ hS126
  have hp127:=ite_f hv38 h99
  refine sR 12 td277 ?_
  have hS128:=hS36.pick1
  have hS129:=hS128.pick2
  have hS130:=hS129.pick3
  refine rF (mk 94 [(0,.pointer (some ⟨ba0,0,none⟩)),(2,.pointer (some ⟨b1,0,none⟩)),(3,.pointer (some ⟨b5,0,none⟩)),(4,.int .i64 t22),(5,.int .i64 t23),(6,.int .i64 51),(7,.pointer (some ⟨b31,0,none⟩))]) ?_
  exact J45 t23 51 (⟨0,(⟨#[]⟩ : ByteArray),0,0,0,t22,t22⟩ : api_Token) (Option.some.inj hp127) _ _ hS130

noncomputable def cd26 (p : List Nat) : Code := sub (bodyOf Tryz.f26) p
abbrev p26_7:=cd26 [1,1,1,0,0,0,1,0,0]
abbrev p26_9:=cd26 [1,1,1,0,0,0,1,1]
abbrev p26_10:=cd26 [1,1,1,0,0,0,1,0,1,0,0]
abbrev td280:List Item:=[.inBlock 0]
abbrev td281:List Item:=.inLoop (cd26 [1,1,1,0,0])::td280
abbrev td282:List Item:=.code (cd26 [1,1,1,0,0])::td281
abbrev td283:List Item:=.inBlock 1::td281
abbrev td284:List Item:=.code p26_9::td283
abbrev td285:List Item:=.code (cd26 [1,1,1,0,0,0,1,0,1])::td284
abbrev td286:List Item:=.code (cd26 [1,1,1,0,0,0,1,0,1,0,1])::td284
def weirref05_Tokens.l0 (t16 : List api_Token) (t20 : weirref05_Lexer) : Option ((List api_Token) × weirref05_Fault) :=
  (weirref05_Lexer__Next.f t20 >>= (fun (t31,t32,t33) => (if (t32.Code != 0) = true then some ((t16,t32)) else (if (t31.Kind == 0) = true then some ((t16,t32)) else (if (t16.length + ([t31] : List api_Token).length) * 64 ≤ 140737488355328 then (weirref05_Tokens.l0 (t16 ++ ([t31] : List api_Token)) t33) else none)))))
 partial_fixpoint
def weirref05_Tokens.f (a0 : ByteArray) : Option ((List api_Token) × weirref05_Fault) :=
  (weirref05_New.f a0 >>= (fun t5 => (weirref05_Tokens.l0 [] t5 >>= fun e => some e)))
set_option maxHeartbeats 16000000 in
theorem weirref05_Tokens.ok (a0 : ByteArray) {w0 : World} {Z : Zm} {fs : List XObj} {w : World} (hS0 : St w0 Z (fs) w) {q0 : List api_Token} {q1 : weirref05_Fault} (hp0 : weirref05_Tokens.f a0 = some (q0,q1)) :
    Calls Tryz.prog 26 #[.string a0] w (fun e w' => ∃ (QA0 : Option Addr) (Qc0 : Nat),e = .returned (.tuple #[.slice QA0 q0.length Qc0,.agg (enc_weirref05_Fault q1).toArray]) ∧ St w0 Z (xrow QA0 Qc0 39 7 (q0.flatMap enc_api_Token)::fs) w'):=by
  refine calls_abs ?_; intro R hR
  unfold weirref05_Tokens.f at hp0
  refine calls_of_runs (fn:=Tryz.f26) (c:=cd26 []) Tryz.func26 (by kernel_rfl) (al:=[.string a0]) rfl (n:=28) rfl ?_
  refine sR 3 [.inRegion (opsOf (cd26 [0])) [1],.code (cd26 [1])] ?_
  refine rA 29 (.agg (enc_weirref05_Fault (⟨0,0,0⟩ : weirref05_Fault)).toArray) (enc_weirref05_Fault (⟨0,0,0⟩ : weirref05_Fault)) hS0 ?_
  intro b1 w2 hS3
  refine sR 4 [.inRegion (opsOf (cd26 [1,0])) [1,2],.code (cd26 [1,1])] ?_
  obtain ⟨t5,hr7,hp8⟩:=bind_some' hp0
  refine rC (weirref05_New.ok a0 hS3 hr7) ?_
  rintro _ w10 ⟨Q6,rfl,hS11⟩
  refine ⟨_,rfl,?_⟩
  refine sR 8 td282 ?_
  obtain ⟨v12,hv13,hp14⟩:=bind_some' hp8
  have hq15 : ∀ x,x = v12 → x = (q0,q1):=by intro x hx; subst hx; simpa using hp14
  have L29 : ∀ (t16 : List api_Token) (t20 : weirref05_Lexer) (e24 : ((List api_Token) × weirref05_Fault)),weirref05_Tokens.l0 t16 t20 = some e24 → e24 = v12 → ∀ (l23 : List Value) (A17 : Option Addr) (c18 : Nat) (w21 : World) (hS22 : St w0 Z (xblk b1 29 (enc_weirref05_Fault (⟨0,0,0⟩ : weirref05_Fault))::xblk Q6 135 (enc_weirref05_Lexer t20)::xrow A17 c18 39 7 (t16.flatMap enc_api_Token)::fs) w21),Runs Tryz.prog (fx 26) td282 (fill (mk 29 [(3,.pointer (some ⟨b1,0,none⟩)),(4,.pointer (some ⟨Q6,0,none⟩)),(5,.slice A17 t16.length c18)]) l23) w21 R:=by
   refine weirref05_Tokens.l0.partial_correctness (fun t16 t20 e24 => e24 = v12 → ∀ (l23 : List Value) (A17 : Option Addr) (c18 : Nat) (w21 : World) (hS22 : St w0 Z (xblk b1 29 (enc_weirref05_Fault (⟨0,0,0⟩ : weirref05_Fault))::xblk Q6 135 (enc_weirref05_Lexer t20)::xrow A17 c18 39 7 (t16.flatMap enc_api_Token)::fs) w21),Runs Tryz.prog (fx 26) td282 (fill (mk 29 [(3,.pointer (some ⟨b1,0,none⟩)),(4,.pointer (some ⟨Q6,0,none⟩)),(5,.slice A17 t16.length c18)]) l23) w21 R) ?_
   intro rec28 ih27 t16 t20 e24 hb26 he25 l23 A17 c18 w21 hS22
   have hq30 : ∀ x,id x = e24 → x = (q0,q1):=fun x hx => hq15 x (hx.trans he25)
   refine sR 4 (iR (cd26 [1,1,1,0,0,0,0]) 1 8::.code (cd26 [1,1,1,0,0,0,1])::td283) ?_
   obtain ⟨⟨t31,t32,t33⟩,hr34,hp35⟩:=bind_some' hb26
   try dsimp only at hp35
   have hS36:=hS22.pick1
   refine rC (weirref05_Lexer__Next.ok t20 Q6 hS36 hr34) ?_
   rintro _ w37 ⟨rfl,hS38⟩
   refine ⟨_,rfl,?_⟩
   refine sR 3 (iR (cd26 [1,1,1,0,0,0,0]) 5 4::.code (cd26 [1,1,1,0,0,0,1])::td283) ?_
   refine rA 39 (.agg (enc_api_Token (⟨0,(⟨#[]⟩ : ByteArray),0,0,0,0,0⟩ : api_Token)).toArray) (enc_api_Token (⟨0,(⟨#[]⟩ : ByteArray),0,0,0,0,0⟩ : api_Token)) hS38 ?_
   intro b39 w40 hS41
   refine rA 29 (.agg (enc_weirref05_Fault (⟨0,0,0⟩ : weirref05_Fault)).toArray) (enc_weirref05_Fault (⟨0,0,0⟩ : weirref05_Fault)) hS41 ?_
   intro b43 w44 hS45
   have hS47:=hS45.pick1
   refine rSA 39 (.tmp 6) (.tmp 13) (enc_api_Token t31) hS47 (one_api_Token _) ?_
   intro w48 hS49
   have hS50:=hS49.pick1
   refine rSA 29 (.tmp 7) (.tmp 14) (enc_weirref05_Fault t32) hS50 (one_weirref05_Fault _) ?_
   intro w51 hS52
   refine sR 5 (iR p26_7 1 7::td285) ?_
   refine rL1 3 (.tmp 15) 2 (hS52.blk 0 rfl) ?_
   refine sS 1 (iR p26_7 3 5::td285) 17 (t32.Code != 0) (fun h53 => ?_) fun h54 => ?_
   ·have hp55:=ite_t hp35 h53
    refine sR 8 (.code p26_10::td286) ?_
    refine r_drawn3 (C:=St w0 Z (xblk b43 29 (enc_weirref05_Fault t32)::xblk b39 39 (enc_api_Token t31)::xblk Q6 135 (enc_weirref05_Lexer t33)::xblk b1 29 (enc_weirref05_Fault (⟨0,0,0⟩ : weirref05_Fault))::xrow A17 c18 39 7 (t16.flatMap enc_api_Token)::fs)) (c:=p26_10) (id:=5) (by kernel_rfl) (by kernel_rfl) 3 (Nat.le_of_ble_eq_true (by kernel_rfl)) (by kernel_rfl) (by kernel_rfl) (by kernel_rfl) (is:=[0,1,2]) (rest:=[3]) (by kernel_rfl) (by kernel_rfl) hS52.drew ?_
    refine qR 1 [1,2] ?_
    refine qLa 29 (.tmp 7) (fun w hC => (hC.blk 0 rfl)) ?_
    refine qR 1 [] ?_
    refine Qs.nil ?_
    intro w56 hS57
    have hS58:=hS57.pick3
    refine rSA 29 (.tmp 3) (.tmp 24) (enc_weirref05_Fault t32) hS58 (one_weirref05_Fault _) ?_
    intro w59 hS60
    refine sR 1 td286 ?_
    have hS61:=hS60.drop
    have hS62:=hS61.drop
    have hS63:=hS62.drop
    have hS64:=hS63.drop
    refine rRc (.tuple #[.slice A17 t16.length c18,.agg (enc_weirref05_Fault t32).toArray]) (.tm 2 (.ca 3 29 (hS60.blk 0 rfl) .nil)) Tryz.func26 ?_
    cases hq30 _ (Option.some.inj hp55)
    exact hR _ _ ⟨A17,c18,rfl,hS64⟩
   have hp66:=ite_f hp35 h54
   refine sR 2 (.inRegion (opsOf p26_7) [5,6,7]::td285) ?_
   refine rL1 3 (.tmp 19) 0 (hS52.blk 1 rfl) ?_
   refine sS 1 (.inRegion (opsOf p26_7) [7]::td285) 21 (t31.Kind == 0) (fun h67 => ?_) fun h68 => ?_
   ·have hp69:=ite_t hp66 h67
    refine sR 4 (.code p26_10::td286) ?_
    refine r_drawn3 (C:=St w0 Z (xblk b43 29 (enc_weirref05_Fault t32)::xblk b39 39 (enc_api_Token t31)::xblk Q6 135 (enc_weirref05_Lexer t33)::xblk b1 29 (enc_weirref05_Fault (⟨0,0,0⟩ : weirref05_Fault))::xrow A17 c18 39 7 (t16.flatMap enc_api_Token)::fs)) (c:=p26_10) (id:=5) (by kernel_rfl) (by kernel_rfl) 3 (Nat.le_of_ble_eq_true (by kernel_rfl)) (by kernel_rfl) (by kernel_rfl) (by kernel_rfl) (is:=[0,1,2]) (rest:=[3]) (by kernel_rfl) (by kernel_rfl) hS52.drew ?_
    refine qR 1 [1,2] ?_
    refine qLa 29 (.tmp 7) (fun w hC => (hC.blk 0 rfl)) ?_
    refine qR 1 [] ?_
    refine Qs.nil ?_
    intro w70 hS71
    have hS72:=hS71.pick3
    refine rSA 29 (.tmp 3) (.tmp 24) (enc_weirref05_Fault t32) hS72 (one_weirref05_Fault _) ?_
    intro w73 hS74
    refine sR 1 td286 ?_
    have hS75:=hS74.drop
    have hS76:=hS75.drop
    have hS77:=hS76.drop
    have hS78:=hS77.drop
    refine rRc (.tuple #[.slice A17 t16.length c18,.agg (enc_weirref05_Fault t32).toArray]) (.tm 2 (.ca 3 29 (hS74.blk 0 rfl) .nil)) Tryz.func26 ?_
    cases hq30 _ (Option.some.inj hp69)
    exact hR _ _ ⟨A17,c18,rfl,hS78⟩
   have hp80:=ite_f hp66 h68
   refine sR 6 (iR p26_9 1 4::td283) ?_
   refine rLa 39 (.tmp 6) (hS52.blk 1 rfl) ?_
   refine r_lit (c:=p26_9) (i:=2) (d:=(some 27)) (ty:=45) (t:=45) (e:=39) (sz:=7) (n:=1) (parts:=#[(0,(.tmp 26))]) (vs:=[(0,.agg (enc_api_Token t31).toArray)]) (z:=zeroOf Tryz.prog 39) (cs':=([t31] : List api_Token).flatMap enc_api_Token) hS52 (by kernel_rfl) (by kernel_rfl) (by kernel_rfl) (by kernel_rfl) (by kernel_rfl) (by decide) (by decide) (by kernel_rfl) rfl (Parts.cons (c:=enc_api_Token t31) (by kernel_rfl) (len_api_Token _) Parts.nil) rfl ?_
   intro b82 w83 hS84
   have hS85:=hS84.pick5
   obtain ⟨g86,hp87⟩:=ite_some hp80
   refine r_append (c:=p26_9) (i:=3) (d:=(some 28)) (ty:=45) (enc:=enc_api_Token) (e:=39) (u:=39) (t:=45) (t2:=45) (sz:=7) (cp:=c18) (A:=A17) (bytes:=64) (xs:=t16) (ys:=([t31] : List api_Token)) (s:=(.tmp 25)) (x:=(.tmp 27)) (xv:=.slice (some ⟨b82,0,none⟩) ([t31] : List api_Token).length 1) (info:=infoOf Tryz.prog 39) (z:=zeroOf Tryz.prog 39) (ycs:=([t31] : List api_Token).flatMap enc_api_Token) hS85 (by kernel_rfl) (by kernel_rfl) (by kernel_rfl) (by kernel_rfl) (by kernel_rfl) (.inl (by kernel_rfl)) (by kernel_rfl) (by kernel_rfl) (by kernel_rfl) (by kernel_rfl) (by kernel_rfl) (by omega) len_api_Token one_api_Token (src_row (hS85.row 1 rfl) (by omega) len_api_Token) rfl g86 (by omega) ?_
   intro A88 c89 w90 hS91
   refine sR 3 td281 ?_
   have hS93:=hS91.pick1
   have hS94:=hS93.drop
   have hS95:=hS94.pick1
   have hS96:=hS95.drop
   have hS97:=hS96.pick1
   have hS98:=hS97.drop
   have hS99:=hS98.pick1
   have hS100:=hS99.pick2
   refine sR 1 td282 ?_
   refine rF (mk 29 [(3,.pointer (some ⟨b1,0,none⟩)),(4,.pointer (some ⟨Q6,0,none⟩)),(5,.slice A88 (t16 ++ ([t31] : List api_Token)).length c89)]) ?_
   exact ih27 (t16 ++ ([t31] : List api_Token)) t33 _ hp87 he25 _ A88 c89 _ hS100
  have hS102:=hS11.nilrow none 39 7
  have hS103:=hS102.pick1
  have hS104:=hS103.pick2
  refine rF (mk 29 [(3,.pointer (some ⟨b1,0,none⟩)),(4,.pointer (some ⟨Q6,0,none⟩)),(5,.slice none 0 0)]) ?_
  exact L29 [] t5 _ hv13 rfl _ none 0 _ hS104

noncomputable def cd27 (p : List Nat) : Code := sub (bodyOf Tryz.f27) p
abbrev p27_2:=cd27 [1,1]
abbrev p27_10:=cd27 [1,1,1,0,1,0,0,1,0,0,1,0]
abbrev p27_11:=cd27 [1,1,1,0,1,0,0,1,0,0,1,1]
abbrev p27_12:=cd27 [1,1,1,0,1,0,0,1,1]
abbrev td287:List Item:=[.code (cd27 [1,1,1,1])]
abbrev td288:List Item:=.inBlock 0::td287
abbrev td289:List Item:=.inLoop (cd27 [1,1,1,0,1,0,0])::td288
abbrev td290:List Item:=.code (cd27 [1,1,1,0,1,0,0])::td289
def weirref05_Place.l0 (a0 : ByteArray) (a1 : Int) (t22 : Int) (t23 : Int) (t24 : Int) : Option (Int × Int) :=
  (if (decide (t24 < a1)) = true then (if 0 ≤ t24 ∧ t24 < (a0.size : Int) then (if ((byt a0 t24) == 10) = true then (weirref05_Place.l0 a0 a1 (IntKind.i64.wrap (t22 + 1)) 1 (IntKind.i64.wrap (t24 + 1))) else (weirref05_Place.l0 a0 a1 (id t22) (IntKind.i64.wrap (t23 + 1)) (IntKind.i64.wrap (t24 + 1)))) else none) else some ((t22,t23)))
 partial_fixpoint
def weirref05_Place.f (a0 : ByteArray) (a1 : Int) : Option (Int × Int × Bool) :=
  (if (decide (a1 < 0)) = true then some ((0,0,false)) else (if (decide (a1 > (a0.size : Int))) = true then some ((0,0,false)) else (weirref05_Place.l0 a0 a1 1 1 0 >>= (fun (t14,t15) => some ((t14,t15,true))))))
set_option maxHeartbeats 16000000 in
theorem weirref05_Place.ok (a0 : ByteArray) (a1 : Int) {w0 : World} {Z : Zm} {fs : List XObj} {w : World} (hS0 : St w0 Z (fs) w) {q0 : Int} {q1 : Int} {q2 : Bool} (hp0 : weirref05_Place.f a0 a1 = some (q0,q1,q2)) :
    Calls Tryz.prog 27 #[.string a0,.int .i64 a1] w (fun e w' => e = .returned (.tuple #[.int .i64 q0,.int .i64 q1,.bool q2]) ∧ St w0 Z (fs) w'):=by
  refine calls_abs ?_; intro R hR
  unfold weirref05_Place.f at hp0
  refine calls_of_runs (fn:=Tryz.f27) (c:=cd27 []) Tryz.func27 (by kernel_rfl) (al:=[.string a0,.int .i64 a1]) rfl (n:=31) rfl ?_
  refine sS 11 [iR (cd27 [1,0,0]) 2 6,.code (cd27 [1,0,1]),.code p27_2] 11 (decide (a1 < 0)) (fun h1 => ?_) fun h2 => ?_
  ·have hp3:=ite_t hp0 h1
   refine sR 14 [.code (cd27 [1,0,1,0,1]),.code p27_2] ?_
   refine rR (.tuple #[.int .i64 0,.int .i64 0,.bool false]) Tryz.func27 ?_
   cases Option.some.inj hp3
   exact hR _ _ ⟨rfl,hS0⟩
  have hp5:=ite_f hp0 h2
  refine sS 5 [.inRegion (opsOf (cd27 [1,0,0])) [7],.code (cd27 [1,0,1]),.code p27_2] 16 (decide (a1 > (a0.size : Int))) (fun h6 => ?_) fun h7 => ?_
  ·have hp8:=ite_t hp5 h6
   refine sR 9 [.code (cd27 [1,0,1,0,1]),.code p27_2] ?_
   refine rR (.tuple #[.int .i64 0,.int .i64 0,.bool false]) Tryz.func27 ?_
   cases Option.some.inj hp8
   exact hR _ _ ⟨rfl,hS0⟩
  have hp10:=ite_f hp5 h7
  refine sR 16 td290 ?_
  obtain ⟨v11,hv12,hp13⟩:=bind_some' hp10
  have J18 : ∀ (t14 : Int) (t15 : Int) (he20 : (t14,t15) = v11) (l19 : List Value) (w16 : World) (hS17 : St w0 Z (fs) w16),Runs Tryz.prog (fx 27) td287 (fill (mk 33 [(7,.int .i64 t14),(8,.int .i64 t15)]) l19) w16 R:=by
   intro t14 t15 he20 l19 w16 hS17
   subst he20
   try dsimp only at hp13
   refine sR 8 [.code (cd27 [1,1,1,1,1])] ?_
   refine rR (.tuple #[.int .i64 t14,.int .i64 t15,.bool true]) Tryz.func27 ?_
   cases Option.some.inj hp13
   exact hR _ _ ⟨rfl,hS17⟩
  have L33 : ∀ (t22 : Int) (t23 : Int) (t24 : Int) (e28 : (Int × Int)),weirref05_Place.l0 a0 a1 t22 t23 t24 = some e28 → e28 = v11 → ∀ (l27 : List Value) (w25 : World) (hS26 : St w0 Z (fs) w25),Runs Tryz.prog (fx 27) td290 (fill (mk 33 [(0,.string a0),(1,.int .i64 a1),(7,.int .i64 t22),(8,.int .i64 t23),(9,.int .i64 t24)]) l27) w25 R:=by
   refine weirref05_Place.l0.partial_correctness a0 a1 (fun t22 t23 t24 e28 => e28 = v11 → ∀ (l27 : List Value) (w25 : World) (hS26 : St w0 Z (fs) w25),Runs Tryz.prog (fx 27) td290 (fill (mk 33 [(0,.string a0),(1,.int .i64 a1),(7,.int .i64 t22),(8,.int .i64 t23),(9,.int .i64 t24)]) l27) w25 R) ?_
   intro rec32 ih31 t22 t23 t24 e28 hb30 he29 l27 w25 hS26
   refine sS 6 (.inRegion (opsOf (cd27 [1,1,1,0,1,0,0,0,0])) []::.code (cd27 [1,1,1,0,1,0,0,0,1])::.code (cd27 [1,1,1,0,1,0,0,1])::td289) 20 (decide (t24 < a1)) (fun h34 => ?_) fun h35 => ?_
   ·have hp36:=ite_t hb30 h34
    refine sR 15 (.inRegion (opsOf p27_10) [2,3]::.code p27_11::.inBlock 1::.code p27_12::td289) ?_
    obtain ⟨g37,hp38⟩:=ite_some hp36
    refine rV (.index 9 (.tmp 25) (.tmp 26)) (.int .u8 (byt a0 t24)) (fun o ho _ => x_indexStr (kk:=.i64) (by kernel_rfl) (by kernel_rfl) (by kernel_rfl) g37.1 g37.2 ho) ?_
    refine sS 1 (.inRegion (opsOf p27_10) []::.code p27_11::.inBlock 1::.code p27_12::td289) 28 ((byt a0 t24) == 10) (fun h39 => ?_) fun h40 => ?_
    ·have hp41:=ite_t hp38 h39
     refine sR 17 td289 ?_
     refine sR 1 td290 ?_
     refine rF (mk 33 [(0,.string a0),(1,.int .i64 a1),(7,.int .i64 (IntKind.i64.wrap (t22 + 1))),(8,.int .i64 1),(9,.int .i64 (IntKind.i64.wrap (t24 + 1)))]) ?_
     exact ih31 (IntKind.i64.wrap (t22 + 1)) 1 (IntKind.i64.wrap (t24 + 1)) _ hp41 he29 _ _ hS26
    have hp42:=ite_f hp38 h40
    refine sR 9 td289 ?_
    refine sR 1 td290 ?_
    refine rF (mk 33 [(0,.string a0),(1,.int .i64 a1),(7,.int .i64 t22),(8,.int .i64 (IntKind.i64.wrap (t23 + 1))),(9,.int .i64 (IntKind.i64.wrap (t24 + 1)))]) ?_
    exact ih31 (id t22) (IntKind.i64.wrap (t23 + 1)) (IntKind.i64.wrap (t24 + 1)) _ hp42 he29 _ _ hS26
   have hp43:=ite_f hb30 h35
   refine sR 3 td287 ?_
   refine rF (mk 33 [(7,.int .i64 t22),(8,.int .i64 t23)]) ?_
   exact J18 t22 t23 ((Option.some.inj hp43).trans he29) _ _ hS26
  refine rF (mk 33 [(0,.string a0),(1,.int .i64 a1),(7,.int .i64 1),(8,.int .i64 1),(9,.int .i64 0)]) ?_
  exact L33 1 1 0 _ hv12 rfl _ _ hS0

noncomputable def cd12 (p : List Nat) : Code := sub (bodyOf Tryz.f12) p
abbrev p12_7:=cd12 [1,1,0]
abbrev p12_8:=cd12 [1,1,1]
abbrev p12_9:=cd12 [1,1,1,0]
abbrev p12_10:=cd12 [1,1,1,1]
abbrev p12_16:=cd12 [1,1,1,1,0,1,0]
abbrev td291:List Item:=[.code (cd12 [1,1,1,1,1])]
def weirref07_open.f (a0 : ByteArray) : Option (Bool × (List api_Token) × weirref05_Fault × Int × weirref05_Fault × ByteArray × ByteArray × (List api_Init) × (List api_Ref) × Int × (List api_Node) × (List api_Token) × (List api_Token) × (List api_Token) × Int × weirref05_Fault) :=
  (if (decide ((a0.size : Int) > 1048576)) = true then some ((false,[],default,default,default,default,default,[],[],default,[],[],[],[],default,(⟨(-1),0,1⟩ : weirref05_Fault))) else (weirref05_Tokens.f a0 >>= (fun (t38,t39) => (((if (t39.Code == 0) = true then (weirref05_Place.f a0 (a0.size : Int) >>= (fun (t113,t114,t115) => some ((⟨0,(⟨#[]⟩ : ByteArray),0,t113,t114,(a0.size : Int),(a0.size : Int)⟩ : api_Token)))) else some ((⟨0,(⟨#[]⟩ : ByteArray),0,t39.Line,t39.Col,(a0.size : Int),(a0.size : Int)⟩ : api_Token))) : Option api_Token) >>= (fun t62 => (if (t38.length + ([t62] : List api_Token).length) * 64 ≤ 140737488355328 then some ((true,(t38 ++ ([t62] : List api_Token)),t39,0,(⟨0,0,0⟩ : weirref05_Fault),(⟨#[]⟩ : ByteArray),(⟨#[]⟩ : ByteArray),[],[],0,[],[],[],[],0,(⟨0,0,0⟩ : weirref05_Fault))) else none))))))
set_option maxHeartbeats 16000000 in
theorem weirref07_open.ok (a0 : ByteArray) {w0 : World} {Z : Zm} {fs : List XObj} {w : World} (hS0 : St w0 Z (fs) w) {q0 : Bool} {q1 : List api_Token} {q2 : weirref05_Fault} {q3 : Int} {q4 : weirref05_Fault} {q5 : ByteArray} {q6 : ByteArray} {q7 : List api_Init} {q8 : List api_Ref} {q9 : Int} {q10 : List api_Node} {q11 : List api_Token} {q12 : List api_Token} {q13 : List api_Token} {q14 : Int} {q15 : weirref05_Fault} (hp0 : weirref07_open.f a0 = some (q0,q1,q2,q3,q4,q5,q6,q7,q8,q9,q10,q11,q12,q13,q14,q15)) :
    Calls Tryz.prog 12 #[.string a0] w (fun e w' => ∃ (Qb0 : Nat) (QA1 : Option Addr) (Qc1 : Nat) (QA3 : Option Addr) (Qc3 : Nat) (QA5 : Option Addr) (Qc5 : Nat) (QA7 : Option Addr) (Qc7 : Nat) (QA9 : Option Addr) (Qc9 : Nat) (QA11 : Option Addr) (Qc11 : Nat) (QA13 : Option Addr) (Qc13 : Nat),e = .returned (.tuple #[cond q0 (.pointer (some ⟨Qb0,0,none⟩)) (.pointer none),.agg (enc_weirref05_Fault q15).toArray]) ∧ St w0 Z (cond q0 (xblk Qb0 55 (([.slice QA1 q1.length Qc1] : List Value) ++ (enc_weirref05_Fault q2) ++ ([.int .i64 q3] : List Value) ++ (enc_weirref05_Fault q4) ++ ([.string q5,.string q6,.slice QA3 q7.length Qc3,.slice none 0 0,.slice QA5 q8.length Qc5,.int .i64 q9,.slice QA7 q10.length Qc7,.slice QA9 q11.length Qc9,.slice QA11 q12.length Qc11,.slice none 0 0,.slice QA13 q13.length Qc13,.int .i64 q14] : List Value))) (xrow none 0 0 0 [])::xrow QA1 Qc1 39 7 (q1.flatMap enc_api_Token)::xrow QA3 Qc3 182 3 (q7.flatMap enc_api_Init)::xrow QA5 Qc5 180 2 (q8.flatMap enc_api_Ref)::xrow QA7 Qc7 185 6 (q10.flatMap enc_api_Node)::xrow QA9 Qc9 39 7 (q11.flatMap enc_api_Token)::xrow QA11 Qc11 39 7 (q12.flatMap enc_api_Token)::xrow QA13 Qc13 39 7 (q13.flatMap enc_api_Token)::fs) w'):=by
  refine calls_abs ?_; intro R hR
  unfold weirref07_open.f at hp0
  refine calls_of_runs (fn:=Tryz.f12) (c:=cd12 []) Tryz.func12 (by kernel_rfl) (al:=[.string a0]) rfl (n:=45) rfl ?_
  refine sR 3 [.inRegion (opsOf (cd12 [0])) [1],.code (cd12 [1])] ?_
  refine rA 29 (.agg (enc_weirref05_Fault (⟨0,0,0⟩ : weirref05_Fault)).toArray) (enc_weirref05_Fault (⟨0,0,0⟩ : weirref05_Fault)) hS0 ?_
  intro b1 w2 hS3
  refine sS 7 [.inRegion (opsOf (cd12 [1,0,0])) [],.code (cd12 [1,0,1]),.code (cd12 [1,1])] 9 (decide ((a0.size : Int) > 1048576)) (fun h5 => ?_) fun h6 => ?_
  ·have hp7:=ite_t hp0 h5
   refine sR 6 [.inRegion (opsOf (cd12 [1,0,1,0,0])) [2],.code (cd12 [1,0,1,0,1]),.code (cd12 [1,1])] ?_
   refine rSA 29 (.tmp 3) (.tmp 10) (enc_weirref05_Fault (⟨(-1),0,1⟩ : weirref05_Fault)) hS3 (one_weirref05_Fault _) ?_
   intro w8 hS9
   refine sR 1 [.code (cd12 [1,0,1,0,1]),.code (cd12 [1,1])] ?_
   have hS11:=hS9.nilrow none 39 7
   have hS13:=hS11.nilrow none 182 3
   have hS15:=hS13.nilrow none 180 2
   have hS17:=hS15.nilrow none 185 6
   have hS19:=hS17.nilrow none 39 7
   have hS21:=hS19.nilrow none 39 7
   have hS23:=hS21.nilrow none 39 7
   have hS25:=hS23.nilrow none 0 0
   have hS26:=hS25.pick8
   have hS27:=hS26.drop
   have hS28:=hS27.pick1
   have hS29:=hS28.pick2
   have hS30:=hS29.pick3
   have hS31:=hS30.pick4
   have hS32:=hS31.pick5
   have hS33:=hS32.pick6
   have hS34:=hS33.pick7
   have hS35:=hS34.pick7
   refine rRc (.tuple #[.pointer none,.agg (enc_weirref05_Fault (⟨(-1),0,1⟩ : weirref05_Fault)).toArray]) (.tm 2 (.ca 3 29 (hS9.blk 0 rfl) .nil)) Tryz.func12 ?_
   cases Option.some.inj hp7
   exact hR _ _ ⟨0,none,0,none,0,none,0,none,0,none,0,none,0,none,0,rfl,hS35⟩
  have hp37:=ite_f hp0 h6
  refine sR 6 [iR p12_7 1 7,.code p12_8] ?_
  obtain ⟨⟨t38,t39⟩,hr42,hp43⟩:=bind_some' hp37
  try dsimp only at hp43
  refine rC (weirref05_Tokens.ok a0 hS3 hr42) ?_
  rintro _ w45 ⟨Q40,Q41,rfl,hS46⟩
  refine ⟨_,rfl,?_⟩
  refine sR 3 [.inRegion (opsOf p12_7) [5,6,7],.code p12_8] ?_
  refine rA 29 (.agg (enc_weirref05_Fault (⟨0,0,0⟩ : weirref05_Fault)).toArray) (enc_weirref05_Fault (⟨0,0,0⟩ : weirref05_Fault)) hS46 ?_
  intro b47 w48 hS49
  refine sR 1 [.inRegion (opsOf p12_7) [7],.code p12_8] ?_
  refine rSA 29 (.tmp 5) (.tmp 15) (enc_weirref05_Fault t39) hS49 (one_weirref05_Fault _) ?_
  intro w51 hS52
  refine sR 4 [iR p12_9 1 10,.code p12_10] ?_
  refine rL1 3 (.tmp 16) 0 (hS52.blk 0 rfl) ?_
  refine sR 1 [iR p12_9 3 8,.code p12_10] ?_
  refine rL1 3 (.tmp 18) 1 (hS52.blk 0 rfl) ?_
  refine sR 5 [.inRegion (opsOf p12_9) [9,10],.code p12_10] ?_
  refine rA 39 (.agg (enc_api_Token (⟨0,(⟨#[]⟩ : ByteArray),0,0,0,0,0⟩ : api_Token)).toArray) (enc_api_Token (⟨0,(⟨#[]⟩ : ByteArray),0,0,0,0,0⟩ : api_Token)) hS52 ?_
  intro b53 w54 hS55
  refine rSA 39 (.tmp 6) (.tmp 24) (enc_api_Token (⟨0,(⟨#[]⟩ : ByteArray),0,t39.Line,t39.Col,(a0.size : Int),(a0.size : Int)⟩ : api_Token)) hS55 (one_api_Token _) ?_
  intro w57 hS58
  refine sR 5 (.inRegion (opsOf (cd12 [1,1,1,1,0,0])) [1,2]::.code (cd12 [1,1,1,1,0,1])::td291) ?_
  refine rL1 3 (.tmp 25) 2 (hS58.blk 1 rfl) ?_
  obtain ⟨v59,hv60,hp61⟩:=bind_some' hp43
  have J65 : ∀ (t62 : api_Token) (he67 : t62 = v59) (l66 : List Value) (w63 : World) (hS64 : St w0 Z (xblk b1 29 (enc_weirref05_Fault (⟨0,0,0⟩ : weirref05_Fault))::xrow Q40 Q41 39 7 (t38.flatMap enc_api_Token)::xblk b47 29 (enc_weirref05_Fault t39)::xblk b53 39 (enc_api_Token t62)::fs) w63),Runs Tryz.prog (fx 12) td291 (fill (mk 46 [(3,.pointer (some ⟨b1,0,none⟩)),(4,.slice Q40 t38.length Q41),(5,.pointer (some ⟨b47,0,none⟩)),(6,.pointer (some ⟨b53,0,none⟩))]) l66) w63 R:=by
   intro t62 he67 l66 w63 hS64
   subst he67
   try dsimp only at hp61
   refine sR 1 [.code (cd12 [1,1,1,1,1,0]),.code (cd12 [1,1,1,1,1,1])] ?_
   obtain ⟨g74,hp75⟩:=ite_some hp61
   refine r_drawnP (S:=Option Nat × Option (Option Addr × Nat) × Option Nat × Option Unit) (dn:=(fun (st : Option Nat × Option (Option Addr × Nat) × Option Nat × Option Unit) k => [st.1.isSome,st.2.1.isSome,st.2.2.1.isSome,st.2.2.2.isSome].getD k true)) (C:=(fun st w' => match st with | (none,none,none,none) => St w0 Z (xblk b1 29 (enc_weirref05_Fault (⟨0,0,0⟩ : weirref05_Fault))::xrow Q40 Q41 39 7 (t38.flatMap enc_api_Token)::xblk b47 29 (enc_weirref05_Fault t39)::xblk b53 39 (enc_api_Token t62)::fs) w' | (none,none,none,some _) => False | (none,none,some b76,none) => False | (none,none,some b76,some _) => False | (none,some x73,none,none) => False | (none,some x73,none,some _) => False | (none,some x73,some b76,none) => False | (none,some x73,some b76,some _) => False | (some b68,none,none,none) => St w0 Z (xrow (some ⟨b68,0,none⟩) 1 39 7 (([t62] : List api_Token).flatMap enc_api_Token)::xblk b1 29 (enc_weirref05_Fault (⟨0,0,0⟩ : weirref05_Fault))::xrow Q40 Q41 39 7 (t38.flatMap enc_api_Token)::xblk b47 29 (enc_weirref05_Fault t39)::xblk b53 39 (enc_api_Token t62)::fs) w' | (some b68,none,none,some _) => False | (some b68,none,some b76,none) => False | (some b68,none,some b76,some _) => False | (some b68,some x73,none,none) => St w0 Z (xrow x73.1 x73.2 39 7 ((t38 ++ ([t62] : List api_Token)).flatMap enc_api_Token)::xrow (some ⟨b68,0,none⟩) 1 39 7 (([t62] : List api_Token).flatMap enc_api_Token)::xblk b1 29 (enc_weirref05_Fault (⟨0,0,0⟩ : weirref05_Fault))::xblk b47 29 (enc_weirref05_Fault t39)::xblk b53 39 (enc_api_Token t62)::fs) w' | (some b68,some x73,none,some _) => False | (some b68,some x73,some b76,none) => St w0 Z (xblk b76 55 (([.slice x73.1 (t38 ++ ([t62] : List api_Token)).length x73.2] : List Value) ++ (enc_weirref05_Fault t39) ++ ([.int .i64 0] : List Value) ++ (enc_weirref05_Fault (⟨0,0,0⟩ : weirref05_Fault)) ++ ([.string (⟨#[]⟩ : ByteArray),.string (⟨#[]⟩ : ByteArray),.slice none 0 0,.slice none 0 0,.slice none 0 0,.int .i64 0,.slice none 0 0,.slice none 0 0,.slice none 0 0,.slice none 0 0,.slice none 0 0,.int .i64 0] : List Value))::xrow x73.1 x73.2 39 7 ((t38 ++ ([t62] : List api_Token)).flatMap enc_api_Token)::xrow (some ⟨b68,0,none⟩) 1 39 7 (([t62] : List api_Token).flatMap enc_api_Token)::xblk b1 29 (enc_weirref05_Fault (⟨0,0,0⟩ : weirref05_Fault))::xblk b47 29 (enc_weirref05_Fault t39)::xblk b53 39 (enc_api_Token t62)::fs) w' | (some b68,some x73,some b76,some _) => St w0 Z (xblk b1 29 (enc_weirref05_Fault (⟨0,0,0⟩ : weirref05_Fault))::xblk b76 55 (([.slice x73.1 (t38 ++ ([t62] : List api_Token)).length x73.2] : List Value) ++ (enc_weirref05_Fault t39) ++ ([.int .i64 0] : List Value) ++ (enc_weirref05_Fault (⟨0,0,0⟩ : weirref05_Fault)) ++ ([.string (⟨#[]⟩ : ByteArray),.string (⟨#[]⟩ : ByteArray),.slice none 0 0,.slice none 0 0,.slice none 0 0,.int .i64 0,.slice none 0 0,.slice none 0 0,.slice none 0 0,.slice none 0 0,.slice none 0 0,.int .i64 0] : List Value))::xrow x73.1 x73.2 39 7 ((t38 ++ ([t62] : List api_Token)).flatMap enc_api_Token)::xrow (some ⟨b68,0,none⟩) 1 39 7 (([t62] : List api_Token).flatMap enc_api_Token)::xblk b47 29 (enc_weirref05_Fault t39)::xblk b53 39 (enc_api_Token t62)::fs) w')) (v:=(fun st => match st with | (none,none,none,none) => [.slice Q40 t38.length Q41,.agg (enc_api_Token t62).toArray,undef,undef,.agg (enc_weirref05_Fault t39).toArray,undef,undef,.agg (enc_weirref05_Fault (⟨0,0,0⟩ : weirref05_Fault)).toArray,undef,undef] | (none,none,none,some _) => [.slice Q40 t38.length Q41,.agg (enc_api_Token t62).toArray,undef,undef,.agg (enc_weirref05_Fault t39).toArray,undef,undef,.agg (enc_weirref05_Fault (⟨0,0,0⟩ : weirref05_Fault)).toArray,undef,undef] | (none,none,some b76,none) => [.slice Q40 t38.length Q41,.agg (enc_api_Token t62).toArray,undef,undef,.agg (enc_weirref05_Fault t39).toArray,undef,undef,.agg (enc_weirref05_Fault (⟨0,0,0⟩ : weirref05_Fault)).toArray,undef,undef] | (none,none,some b76,some _) => [.slice Q40 t38.length Q41,.agg (enc_api_Token t62).toArray,undef,undef,.agg (enc_weirref05_Fault t39).toArray,undef,undef,.agg (enc_weirref05_Fault (⟨0,0,0⟩ : weirref05_Fault)).toArray,undef,undef] | (none,some x73,none,none) => [.slice Q40 t38.length Q41,.agg (enc_api_Token t62).toArray,undef,undef,.agg (enc_weirref05_Fault t39).toArray,undef,undef,.agg (enc_weirref05_Fault (⟨0,0,0⟩ : weirref05_Fault)).toArray,undef,undef] | (none,some x73,none,some _) => [.slice Q40 t38.length Q41,.agg (enc_api_Token t62).toArray,undef,undef,.agg (enc_weirref05_Fault t39).toArray,undef,undef,.agg (enc_weirref05_Fault (⟨0,0,0⟩ : weirref05_Fault)).toArray,undef,undef] | (none,some x73,some b76,none) => [.slice Q40 t38.length Q41,.agg (enc_api_Token t62).toArray,undef,undef,.agg (enc_weirref05_Fault t39).toArray,undef,undef,.agg (enc_weirref05_Fault (⟨0,0,0⟩ : weirref05_Fault)).toArray,undef,undef] | (none,some x73,some b76,some _) => [.slice Q40 t38.length Q41,.agg (enc_api_Token t62).toArray,undef,undef,.agg (enc_weirref05_Fault t39).toArray,undef,undef,.agg (enc_weirref05_Fault (⟨0,0,0⟩ : weirref05_Fault)).toArray,undef,undef] | (some b68,none,none,none) => [.slice Q40 t38.length Q41,.agg (enc_api_Token t62).toArray,.slice (some ⟨b68,0,none⟩) ([t62] : List api_Token).length 1,undef,.agg (enc_weirref05_Fault t39).toArray,undef,undef,.agg (enc_weirref05_Fault (⟨0,0,0⟩ : weirref05_Fault)).toArray,undef,undef] | (some b68,none,none,some _) => [.slice Q40 t38.length Q41,.agg (enc_api_Token t62).toArray,.slice (some ⟨b68,0,none⟩) ([t62] : List api_Token).length 1,undef,.agg (enc_weirref05_Fault t39).toArray,undef,undef,.agg (enc_weirref05_Fault (⟨0,0,0⟩ : weirref05_Fault)).toArray,undef,undef] | (some b68,none,some b76,none) => [.slice Q40 t38.length Q41,.agg (enc_api_Token t62).toArray,.slice (some ⟨b68,0,none⟩) ([t62] : List api_Token).length 1,undef,.agg (enc_weirref05_Fault t39).toArray,undef,undef,.agg (enc_weirref05_Fault (⟨0,0,0⟩ : weirref05_Fault)).toArray,undef,undef] | (some b68,none,some b76,some _) => [.slice Q40 t38.length Q41,.agg (enc_api_Token t62).toArray,.slice (some ⟨b68,0,none⟩) ([t62] : List api_Token).length 1,undef,.agg (enc_weirref05_Fault t39).toArray,undef,undef,.agg (enc_weirref05_Fault (⟨0,0,0⟩ : weirref05_Fault)).toArray,undef,undef] | (some b68,some x73,none,none) => [.slice Q40 t38.length Q41,.agg (enc_api_Token t62).toArray,.slice (some ⟨b68,0,none⟩) ([t62] : List api_Token).length 1,.slice x73.1 (t38 ++ ([t62] : List api_Token)).length x73.2,.agg (enc_weirref05_Fault t39).toArray,.agg (([.slice x73.1 (t38 ++ ([t62] : List api_Token)).length x73.2] : List Value) ++ (enc_weirref05_Fault t39) ++ ([.int .i64 0] : List Value) ++ (enc_weirref05_Fault (⟨0,0,0⟩ : weirref05_Fault)) ++ ([.string (⟨#[]⟩ : ByteArray),.string (⟨#[]⟩ : ByteArray),.slice none 0 0,.slice none 0 0,.slice none 0 0,.int .i64 0,.slice none 0 0,.slice none 0 0,.slice none 0 0,.slice none 0 0,.slice none 0 0,.int .i64 0] : List Value) : List Value).toArray,undef,.agg (enc_weirref05_Fault (⟨0,0,0⟩ : weirref05_Fault)).toArray,undef,undef] | (some b68,some x73,none,some _) => [.slice Q40 t38.length Q41,.agg (enc_api_Token t62).toArray,.slice (some ⟨b68,0,none⟩) ([t62] : List api_Token).length 1,.slice x73.1 (t38 ++ ([t62] : List api_Token)).length x73.2,.agg (enc_weirref05_Fault t39).toArray,.agg (([.slice x73.1 (t38 ++ ([t62] : List api_Token)).length x73.2] : List Value) ++ (enc_weirref05_Fault t39) ++ ([.int .i64 0] : List Value) ++ (enc_weirref05_Fault (⟨0,0,0⟩ : weirref05_Fault)) ++ ([.string (⟨#[]⟩ : ByteArray),.string (⟨#[]⟩ : ByteArray),.slice none 0 0,.slice none 0 0,.slice none 0 0,.int .i64 0,.slice none 0 0,.slice none 0 0,.slice none 0 0,.slice none 0 0,.slice none 0 0,.int .i64 0] : List Value) : List Value).toArray,undef,.agg (enc_weirref05_Fault (⟨0,0,0⟩ : weirref05_Fault)).toArray,undef,undef] | (some b68,some x73,some b76,none) => [.slice Q40 t38.length Q41,.agg (enc_api_Token t62).toArray,.slice (some ⟨b68,0,none⟩) ([t62] : List api_Token).length 1,.slice x73.1 (t38 ++ ([t62] : List api_Token)).length x73.2,.agg (enc_weirref05_Fault t39).toArray,.agg (([.slice x73.1 (t38 ++ ([t62] : List api_Token)).length x73.2] : List Value) ++ (enc_weirref05_Fault t39) ++ ([.int .i64 0] : List Value) ++ (enc_weirref05_Fault (⟨0,0,0⟩ : weirref05_Fault)) ++ ([.string (⟨#[]⟩ : ByteArray),.string (⟨#[]⟩ : ByteArray),.slice none 0 0,.slice none 0 0,.slice none 0 0,.int .i64 0,.slice none 0 0,.slice none 0 0,.slice none 0 0,.slice none 0 0,.slice none 0 0,.int .i64 0] : List Value) : List Value).toArray,.pointer (some ⟨b76,0,none⟩),.agg (enc_weirref05_Fault (⟨0,0,0⟩ : weirref05_Fault)).toArray,.pointer (some ⟨b76,0,none⟩),undef] | (some b68,some x73,some b76,some _) => [.slice Q40 t38.length Q41,.agg (enc_api_Token t62).toArray,.slice (some ⟨b68,0,none⟩) ([t62] : List api_Token).length 1,.slice x73.1 (t38 ++ ([t62] : List api_Token)).length x73.2,.agg (enc_weirref05_Fault t39).toArray,.agg (([.slice x73.1 (t38 ++ ([t62] : List api_Token)).length x73.2] : List Value) ++ (enc_weirref05_Fault t39) ++ ([.int .i64 0] : List Value) ++ (enc_weirref05_Fault (⟨0,0,0⟩ : weirref05_Fault)) ++ ([.string (⟨#[]⟩ : ByteArray),.string (⟨#[]⟩ : ByteArray),.slice none 0 0,.slice none 0 0,.slice none 0 0,.int .i64 0,.slice none 0 0,.slice none 0 0,.slice none 0 0,.slice none 0 0,.slice none 0 0,.int .i64 0] : List Value) : List Value).toArray,.pointer (some ⟨b76,0,none⟩),.agg (enc_weirref05_Fault (⟨0,0,0⟩ : weirref05_Fault)).toArray,.pointer (some ⟨b76,0,none⟩),undef])) (c:=(cd12 [1,1,1,1,1,0])) (id:=7) (none,none,none,none) 9 10 [2,3,6,9] [[],[],[],[0],[],[0,1],[0,1],[],[0,1,2],[0,1,2]] [[1,3],[0,3],[1,3],[3],[3],[2,3],[3],[3],[3],[]] [] [true,true,true,true,true,true,true,true,true,true] (by kernel_rfl) (by kernel_rfl) (by kernel_rfl) (by kernel_rfl) (by kernel_rfl) (by kernel_rfl) (by kernel_rfl) (by kernel_rfl) (by kernel_rfl) (fun k hk => match k,hk with | 0,_ => rfl | 1,_ => rfl | 2,_ => rfl | 3,_ => rfl | k + 4,hk => absurd hk (by simp)) hS64.drew ?_ (fun k hk => match k,hk with | 0,_ => rfl | 1,_ => rfl | 2,_ => rfl | 3,_ => rfl | k + 4,hk => absurd hk (by simp)) ?_ ?_ ?_
   ·intro i hi st w hC hd
    match i,hi with
    | 0,_ => (show _ = _; kernel_rfl)
    | 1,_ => (show _ = _; kernel_rfl)
    | 2,_ => (show _ = _; kernel_rfl)
    | 3,_ => (show _ = _; kernel_rfl)
    | 4,_ => (show _ = _; kernel_rfl)
    | 5,_ => (show _ = _; kernel_rfl)
    | 6,_ => (show _ = _; kernel_rfl)
    | 7,_ => (show _ = _; kernel_rfl)
    | 8,_ => (show _ = _; kernel_rfl)
    | 9,_ => (show _ = _; kernel_rfl)
    | i + 10,hi => exact absurd hi (by omega)
   ·intro i hi he st w hC hd hu
    match i,hi,he with
    | 0,_,_ =>
     rcases st with ⟨_ | b68,_ | x73,_ | b76,_ | _⟩
     ·dsimp only at hC
      exact dG (.slice Q40 t38.length Q41) hC
     ·exact False.elim hC
     ·exact False.elim hC
     ·exact False.elim hC
     ·exact False.elim hC
     ·exact False.elim hC
     ·exact False.elim hC
     ·exact False.elim hC
     ·dsimp only at hC
      exact dG (.slice Q40 t38.length Q41) hC
     ·exact False.elim hC
     ·exact False.elim hC
     ·exact False.elim hC
     ·exact Bool.noConfusion (hu 1 (by decide))
     ·exact False.elim hC
     ·exact Bool.noConfusion (hu 1 (by decide))
     ·exact Bool.noConfusion (hu 1 (by decide))
    | 1,_,_ =>
     rcases st with ⟨_ | b68,_ | x73,_ | b76,_ | _⟩
     ·dsimp only at hC
      exact ⟨fun _ => does_run (x_load (t:=39) (x:=(.tmp 6)) (p:=⟨b53,0,none⟩) (v:=.agg (enc_api_Token t62).toArray) (by kernel_rfl) (loads_agg (hC.blk 3 rfl) (by kernel_rfl) (by kernel_rfl)) (by kernel_rfl)) rfl hC,fun h => absurd h (by decide)⟩
     ·exact False.elim hC
     ·exact False.elim hC
     ·exact False.elim hC
     ·exact False.elim hC
     ·exact False.elim hC
     ·exact False.elim hC
     ·exact False.elim hC
     ·exact Bool.noConfusion (hu 0 (by decide))
     ·exact False.elim hC
     ·exact False.elim hC
     ·exact False.elim hC
     ·exact Bool.noConfusion (hu 0 (by decide))
     ·exact False.elim hC
     ·exact Bool.noConfusion (hu 0 (by decide))
     ·exact Bool.noConfusion (hu 0 (by decide))
    | 2,_,he => exact absurd he (by decide)
    | 3,_,he => exact absurd he (by decide)
    | 4,_,_ =>
     rcases st with ⟨_ | b68,_ | x73,_ | b76,_ | _⟩
     ·dsimp only at hC
      exact ⟨fun _ => does_run (x_load (t:=29) (x:=(.tmp 5)) (p:=⟨b47,0,none⟩) (v:=.agg (enc_weirref05_Fault t39).toArray) (by kernel_rfl) (loads_agg (hC.blk 2 rfl) (by kernel_rfl) (by kernel_rfl)) (by kernel_rfl)) rfl hC,fun h => absurd h (by decide)⟩
     ·exact False.elim hC
     ·exact False.elim hC
     ·exact False.elim hC
     ·exact False.elim hC
     ·exact False.elim hC
     ·exact False.elim hC
     ·exact False.elim hC
     ·dsimp only at hC
      exact ⟨fun _ => does_run (x_load (t:=29) (x:=(.tmp 5)) (p:=⟨b47,0,none⟩) (v:=.agg (enc_weirref05_Fault t39).toArray) (by kernel_rfl) (loads_agg (hC.blk 3 rfl) (by kernel_rfl) (by kernel_rfl)) (by kernel_rfl)) rfl hC,fun h => absurd h (by decide)⟩
     ·exact False.elim hC
     ·exact False.elim hC
     ·exact False.elim hC
     ·dsimp only at hC
      exact ⟨fun _ => does_run (x_load (t:=29) (x:=(.tmp 5)) (p:=⟨b47,0,none⟩) (v:=.agg (enc_weirref05_Fault t39).toArray) (by kernel_rfl) (loads_agg (hC.blk 3 rfl) (by kernel_rfl) (by kernel_rfl)) (by kernel_rfl)) rfl hC,fun h => absurd h (by decide)⟩
     ·exact False.elim hC
     ·dsimp only at hC
      exact ⟨fun _ => does_run (x_load (t:=29) (x:=(.tmp 5)) (p:=⟨b47,0,none⟩) (v:=.agg (enc_weirref05_Fault t39).toArray) (by kernel_rfl) (loads_agg (hC.blk 4 rfl) (by kernel_rfl) (by kernel_rfl)) (by kernel_rfl)) rfl hC,fun h => absurd h (by decide)⟩
     ·exact Bool.noConfusion (hu 3 (by decide))
    | 5,_,_ =>
     rcases st with ⟨_ | b68,_ | x73,_ | b76,_ | _⟩
     ·exact Bool.noConfusion (hd 0 (by decide))
     ·exact False.elim hC
     ·exact False.elim hC
     ·exact False.elim hC
     ·exact False.elim hC
     ·exact False.elim hC
     ·exact False.elim hC
     ·exact False.elim hC
     ·exact Bool.noConfusion (hd 1 (by decide))
     ·exact False.elim hC
     ·exact False.elim hC
     ·exact False.elim hC
     ·dsimp only at hC
      exact ⟨fun _ => does_run (x_build (t:=55) (c:=(([.slice x73.1 (t38 ++ ([t62] : List api_Token)).length x73.2] : List Value) ++ (enc_weirref05_Fault t39) ++ ([.int .i64 0] : List Value) ++ (enc_weirref05_Fault (⟨0,0,0⟩ : weirref05_Fault)) ++ ([.string (⟨#[]⟩ : ByteArray),.string (⟨#[]⟩ : ByteArray),.slice none 0 0,.slice none 0 0,.slice none 0 0,.int .i64 0,.slice none 0 0,.slice none 0 0,.slice none 0 0,.slice none 0 0,.slice none 0 0,.int .i64 0] : List Value) : List Value).toArray) (ps:=#[(0,(.tmp 41)),(1,(.tmp 42))]) Tryz.underlying55 hz_55 hp_55 (by kernel_rfl) (by kernel_rfl)) rfl hC,fun h => absurd h (by decide)⟩
     ·exact False.elim hC
     ·exact Bool.noConfusion (hu 2 (by decide))
     ·exact Bool.noConfusion (hu 2 (by decide))
    | 6,_,he => exact absurd he (by decide)
    | 7,_,_ =>
     rcases st with ⟨_ | b68,_ | x73,_ | b76,_ | _⟩
     ·dsimp only at hC
      exact dG (.agg (enc_weirref05_Fault (⟨0,0,0⟩ : weirref05_Fault)).toArray) hC
     ·exact False.elim hC
     ·exact False.elim hC
     ·exact False.elim hC
     ·exact False.elim hC
     ·exact False.elim hC
     ·exact False.elim hC
     ·exact False.elim hC
     ·dsimp only at hC
      exact dG (.agg (enc_weirref05_Fault (⟨0,0,0⟩ : weirref05_Fault)).toArray) hC
     ·exact False.elim hC
     ·exact False.elim hC
     ·exact False.elim hC
     ·dsimp only at hC
      exact dG (.agg (enc_weirref05_Fault (⟨0,0,0⟩ : weirref05_Fault)).toArray) hC
     ·exact False.elim hC
     ·dsimp only at hC
      exact dG (.agg (enc_weirref05_Fault (⟨0,0,0⟩ : weirref05_Fault)).toArray) hC
     ·exact Bool.noConfusion (hu 3 (by decide))
    | 8,_,_ =>
     rcases st with ⟨_ | b68,_ | x73,_ | b76,_ | _⟩
     ·exact Bool.noConfusion (hd 0 (by decide))
     ·exact False.elim hC
     ·exact False.elim hC
     ·exact False.elim hC
     ·exact False.elim hC
     ·exact False.elim hC
     ·exact False.elim hC
     ·exact False.elim hC
     ·exact Bool.noConfusion (hd 1 (by decide))
     ·exact False.elim hC
     ·exact False.elim hC
     ·exact False.elim hC
     ·exact Bool.noConfusion (hd 2 (by decide))
     ·exact False.elim hC
     ·dsimp only at hC
      exact dG (.pointer (some ⟨b76,0,none⟩)) hC
     ·exact Bool.noConfusion (hu 3 (by decide))
    | 9,_,he => exact absurd he (by decide)
    | i + 10,hi,_ => exact absurd hi (by omega)
   ·intro k hk st w hC hr hm
    match k,hk with
    | 0,_ =>
     rcases st with ⟨_ | b68,_ | x73,_ | b76,_ | _⟩
     ·dsimp only at hC
      refine does_lit (t:=45) (e:=39) (sz:=7) (n:=1) (parts:=#[(0,(.tmp 39))]) (vs:=[(0,.agg (enc_api_Token t62).toArray)]) (z:=zeroOf Tryz.prog 39) (cs':=([t62] : List api_Token).flatMap enc_api_Token) hC (by kernel_rfl) (by kernel_rfl) (by kernel_rfl) (by kernel_rfl) (by decide) (by decide) (by kernel_rfl) rfl (Parts.cons (c:=enc_api_Token t62) (by kernel_rfl) (len_api_Token _) Parts.nil) rfl ?_
      intro b68 w2 h2
      have h2:=h2.pick4
      have h2:=h2.pick4
      have h2:=h2.pick4
      have h2:=h2.pick4
      have h2:=h2.pick4
      refine ⟨(some b68,none,none,none),rfl,?_,?_,.inr rfl,h2⟩
      ·intro m hne; match m,hne with
       | 0,hne => exact absurd rfl hne
       | 1,hne => exact rfl
       | 2,hne => exact rfl
       | 3,hne => exact rfl
       | m + 4,_ => exact rfl
      ·intro j hj; match j,hj with
       | 0,hj => exact rfl
       | 1,hj => exact rfl
       | 2,hj => exact absurd (by decide) hj
       | 3,hj => exact absurd (by decide) hj
       | 4,hj => exact rfl
       | 5,hj => exact absurd (by decide) hj
       | 6,hj => exact absurd (by decide) hj
       | 7,hj => exact rfl
       | 8,hj => exact absurd (by decide) hj
       | 9,hj => exact absurd (by decide) hj
       | j + 10,_ => exact rfl
     ·exact False.elim hC
     ·exact False.elim hC
     ·exact False.elim hC
     ·exact False.elim hC
     ·exact False.elim hC
     ·exact False.elim hC
     ·exact False.elim hC
     ·exact Bool.noConfusion hr
     ·exact False.elim hC
     ·exact False.elim hC
     ·exact False.elim hC
     ·exact Bool.noConfusion hr
     ·exact False.elim hC
     ·exact Bool.noConfusion hr
     ·exact Bool.noConfusion hr
    | 1,_ =>
     rcases st with ⟨_ | b68,_ | x73,_ | b76,_ | _⟩
     ·exact Bool.noConfusion (hm 0 (by decide))
     ·exact False.elim hC
     ·exact False.elim hC
     ·exact False.elim hC
     ·exact False.elim hC
     ·exact False.elim hC
     ·exact False.elim hC
     ·exact False.elim hC
     ·dsimp only at hC
      have hC:=hC.pick2
      refine does_append (enc:=enc_api_Token) (e:=39) (u:=39) (t:=45) (t2:=45) (sz:=7) (cp:=Q41) (A:=Q40) (bytes:=64) (xs:=t38) (ys:=([t62] : List api_Token)) (s:=(.tmp 38)) (x:=(.tmp 40)) (xv:=.slice (some ⟨b68,0,none⟩) ([t62] : List api_Token).length 1) (info:=infoOf Tryz.prog 39) (z:=zeroOf Tryz.prog 39) (ycs:=([t62] : List api_Token).flatMap enc_api_Token) hC (by kernel_rfl) (by kernel_rfl) (by kernel_rfl) (by kernel_rfl) (.inl (by kernel_rfl)) (by kernel_rfl) (by kernel_rfl) (by kernel_rfl) (by kernel_rfl) (by kernel_rfl) (by omega) len_api_Token one_api_Token (src_row (hC.row 1 rfl) (by omega) len_api_Token) rfl g74 (by omega) ?_
      intro A70 c71 w2 h2
      have h2:=h2.pick4
      have h2:=h2.pick4
      have h2:=h2.pick4
      have h2:=h2.pick4
      have h2:=h2.pick4
      refine ⟨(some b68,some (A70,c71),none,none),rfl,?_,?_,.inr rfl,h2⟩
      ·intro m hne; match m,hne with
       | 0,hne => exact rfl
       | 1,hne => exact absurd rfl hne
       | 2,hne => exact rfl
       | 3,hne => exact rfl
       | m + 4,_ => exact rfl
      ·intro j hj; match j,hj with
       | 0,hj => exact rfl
       | 1,hj => exact rfl
       | 2,hj => exact rfl
       | 3,hj => exact absurd (by decide) hj
       | 4,hj => exact rfl
       | 5,hj => exact absurd (by decide) hj
       | 6,hj => exact absurd (by decide) hj
       | 7,hj => exact rfl
       | 8,hj => exact absurd (by decide) hj
       | 9,hj => exact absurd (by decide) hj
       | j + 10,_ => exact rfl
     ·exact False.elim hC
     ·exact False.elim hC
     ·exact False.elim hC
     ·exact Bool.noConfusion hr
     ·exact False.elim hC
     ·exact Bool.noConfusion hr
     ·exact Bool.noConfusion hr
    | 2,_ =>
     rcases st with ⟨_ | b68,_ | x73,_ | b76,_ | _⟩
     ·exact Bool.noConfusion (hm 0 (by decide))
     ·exact False.elim hC
     ·exact False.elim hC
     ·exact False.elim hC
     ·exact False.elim hC
     ·exact False.elim hC
     ·exact False.elim hC
     ·exact False.elim hC
     ·exact Bool.noConfusion (hm 1 (by decide))
     ·exact False.elim hC
     ·exact False.elim hC
     ·exact False.elim hC
     ·dsimp only at hC
      refine does_box (t:=55) (x:=(.tmp 43)) (v:=.agg (([.slice x73.1 (t38 ++ ([t62] : List api_Token)).length x73.2] : List Value) ++ (enc_weirref05_Fault t39) ++ ([.int .i64 0] : List Value) ++ (enc_weirref05_Fault (⟨0,0,0⟩ : weirref05_Fault)) ++ ([.string (⟨#[]⟩ : ByteArray),.string (⟨#[]⟩ : ByteArray),.slice none 0 0,.slice none 0 0,.slice none 0 0,.int .i64 0,.slice none 0 0,.slice none 0 0,.slice none 0 0,.slice none 0 0,.slice none 0 0,.int .i64 0] : List Value) : List Value).toArray) (cs:=([.slice x73.1 (t38 ++ ([t62] : List api_Token)).length x73.2] : List Value) ++ (enc_weirref05_Fault t39) ++ ([.int .i64 0] : List Value) ++ (enc_weirref05_Fault (⟨0,0,0⟩ : weirref05_Fault)) ++ ([.string (⟨#[]⟩ : ByteArray),.string (⟨#[]⟩ : ByteArray),.slice none 0 0,.slice none 0 0,.slice none 0 0,.int .i64 0,.slice none 0 0,.slice none 0 0,.slice none 0 0,.slice none 0 0,.slice none 0 0,.int .i64 0] : List Value)) hC (by kernel_rfl) (by kernel_rfl) (by kernel_rfl) ?_
      intro b76 w2 h2
      have h2:=h2.pick5
      have h2:=h2.pick5
      have h2:=h2.pick5
      have h2:=h2.pick5
      have h2:=h2.pick5
      have h2:=h2.pick5
      refine ⟨(some b68,some x73,some b76,none),rfl,?_,?_,.inr rfl,h2⟩
      ·intro m hne; match m,hne with
       | 0,hne => exact rfl
       | 1,hne => exact rfl
       | 2,hne => exact absurd rfl hne
       | 3,hne => exact rfl
       | m + 4,_ => exact rfl
      ·intro j hj; match j,hj with
       | 0,hj => exact rfl
       | 1,hj => exact rfl
       | 2,hj => exact rfl
       | 3,hj => exact rfl
       | 4,hj => exact rfl
       | 5,hj => exact rfl
       | 6,hj => exact absurd (by decide) hj
       | 7,hj => exact rfl
       | 8,hj => exact absurd (by decide) hj
       | 9,hj => exact absurd (by decide) hj
       | j + 10,_ => exact rfl
     ·exact False.elim hC
     ·exact Bool.noConfusion hr
     ·exact Bool.noConfusion hr
    | 3,_ =>
     rcases st with ⟨_ | b68,_ | x73,_ | b76,_ | _⟩
     ·exact Bool.noConfusion (hm 0 (by decide))
     ·exact False.elim hC
     ·exact False.elim hC
     ·exact False.elim hC
     ·exact False.elim hC
     ·exact False.elim hC
     ·exact False.elim hC
     ·exact False.elim hC
     ·exact Bool.noConfusion (hm 1 (by decide))
     ·exact False.elim hC
     ·exact False.elim hC
     ·exact False.elim hC
     ·exact Bool.noConfusion (hm 2 (by decide))
     ·exact False.elim hC
     ·dsimp only at hC
      have hC:=hC.pick3
      refine dSG 29 (.tmp 3) (.tmp 45) 0 (.agg (enc_weirref05_Fault (⟨0,0,0⟩ : weirref05_Fault)).toArray) (enc_weirref05_Fault (⟨0,0,0⟩ : weirref05_Fault)) (enc_weirref05_Fault (⟨0,0,0⟩ : weirref05_Fault)) hC (one_weirref05_Fault _) ?_
      intro w2 h2
      have h2:=h2.pick5
      have h2:=h2.pick5
      have h2:=h2.pick5
      have h2:=h2.pick5
      have h2:=h2.pick5
      have h2:=h2.pick5
      refine ⟨(some b68,some x73,some b76,some ()),rfl,?_,?_,.inl rfl,h2⟩
      ·intro m hne; match m,hne with
       | 0,hne => exact rfl
       | 1,hne => exact rfl
       | 2,hne => exact rfl
       | 3,hne => exact absurd rfl hne
       | m + 4,_ => exact rfl
      ·intro j hj; match j,hj with
       | 0,hj => exact rfl
       | 1,hj => exact rfl
       | 2,hj => exact rfl
       | 3,hj => exact rfl
       | 4,hj => exact rfl
       | 5,hj => exact rfl
       | 6,hj => exact rfl
       | 7,hj => exact rfl
       | 8,hj => exact rfl
       | 9,hj => exact absurd (by decide) hj
       | j + 10,_ => exact rfl
     ·exact Bool.noConfusion hr
    | k + 4,hk => exact absurd hk (by simp)
   intro st81 w78 hS79 hr80
   rcases st81 with ⟨_ | b68,_ | x73,_ | b76,_ | _⟩
   ·exact Bool.noConfusion (hr80 0 (Nat.lt_of_sub_eq_succ rfl))
   ·exact Bool.noConfusion (hr80 0 (Nat.lt_of_sub_eq_succ rfl))
   ·exact Bool.noConfusion (hr80 0 (Nat.lt_of_sub_eq_succ rfl))
   ·exact Bool.noConfusion (hr80 0 (Nat.lt_of_sub_eq_succ rfl))
   ·exact Bool.noConfusion (hr80 0 (Nat.lt_of_sub_eq_succ rfl))
   ·exact Bool.noConfusion (hr80 0 (Nat.lt_of_sub_eq_succ rfl))
   ·exact Bool.noConfusion (hr80 0 (Nat.lt_of_sub_eq_succ rfl))
   ·exact Bool.noConfusion (hr80 0 (Nat.lt_of_sub_eq_succ rfl))
   ·exact Bool.noConfusion (hr80 1 (Nat.lt_of_sub_eq_succ rfl))
   ·exact Bool.noConfusion (hr80 1 (Nat.lt_of_sub_eq_succ rfl))
   ·exact Bool.noConfusion (hr80 1 (Nat.lt_of_sub_eq_succ rfl))
   ·exact Bool.noConfusion (hr80 1 (Nat.lt_of_sub_eq_succ rfl))
   ·exact Bool.noConfusion (hr80 2 (Nat.lt_of_sub_eq_succ rfl))
   ·exact Bool.noConfusion (hr80 2 (Nat.lt_of_sub_eq_succ rfl))
   ·exact Bool.noConfusion (hr80 3 (Nat.lt_of_sub_eq_succ rfl))
   replace hS79 : St w0 Z (xblk b1 29 (enc_weirref05_Fault (⟨0,0,0⟩ : weirref05_Fault))::xblk b76 55 (([.slice x73.1 (t38 ++ ([t62] : List api_Token)).length x73.2] : List Value) ++ (enc_weirref05_Fault t39) ++ ([.int .i64 0] : List Value) ++ (enc_weirref05_Fault (⟨0,0,0⟩ : weirref05_Fault)) ++ ([.string (⟨#[]⟩ : ByteArray),.string (⟨#[]⟩ : ByteArray),.slice none 0 0,.slice none 0 0,.slice none 0 0,.int .i64 0,.slice none 0 0,.slice none 0 0,.slice none 0 0,.slice none 0 0,.slice none 0 0,.int .i64 0] : List Value))::xrow x73.1 x73.2 39 7 ((t38 ++ ([t62] : List api_Token)).flatMap enc_api_Token)::xrow (some ⟨b68,0,none⟩) 1 39 7 (([t62] : List api_Token).flatMap enc_api_Token)::xblk b47 29 (enc_weirref05_Fault t39)::xblk b53 39 (enc_api_Token t62)::fs) w78:=hS79
   have hS83:=hS79.nilrow none 182 3
   have hS85:=hS83.nilrow none 180 2
   have hS87:=hS85.nilrow none 185 6
   have hS89:=hS87.nilrow none 39 7
   have hS91:=hS89.nilrow none 39 7
   have hS93:=hS91.nilrow none 39 7
   have hS94:=hS93.pick6
   have hS95:=hS94.drop
   have hS96:=hS95.pick8
   have hS97:=hS96.drop
   have hS98:=hS97.pick8
   have hS99:=hS98.drop
   have hS100:=hS99.pick8
   have hS101:=hS100.drop
   have hS102:=hS101.pick1
   have hS103:=hS102.pick2
   have hS104:=hS103.pick3
   have hS105:=hS104.pick4
   have hS106:=hS105.pick5
   have hS107:=hS106.pick7
   have hS108:=hS107.pick7
   refine rRc (.tuple #[.pointer (some ⟨b76,0,none⟩),.agg (enc_weirref05_Fault (⟨0,0,0⟩ : weirref05_Fault)).toArray]) (.tm 2 (.ca 3 29 (hS79.blk 0 rfl) .nil)) Tryz.func12 ?_
   cases Option.some.inj hp75
   exact hR _ _ ⟨b76,x73.1,x73.2,none,0,none,0,none,0,none,0,none,0,none,0,rfl,hS108⟩
  refine sS 1 (.inRegion (opsOf (cd12 [1,1,1,1,0,0])) []::.code (cd12 [1,1,1,1,0,1])::td291) 27 (t39.Code == 0) (fun h110 => ?_) fun h111 => ?_
  ·have hp112:=ite_t hv60 h110
   refine sR 6 (iR p12_16 3 9::td291) ?_
   obtain ⟨⟨t113,t114,t115⟩,hr116,hp117⟩:=bind_some' hp112
   try dsimp only at hp117
   refine rC (weirref05_Place.ok a0 (a0.size : Int) hS58 hr116) ?_
   rintro _ w118 ⟨rfl,hS119⟩
   refine ⟨_,rfl,?_⟩
   refine sR 5 (.inRegion (opsOf p12_16) [9,10,11]::td291) ?_
   refine rS 3 (.tmp 36) (.tmp 33) 3 (.int .i64 t113) [.int .i64 t113] (enc_api_Token (⟨0,(⟨#[]⟩ : ByteArray),0,t113,t39.Col,(a0.size : Int),(a0.size : Int)⟩ : api_Token)) hS119 ?_
   intro w120 hS121
   refine sR 1 (.inRegion (opsOf p12_16) [11]::td291) ?_
   refine rS 3 (.tmp 37) (.tmp 34) 4 (.int .i64 t114) [.int .i64 t114] (enc_api_Token (⟨0,(⟨#[]⟩ : ByteArray),0,t113,t114,(a0.size : Int),(a0.size : Int)⟩ : api_Token)) hS121 ?_
   intro w122 hS123
   refine sR 1 td291 ?_
   have hS124:=hS123.pick1
   have hS125:=hS124.pick2
   have hS126:=hS125.pick3
   refine rF (mk 46 [(3,.pointer (some ⟨b1,0,none⟩)),(4,.slice Q40 t38.length Q41),(5,.pointer (some ⟨b47,0,none⟩)),(6,.pointer (some ⟨b53,0,none⟩))]) ?_
   exact J65 (⟨0,(⟨#[]⟩ : ByteArray),0,t113,t114,(a0.size : Int),(a0.size : Int)⟩ : api_Token) (Option.some.inj hp117) _ _ hS126
  have hp127:=ite_f hv60 h111
  refine sR 3 td291 ?_
  have hS128:=hS58.pick1
  have hS129:=hS128.pick2
  have hS130:=hS129.pick3
  refine rF (mk 46 [(3,.pointer (some ⟨b1,0,none⟩)),(4,.slice Q40 t38.length Q41),(5,.pointer (some ⟨b47,0,none⟩)),(6,.pointer (some ⟨b53,0,none⟩))]) ?_
  exact J65 (⟨0,(⟨#[]⟩ : ByteArray),0,t39.Line,t39.Col,(a0.size : Int),(a0.size : Int)⟩ : api_Token) (Option.some.inj hp127) _ _ hS130

noncomputable def cd14 (p : List Nat) : Code := sub (bodyOf Tryz.f14) p
def weirref07_reader__next.f (a0v : weirref07_reader) : Option api_Token :=
  (if 0 ≤ a0v.At ∧ a0v.At < (a0v.L.length : Int) then some ((gt a0v.L a0v.At)) else none)
set_option maxHeartbeats 16000000 in
theorem weirref07_reader__next.ok (a0v : weirref07_reader) (ba0 : Nat) (y47 : Option Addr) (y48 : Nat) (y49 : Option Addr) (y50 : Nat) (y51 : Option Addr) (y52 : Nat) (y53 : Option Addr) (y54 : Nat) (y55 : Option Addr) (y56 : Nat) (y31 : Option Addr) (y32 : Nat) (y33 : Option Addr) (y34 : Nat) (y35 : Option Addr) (y36 : Nat) (y57 : Option Addr) (y58 : Nat) {w0 : World} {Z : Zm} {fs : List XObj} {w : World} (hS0 : St w0 Z (xblk ba0 55 (([.slice y47 a0v.L.length y48] : List Value) ++ (enc_weirref05_Fault a0v.Bad) ++ ([.int .i64 a0v.At] : List Value) ++ (enc_weirref05_Fault a0v.F) ++ ([.string a0v.Test.Name,.string a0v.Test.Doc,.slice y49 a0v.Test.Inits.length y50,.slice y51 a0v.Test.Threads.length y52,.slice y53 a0v.Test.Watch.length y54,.int .i64 a0v.Test.Quant,.slice y55 a0v.Test.Cond.length y56,.slice y31 a0v.Sets.length y32,.slice y33 a0v.Cols.length y34,.slice y35 a0v.Rows.length y36,.slice y57 a0v.Seen.length y58,.int .i64 a0v.Cond] : List Value))::fs) w) (y59 : SlZ (flat enc_api_Token) 7 Z y47 y48 a0v.L) (y60 : SlZ (flat enc_api_Init) 3 Z y49 y50 a0v.Test.Inits) (y61 : SlZ (repL (flat enc_api_Instr) 5) 1 Z y51 y52 a0v.Test.Threads) (y62 : SlZ (flat enc_api_Ref) 2 Z y53 y54 a0v.Test.Watch) (y63 : SlZ (flat enc_api_Node) 6 Z y55 y56 a0v.Test.Cond) (y44 : SlZ (flat enc_api_Token) 7 Z y31 y32 a0v.Sets) (y45 : SlZ (flat enc_api_Token) 7 Z y33 y34 a0v.Cols) (y46 : SlZ (repL (flat enc_api_Token) 7) 1 Z y35 y36 a0v.Rows) (y64 : SlZ (flat enc_api_Token) 7 Z y57 y58 a0v.Seen) {q0 : api_Token} (hp0 : weirref07_reader__next.f a0v = some q0) :
    Calls Tryz.prog 14 #[.pointer (some ⟨ba0,0,none⟩)] w (fun e w' => e = .returned (.agg (enc_api_Token q0).toArray) ∧ St w0 Z (xblk ba0 55 (([.slice y47 a0v.L.length y48] : List Value) ++ (enc_weirref05_Fault a0v.Bad) ++ ([.int .i64 a0v.At] : List Value) ++ (enc_weirref05_Fault a0v.F) ++ ([.string a0v.Test.Name,.string a0v.Test.Doc,.slice y49 a0v.Test.Inits.length y50,.slice y51 a0v.Test.Threads.length y52,.slice y53 a0v.Test.Watch.length y54,.int .i64 a0v.Test.Quant,.slice y55 a0v.Test.Cond.length y56,.slice y31 a0v.Sets.length y32,.slice y33 a0v.Cols.length y34,.slice y35 a0v.Rows.length y36,.slice y57 a0v.Seen.length y58,.int .i64 a0v.Cond] : List Value))::fs) w'):=by
  refine calls_abs ?_; intro R hR
  unfold weirref07_reader__next.f at hp0
  refine calls_of_runs (fn:=Tryz.f14) (c:=cd14 []) Tryz.func14 (by kernel_rfl) (al:=[.pointer (some ⟨ba0,0,none⟩)]) rfl (n:=12) rfl ?_
  refine sR 2 [.inRegion (opsOf (cd14 [0])) [0],.code (cd14 [1])] ?_
  refine rA 39 (.agg (enc_api_Token (⟨0,(⟨#[]⟩ : ByteArray),0,0,0,0,0⟩ : api_Token)).toArray) (enc_api_Token (⟨0,(⟨#[]⟩ : ByteArray),0,0,0,0,0⟩ : api_Token)) hS0 ?_
  intro b1 w2 hS3
  refine sR 2 [.code (cd14 [1,0]),.code (cd14 [1,1])] ?_
  refine r_drawn3 (C:=St w0 Z (xblk b1 39 (enc_api_Token (⟨0,(⟨#[]⟩ : ByteArray),0,0,0,0,0⟩ : api_Token))::xblk ba0 55 (([.slice y47 a0v.L.length y48] : List Value) ++ (enc_weirref05_Fault a0v.Bad) ++ ([.int .i64 a0v.At] : List Value) ++ (enc_weirref05_Fault a0v.F) ++ ([.string a0v.Test.Name,.string a0v.Test.Doc,.slice y49 a0v.Test.Inits.length y50,.slice y51 a0v.Test.Threads.length y52,.slice y53 a0v.Test.Watch.length y54,.int .i64 a0v.Test.Quant,.slice y55 a0v.Test.Cond.length y56,.slice y31 a0v.Sets.length y32,.slice y33 a0v.Cols.length y34,.slice y35 a0v.Rows.length y36,.slice y57 a0v.Seen.length y58,.int .i64 a0v.Cond] : List Value))::fs)) (c:=(cd14 [1,0])) (id:=1) (by kernel_rfl) (by kernel_rfl) 10 (Nat.le_of_ble_eq_true (by kernel_rfl)) (by kernel_rfl) (by kernel_rfl) (by kernel_rfl) (is:=[0,1,2,3,4,5,6,7,8,9]) (rest:=[10]) (by kernel_rfl) (by kernel_rfl) hS3.drew ?_
  refine qR 3 (rg 3 7) ?_
  refine qL1 45 (.tmp 5) 0 (fun w hC => (hC.blk 1 rfl)) ?_
  refine qR 3 [7,8,9] ?_
  refine qL1 3 (.tmp 9) 4 (fun w hC => (hC.blk 1 rfl)) ?_
  obtain ⟨g5,hp6⟩:=ite_some hp0
  obtain ⟨b7,p8,hA9,hc10⟩:=y59.atF g5.1 g5.2
  refine q_indexAddr (c:=(hd (cd14 [1,0]) 10)) (i:=8) (d:=(some 11)) (ty:=0) (t:=45) (e:=39) (n:=a0v.L.length) (cp:=y48) (sz:=7) (kk:=.i64) (x:=(.tmp 6)) (y:=(.tmp 10)) (b:=b7) (o':=p8) (j:=a0v.At) (by kernel_rfl) (by kernel_rfl) (slv (by kernel_rfl) hA9) (by kernel_rfl) (by kernel_rfl) (by kernel_rfl) g5.1 g5.2 ?_
  refine qLa 39 (.tmp 11) (fun w hC => (hc10.cells hC)) ?_
  refine Qs.nil ?_
  intro w11 hS12
  refine rSA 39 (.tmp 2) (.tmp 12) (enc_api_Token (gt a0v.L a0v.At)) hS12 (one_api_Token _) ?_
  intro w13 hS14
  refine sR 1 [.code (cd14 [1,1])] ?_
  have hS15:=hS14.drop
  refine rRc (.agg (enc_api_Token (gt a0v.L a0v.At)).toArray) (.ca 2 39 (hS14.blk 0 rfl) .nil) Tryz.func14 ?_
  cases Option.some.inj hp6
  exact hR _ _ ⟨rfl,hS15⟩

noncomputable def cd52 (p : List Nat) : Code := sub (bodyOf Tryz.f52) p
abbrev p52_2:=cd52 [1,1,0]
abbrev td292:List Item:=[.code (cd52 [1,1,1])]
def weirref07_reader__sees.f (a0v : weirref07_reader) (a1 : ByteArray) : Option Bool :=
  (weirref07_reader__next.f a0v >>= (fun t1 => (if (t1.Kind == 4) = true then (if (seq t1.Text a1) = true then some (true) else some (false)) else (if (t1.Kind == 1) = true then (if (seq t1.Text a1) = true then some (true) else some (false)) else some (false)))))
set_option maxHeartbeats 16000000 in
theorem weirref07_reader__sees.ok (a0v : weirref07_reader) (a1 : ByteArray) (ba0 : Nat) (y47 : Option Addr) (y48 : Nat) (y49 : Option Addr) (y50 : Nat) (y51 : Option Addr) (y52 : Nat) (y53 : Option Addr) (y54 : Nat) (y55 : Option Addr) (y56 : Nat) (y31 : Option Addr) (y32 : Nat) (y33 : Option Addr) (y34 : Nat) (y35 : Option Addr) (y36 : Nat) (y57 : Option Addr) (y58 : Nat) {w0 : World} {Z : Zm} {fs : List XObj} {w : World} (hS0 : St w0 Z (xblk ba0 55 (([.slice y47 a0v.L.length y48] : List Value) ++ (enc_weirref05_Fault a0v.Bad) ++ ([.int .i64 a0v.At] : List Value) ++ (enc_weirref05_Fault a0v.F) ++ ([.string a0v.Test.Name,.string a0v.Test.Doc,.slice y49 a0v.Test.Inits.length y50,.slice y51 a0v.Test.Threads.length y52,.slice y53 a0v.Test.Watch.length y54,.int .i64 a0v.Test.Quant,.slice y55 a0v.Test.Cond.length y56,.slice y31 a0v.Sets.length y32,.slice y33 a0v.Cols.length y34,.slice y35 a0v.Rows.length y36,.slice y57 a0v.Seen.length y58,.int .i64 a0v.Cond] : List Value))::fs) w) (y59 : SlZ (flat enc_api_Token) 7 Z y47 y48 a0v.L) (y60 : SlZ (flat enc_api_Init) 3 Z y49 y50 a0v.Test.Inits) (y61 : SlZ (repL (flat enc_api_Instr) 5) 1 Z y51 y52 a0v.Test.Threads) (y62 : SlZ (flat enc_api_Ref) 2 Z y53 y54 a0v.Test.Watch) (y63 : SlZ (flat enc_api_Node) 6 Z y55 y56 a0v.Test.Cond) (y44 : SlZ (flat enc_api_Token) 7 Z y31 y32 a0v.Sets) (y45 : SlZ (flat enc_api_Token) 7 Z y33 y34 a0v.Cols) (y46 : SlZ (repL (flat enc_api_Token) 7) 1 Z y35 y36 a0v.Rows) (y64 : SlZ (flat enc_api_Token) 7 Z y57 y58 a0v.Seen) {q0 : Bool} (hp0 : weirref07_reader__sees.f a0v a1 = some q0) :
    Calls Tryz.prog 52 #[.pointer (some ⟨ba0,0,none⟩),.string a1] w (fun e w' => e = .returned (.bool q0) ∧ St w0 Z (xblk ba0 55 (([.slice y47 a0v.L.length y48] : List Value) ++ (enc_weirref05_Fault a0v.Bad) ++ ([.int .i64 a0v.At] : List Value) ++ (enc_weirref05_Fault a0v.F) ++ ([.string a0v.Test.Name,.string a0v.Test.Doc,.slice y49 a0v.Test.Inits.length y50,.slice y51 a0v.Test.Threads.length y52,.slice y53 a0v.Test.Watch.length y54,.int .i64 a0v.Test.Quant,.slice y55 a0v.Test.Cond.length y56,.slice y31 a0v.Sets.length y32,.slice y33 a0v.Cols.length y34,.slice y35 a0v.Rows.length y36,.slice y57 a0v.Seen.length y58,.int .i64 a0v.Cond] : List Value))::fs) w'):=by
  refine calls_abs ?_; intro R hR
  unfold weirref07_reader__sees.f at hp0
  refine calls_of_runs (fn:=Tryz.f52) (c:=cd52 []) Tryz.func52 (by kernel_rfl) (al:=[.pointer (some ⟨ba0,0,none⟩),.string a1]) rfl (n:=20) rfl ?_
  refine sR 7 [.inRegion (opsOf (cd52 [1,0])) [1,2,3],.code (cd52 [1,1])] ?_
  obtain ⟨t1,hr2,hp3⟩:=bind_some' hp0
  refine rC (weirref07_reader__next.ok a0v ba0 y47 y48 y49 y50 y51 y52 y53 y54 y55 y56 y31 y32 y33 y34 y35 y36 y57 y58 hS0 y59 y60 y61 y62 y63 y44 y45 y46 y64 hr2) ?_
  rintro _ w13 ⟨rfl,hS14⟩
  refine ⟨_,rfl,?_⟩
  refine rA 39 (.agg (enc_api_Token (⟨0,(⟨#[]⟩ : ByteArray),0,0,0,0,0⟩ : api_Token)).toArray) (enc_api_Token (⟨0,(⟨#[]⟩ : ByteArray),0,0,0,0,0⟩ : api_Token)) hS14 ?_
  intro b15 w16 hS17
  refine rSA 39 (.tmp 5) (.tmp 7) (enc_api_Token t1) hS17 (one_api_Token _) ?_
  intro w19 hS20
  refine sR 4 (iR p52_2 1 14::td292) ?_
  refine rL1 3 (.tmp 8) 0 (hS20.blk 0 rfl) ?_
  refine sS 1 (iR p52_2 3 12::td292) 10 (t1.Kind == 4) (fun h21 => ?_) fun h22 => ?_
  ·have hp23:=ite_t hp3 h21
   refine sR 7 (iR p52_2 10 5::td292) ?_
   refine rL1 9 (.tmp 17) 1 (hS20.blk 0 rfl) ?_
   refine sS 2 (.inRegion (opsOf p52_2) [13,14]::td292) 20 (seq t1.Text a1) (fun h24 => ?_) fun h25 => ?_
   ·have hp26:=ite_t hp23 h24
    refine sR 3 td292 ?_
    have hS27:=hS20.drop
    refine rR (.bool true) Tryz.func52 ?_
    cases Option.some.inj hp26
    exact hR _ _ ⟨rfl,hS27⟩
   have hp29:=ite_f hp23 h25
   refine sR 3 td292 ?_
   have hS30:=hS20.drop
   refine rR (.bool false) Tryz.func52 ?_
   cases Option.some.inj hp29
   exact hR _ _ ⟨rfl,hS30⟩
  have hp32:=ite_f hp3 h22
  refine sR 2 (iR p52_2 5 10::td292) ?_
  refine rL1 3 (.tmp 12) 0 (hS20.blk 0 rfl) ?_
  refine sS 1 (iR p52_2 7 8::td292) 14 (t1.Kind == 1) (fun h33 => ?_) fun h34 => ?_
  ·have hp35:=ite_t hp32 h33
   refine sR 3 (iR p52_2 10 5::td292) ?_
   refine rL1 9 (.tmp 17) 1 (hS20.blk 0 rfl) ?_
   refine sS 2 (.inRegion (opsOf p52_2) [13,14]::td292) 20 (seq t1.Text a1) (fun h36 => ?_) fun h37 => ?_
   ·have hp38:=ite_t hp35 h36
    refine sR 3 td292 ?_
    have hS39:=hS20.drop
    refine rR (.bool true) Tryz.func52 ?_
    cases Option.some.inj hp38
    exact hR _ _ ⟨rfl,hS39⟩
   have hp41:=ite_f hp35 h37
   refine sR 3 td292 ?_
   have hS42:=hS20.drop
   refine rR (.bool false) Tryz.func52 ?_
   cases Option.some.inj hp41
   exact hR _ _ ⟨rfl,hS42⟩
  have hp44:=ite_f hp32 h34
  refine sR 9 td292 ?_
  have hS45:=hS20.drop
  refine rR (.bool false) Tryz.func52 ?_
  cases Option.some.inj hp44
  exact hR _ _ ⟨rfl,hS45⟩

noncomputable def cd53 (p : List Nat) : Code := sub (bodyOf Tryz.f53) p
abbrev td293:List Item:=[.code (cd53 [1,1,1])]
def weirref07_reader__take.f (a0v : weirref07_reader) : Option (api_Token × Int) :=
  (weirref07_reader__next.f a0v >>= (fun t5 => (((if (t5.Kind != 0) = true then some ((IntKind.i64.wrap (a0v.At + 1))) else some (a0v.At)) : Option Int) >>= (fun t29 => some ((t5,t29))))))
set_option maxHeartbeats 16000000 in
theorem weirref07_reader__take.ok (a0v : weirref07_reader) (ba0 : Nat) (y47 : Option Addr) (y48 : Nat) (y49 : Option Addr) (y50 : Nat) (y51 : Option Addr) (y52 : Nat) (y53 : Option Addr) (y54 : Nat) (y55 : Option Addr) (y56 : Nat) (y31 : Option Addr) (y32 : Nat) (y33 : Option Addr) (y34 : Nat) (y35 : Option Addr) (y36 : Nat) (y57 : Option Addr) (y58 : Nat) {w0 : World} {Z : Zm} {fs : List XObj} {w : World} (hS0 : St w0 Z (xblk ba0 55 (([.slice y47 a0v.L.length y48] : List Value) ++ (enc_weirref05_Fault a0v.Bad) ++ ([.int .i64 a0v.At] : List Value) ++ (enc_weirref05_Fault a0v.F) ++ ([.string a0v.Test.Name,.string a0v.Test.Doc,.slice y49 a0v.Test.Inits.length y50,.slice y51 a0v.Test.Threads.length y52,.slice y53 a0v.Test.Watch.length y54,.int .i64 a0v.Test.Quant,.slice y55 a0v.Test.Cond.length y56,.slice y31 a0v.Sets.length y32,.slice y33 a0v.Cols.length y34,.slice y35 a0v.Rows.length y36,.slice y57 a0v.Seen.length y58,.int .i64 a0v.Cond] : List Value))::fs) w) (y59 : SlZ (flat enc_api_Token) 7 Z y47 y48 a0v.L) (y60 : SlZ (flat enc_api_Init) 3 Z y49 y50 a0v.Test.Inits) (y61 : SlZ (repL (flat enc_api_Instr) 5) 1 Z y51 y52 a0v.Test.Threads) (y62 : SlZ (flat enc_api_Ref) 2 Z y53 y54 a0v.Test.Watch) (y63 : SlZ (flat enc_api_Node) 6 Z y55 y56 a0v.Test.Cond) (y44 : SlZ (flat enc_api_Token) 7 Z y31 y32 a0v.Sets) (y45 : SlZ (flat enc_api_Token) 7 Z y33 y34 a0v.Cols) (y46 : SlZ (repL (flat enc_api_Token) 7) 1 Z y35 y36 a0v.Rows) (y64 : SlZ (flat enc_api_Token) 7 Z y57 y58 a0v.Seen) {q0 : api_Token} {q1 : Int} (hp0 : weirref07_reader__take.f a0v = some (q0,q1)) :
    Calls Tryz.prog 53 #[.pointer (some ⟨ba0,0,none⟩)] w (fun e w' => e = .returned (.agg (enc_api_Token q0).toArray) ∧ St w0 Z (xblk ba0 55 (([.slice y47 a0v.L.length y48] : List Value) ++ (enc_weirref05_Fault a0v.Bad) ++ ([.int .i64 q1] : List Value) ++ (enc_weirref05_Fault a0v.F) ++ ([.string a0v.Test.Name,.string a0v.Test.Doc,.slice y49 a0v.Test.Inits.length y50,.slice y51 a0v.Test.Threads.length y52,.slice y53 a0v.Test.Watch.length y54,.int .i64 a0v.Test.Quant,.slice y55 a0v.Test.Cond.length y56,.slice y31 a0v.Sets.length y32,.slice y33 a0v.Cols.length y34,.slice y35 a0v.Rows.length y36,.slice y57 a0v.Seen.length y58,.int .i64 a0v.Cond] : List Value))::fs) w'):=by
  refine calls_abs ?_; intro R hR
  unfold weirref07_reader__take.f at hp0
  refine calls_of_runs (fn:=Tryz.f53) (c:=cd53 []) Tryz.func53 (by kernel_rfl) (al:=[.pointer (some ⟨ba0,0,none⟩)]) rfl (n:=16) rfl ?_
  refine sR 2 [.inRegion (opsOf (cd53 [0])) [0],.code (cd53 [1])] ?_
  refine rA 39 (.agg (enc_api_Token (⟨0,(⟨#[]⟩ : ByteArray),0,0,0,0,0⟩ : api_Token)).toArray) (enc_api_Token (⟨0,(⟨#[]⟩ : ByteArray),0,0,0,0,0⟩ : api_Token)) hS0 ?_
  intro b1 w2 hS3
  refine sR 4 [.inRegion (opsOf (cd53 [1,0])) [1,2,3],.code (cd53 [1,1])] ?_
  obtain ⟨t5,hr6,hp7⟩:=bind_some' hp0
  have hS17:=hS3.pick1
  refine rC (weirref07_reader__next.ok a0v ba0 y47 y48 y49 y50 y51 y52 y53 y54 y55 y56 y31 y32 y33 y34 y35 y36 y57 y58 hS17 y59 y60 y61 y62 y63 y44 y45 y46 y64 hr6) ?_
  rintro _ w18 ⟨rfl,hS19⟩
  refine ⟨_,rfl,?_⟩
  refine rA 39 (.agg (enc_api_Token (⟨0,(⟨#[]⟩ : ByteArray),0,0,0,0,0⟩ : api_Token)).toArray) (enc_api_Token (⟨0,(⟨#[]⟩ : ByteArray),0,0,0,0,0⟩ : api_Token)) hS19 ?_
  intro b20 w21 hS22
  refine rSA 39 (.tmp 3) (.tmp 5) (enc_api_Token t5) hS22 (one_api_Token _) ?_
  intro w24 hS25
  refine sR 5 (.inRegion (opsOf (cd53 [1,1,0,0])) [1,2]::.code (cd53 [1,1,0,1])::td293) ?_
  refine rL1 3 (.tmp 6) 0 (hS25.blk 0 rfl) ?_
  obtain ⟨v26,hv27,hp28⟩:=bind_some' hp7
  have J32 : ∀ (t29 : Int) (he34 : t29 = v26) (l33 : List Value) (w30 : World) (hS31 : St w0 Z (xblk b1 39 (enc_api_Token (⟨0,(⟨#[]⟩ : ByteArray),0,0,0,0,0⟩ : api_Token))::xblk b20 39 (enc_api_Token t5)::xblk ba0 55 (([.slice y47 a0v.L.length y48] : List Value) ++ (enc_weirref05_Fault a0v.Bad) ++ ([.int .i64 t29] : List Value) ++ (enc_weirref05_Fault a0v.F) ++ ([.string a0v.Test.Name,.string a0v.Test.Doc,.slice y49 a0v.Test.Inits.length y50,.slice y51 a0v.Test.Threads.length y52,.slice y53 a0v.Test.Watch.length y54,.int .i64 a0v.Test.Quant,.slice y55 a0v.Test.Cond.length y56,.slice y31 a0v.Sets.length y32,.slice y33 a0v.Cols.length y34,.slice y35 a0v.Rows.length y36,.slice y57 a0v.Seen.length y58,.int .i64 a0v.Cond] : List Value))::fs) w30),Runs Tryz.prog (fx 53) td293 (fill (mk 17 [(2,.pointer (some ⟨b1,0,none⟩)),(3,.pointer (some ⟨b20,0,none⟩))]) l33) w30 R:=by
   intro t29 he34 l33 w30 hS31
   subst he34
   try dsimp only at hp28
   refine sR 2 [.inRegion (opsOf (cd53 [1,1,1,0])) [0,1],.code (cd53 [1,1,1,1])] ?_
   refine rLa 39 (.tmp 3) (hS31.blk 1 rfl) ?_
   refine rSA 39 (.tmp 2) (.tmp 16) (enc_api_Token t5) hS31 (one_api_Token _) ?_
   intro w35 hS36
   refine sR 1 [.code (cd53 [1,1,1,1])] ?_
   have hS37:=hS36.drop
   have hS38:=hS37.drop
   refine rRc (.agg (enc_api_Token t5).toArray) (.ca 2 39 (hS36.blk 0 rfl) .nil) Tryz.func53 ?_
   cases Option.some.inj hp28
   exact hR _ _ ⟨rfl,hS38⟩
  refine sS 1 (.inRegion (opsOf (cd53 [1,1,0,0])) []::.code (cd53 [1,1,0,1])::td293) 8 (t5.Kind != 0) (fun h40 => ?_) fun h41 => ?_
  ·have hp42:=ite_t hv27 h40
   refine sR 6 (iR (cd53 [1,1,0,1,0]) 3 5::td293) ?_
   refine rL1 3 (.tmp 11) 4 (hS25.blk 1 rfl) ?_
   refine sR 3 (.inRegion (opsOf (cd53 [1,1,0,1,0])) [7]::td293) ?_
   have hS43:=hS25.pick1
   refine rS 3 (.tmp 15) (.tmp 13) 4 (.int .i64 (IntKind.i64.wrap (a0v.At + 1))) [.int .i64 (IntKind.i64.wrap (a0v.At + 1))] (([.slice y47 a0v.L.length y48] : List Value) ++ (enc_weirref05_Fault a0v.Bad) ++ ([.int .i64 (IntKind.i64.wrap (a0v.At + 1))] : List Value) ++ (enc_weirref05_Fault a0v.F) ++ ([.string a0v.Test.Name,.string a0v.Test.Doc,.slice y49 a0v.Test.Inits.length y50,.slice y51 a0v.Test.Threads.length y52,.slice y53 a0v.Test.Watch.length y54,.int .i64 a0v.Test.Quant,.slice y55 a0v.Test.Cond.length y56,.slice y31 a0v.Sets.length y32,.slice y33 a0v.Cols.length y34,.slice y35 a0v.Rows.length y36,.slice y57 a0v.Seen.length y58,.int .i64 a0v.Cond] : List Value)) hS43 ?_
   intro w44 hS45
   refine sR 1 td293 ?_
   have hS46:=hS45.pick1
   have hS47:=hS46.pick2
   refine rF (mk 17 [(2,.pointer (some ⟨b1,0,none⟩)),(3,.pointer (some ⟨b20,0,none⟩))]) ?_
   exact J32 (IntKind.i64.wrap (a0v.At + 1)) (Option.some.inj hp42) _ _ hS47
  have hp48:=ite_f hv27 h41
  refine sR 3 td293 ?_
  have hS49:=hS25.pick1
  have hS50:=hS49.pick1
  have hS51:=hS50.pick2
  refine rF (mk 17 [(2,.pointer (some ⟨b1,0,none⟩)),(3,.pointer (some ⟨b20,0,none⟩))]) ?_
  exact J32 a0v.At (Option.some.inj hp48) _ _ hS51

end
end Go.Proofs.YtkhcbamlhckilaaGreatDoor.K
