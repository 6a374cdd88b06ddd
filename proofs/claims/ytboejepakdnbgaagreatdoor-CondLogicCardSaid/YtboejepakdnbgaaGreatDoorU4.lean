/- The walk, part 4: each Go function as a plain Lean function, and that its call answers as that function says. No condition. -/
import Derived.Test.YtboejepakdnbgaaGreatDoorE
import Derived.Test.YtboejepakdnbgaaGreatDoorNG
import Derived.Test.YtboejepakdnbgaaGreatDoorNP
import Derived.Test.YtboejepakdnbgaaGreatDoorNM
import Derived.Test.YtboejepakdnbgaaGreatDoorNI
import Derived.Test.YtboejepakdnbgaaGreatDoorNV
import Derived.Test.YtboejepakdnbgaaGreatDoorNX
import Derived.Test.YtboejepakdnbgaaGreatDoorNY
import Derived.Test.YtboejepakdnbgaaGreatDoorNC
import Derived.Test.YtboejepakdnbgaaGreatDoorNF
import Derived.Test.YtboejepakdnbgaaGreatDoorNB
import Derived.Test.YtboejepakdnbgaaGreatDoorU3
set_option linter.unusedVariables false
set_option linter.unusedSimpArgs false
set_option maxRecDepth 100000
namespace Go.Proofs.YtboejepakdnbgaaGreatDoor.K
open Go Go.RowKit
noncomputable section
set_option maxHeartbeats 16000000
variable {w0 : World} {Z : Zm} {fs : List XObj} {w : World}
noncomputable def cd5 (p : List Nat) : Code := sub (bodyOf Tryz.f5) p
abbrev p5_16:=cd5 [1,1,1,1,1,1,0,0]
abbrev p5_32:=cd5 [1,1,1,1,1,1,1,1,1,1,1,1,1,0,0]
abbrev p5_35:=cd5 [1,1,1,1,1,1,1,1,1,1,1,1,1,0,1,0,1]
abbrev p5_36:=cd5 [1,1,1,1,1,1,1,1,1,1,1,1,1,1,0]
abbrev p5_41:=cd5 [1,1,1,1,1,1,1,1,1,1,1,1,1,1,1,1,0,1,0,0]
abbrev p5_42:=cd5 [1,1,1,1,1,1,1,1,1,1,1,1,1,1,1,1,1,1]
abbrev p5_46:=cd5 [1,1,1,1,1,1,1,1,1,1,1,1,1,1,1,1,0,1,0,0,1,0,0,0]
abbrev p5_49:=cd5 [1,1,1,1,1,1,1,1,1,1,1,1,1,1,1,1,0,1,0,0,1,0,0,1,0]
abbrev p5_51:=cd5 [1,1,1,1,1,1,1,1,1,1,1,1,1,1,1,1,0,1,0,0,1,0,0,1,1,0,1]
abbrev p5_52:=cd5 [1,1,1,1,1,1,1,1,1,1,1,1,1,1,1,0]
abbrev td247:List Item:=[.code (cd5 [1,1,1,1,1,1,1])]
abbrev td248:List Item:=.code (cd5 [1,1,1,1,1,1,0,1])::td247
abbrev td249:List Item:=.code (cd5 [1,1,1,1,1,1,0,1,0,1])::td247
abbrev td250:List Item:=[.code (cd5 [1,1,1,1,1,1,1,1,1,1,1,1,1,1])]
abbrev td251:List Item:=.code (cd5 [1,1,1,1,1,1,1,1,1,1,1,1,1,0,1])::td250
abbrev td252:List Item:=.code p5_35::td250
abbrev td253:List Item:=[.code (cd5 [1,1,1,1,1,1,1,1,1,1,1,1,1,1,1])]
abbrev td254:List Item:=[.code (cd5 [1,1,1,1,1,1,1,1,1,1,1,1,1,1,1,1,1])]
abbrev td255:List Item:=.code (cd5 [1,1,1,1,1,1,1,1,1,1,1,1,1,1,1,1,0,1])::td254
abbrev td256:List Item:=.code (cd5 [1,1,1,1,1,1,1,1,1,1,1,1,1,1,1,1,0,0])::td255
abbrev td257:List Item:=.inBlock 0::td254
abbrev td258:List Item:=.inLoop p5_41::td257
abbrev td259:List Item:=.code p5_41::td258
abbrev td260:List Item:=.code (cd5 [1,1,1,1,1,1,1,1,1,1,1,1,1,1,1,1,0,1,0,0,1,1])::td258
abbrev td261:List Item:=.inBlock 1::td260
abbrev td262:List Item:=.code (cd5 [1,1,1,1,1,1,1,1,1,1,1,1,1,1,1,1,0,1,0,0,1,0,0,1,1])::td261
abbrev td263:List Item:=.code p5_51::td261
abbrev td264:List Item:=[.code (cd5 [1,1,1,1,1,1,1,1,1,1,1,1,1,1,1,1])]
abbrev td265:List Item:=.inRegion (opsOf p5_52) [47,48]::td264
abbrev td266:List Item:=iR p5_52 20 29::td264
abbrev td267:List Item:=iR p5_52 25 24::td264
def weirlaw06_CondLogic.l0 (a3 : weirlaw06_Set) (t22 t28 t34 : ByteArray) (t209 : Vector Bool 9) (t225 : Int) : Option (Sum Unit Bool) :=
  (if (decide (t225 < 9)) = true then (if 0 ≤ t225 ∧ t225 < 9 then (weirlaw06_held.f (vget (vset (vset (vset (vset (vset (vset (vset (vset (vset (Vector.replicate 9 (⟨#[]⟩ : ByteArray)) 0 ((⟨#[126]⟩ : ByteArray) ++ (((⟨#[40]⟩ : ByteArray) ++ t22) ++ (⟨#[41]⟩ : ByteArray)))) 1 (((((⟨#[40]⟩ : ByteArray) ++ t22) ++ (⟨#[41]⟩ : ByteArray)) ++ (⟨#[32,47,92,32]⟩ : ByteArray)) ++ (((⟨#[40]⟩ : ByteArray) ++ t28) ++ (⟨#[41]⟩ : ByteArray)))) 2 (((((⟨#[40]⟩ : ByteArray) ++ t22) ++ (⟨#[41]⟩ : ByteArray)) ++ (⟨#[92,47]⟩ : ByteArray)) ++ (((⟨#[40]⟩ : ByteArray) ++ t28) ++ (⟨#[41]⟩ : ByteArray)))) 3 (((((⟨#[126,40]⟩ : ByteArray) ++ (((⟨#[40]⟩ : ByteArray) ++ t22) ++ (⟨#[41]⟩ : ByteArray))) ++ (⟨#[47,92]⟩ : ByteArray)) ++ (((⟨#[40]⟩ : ByteArray) ++ t28) ++ (⟨#[41]⟩ : ByteArray))) ++ (⟨#[41]⟩ : ByteArray))) 4 ((((⟨#[126]⟩ : ByteArray) ++ (((⟨#[40]⟩ : ByteArray) ++ t22) ++ (⟨#[41]⟩ : ByteArray))) ++ (⟨#[92,47,126]⟩ : ByteArray)) ++ (((⟨#[40]⟩ : ByteArray) ++ t28) ++ (⟨#[41]⟩ : ByteArray)))) 5 ((((((((⟨#[40]⟩ : ByteArray) ++ t22) ++ (⟨#[41]⟩ : ByteArray)) ++ (⟨#[47,92,40]⟩ : ByteArray)) ++ (((⟨#[40]⟩ : ByteArray) ++ t28) ++ (⟨#[41]⟩ : ByteArray))) ++ (⟨#[92,47]⟩ : ByteArray)) ++ (((⟨#[40]⟩ : ByteArray) ++ t34) ++ (⟨#[41]⟩ : ByteArray))) ++ (⟨#[41]⟩ : ByteArray))) 6 (((((((((⟨#[40]⟩ : ByteArray) ++ t22) ++ (⟨#[41]⟩ : ByteArray)) ++ (⟨#[47,92]⟩ : ByteArray)) ++ (((⟨#[40]⟩ : ByteArray) ++ t28) ++ (⟨#[41]⟩ : ByteArray))) ++ (⟨#[92,47]⟩ : ByteArray)) ++ (((⟨#[40]⟩ : ByteArray) ++ t22) ++ (⟨#[41]⟩ : ByteArray))) ++ (⟨#[47,92]⟩ : ByteArray)) ++ (((⟨#[40]⟩ : ByteArray) ++ t34) ++ (⟨#[41]⟩ : ByteArray)))) 7 ((⟨#[126,126]⟩ : ByteArray) ++ (((⟨#[40]⟩ : ByteArray) ++ t22) ++ (⟨#[41]⟩ : ByteArray)))) 8 (((((((⟨#[40]⟩ : ByteArray) ++ t22) ++ (⟨#[41]⟩ : ByteArray)) ++ (⟨#[92,47]⟩ : ByteArray)) ++ (((⟨#[40]⟩ : ByteArray) ++ t28) ++ (⟨#[41]⟩ : ByteArray))) ++ (⟨#[47,92]⟩ : ByteArray)) ++ (((⟨#[40]⟩ : ByteArray) ++ t34) ++ (⟨#[41]⟩ : ByteArray)))) t225) a3 >>= (fun (t241,t242) => (if (!t242) = true then some (.inr (false)) else (if 0 ≤ t225 ∧ t225 < 9 then (if (vget t209 t225) = true then (if (!(t241 == true)) = true then some (.inr (false)) else (weirlaw06_CondLogic.l0 a3 t22 t28 t34 t209 (IntKind.i64.wrap (t225 + 1)))) else (if (!(t241 == false)) = true then some (.inr (false)) else (weirlaw06_CondLogic.l0 a3 t22 t28 t34 t209 (IntKind.i64.wrap (t225 + 1))))) else none)))) else none) else some (.inl ()))
 partial_fixpoint
def weirlaw06_CondLogic.f (a0 a1 a2 : List api_Node) (a3 : weirlaw06_Set) : Option Bool :=
  (weirlaw06_works.f >>= (fun t5 => (if (!t5) = true then some (false) else (if (decide ((IntKind.i64.wrap ((IntKind.i64.wrap ((a0.length : Int) + (a1.length : Int))) + (a2.length : Int))) > 300)) = true then some (true) else (cond_Text.f a0 >>= (fun (t22,t23) => (cond_Text.f a1 >>= (fun (t28,t29) => (cond_Text.f a2 >>= (fun (t34,t35) => (weirlaw06_num.f t23 >>= (fun t40 => (if (t40 != 0) = true then some (true) else (weirlaw06_num.f t29 >>= (fun t51 => (if (t51 != 0) = true then some (true) else (weirlaw06_num.f t35 >>= (fun t62 => (if (t62 != 0) = true then some (true) else (weirlaw06_deep.f t22 >>= (fun t73 => (weirlaw06_deep.f t28 >>= (fun t78 => (weirlaw06_deep.f t34 >>= (fun t83 => (if (decide ((IntKind.i64.wrap ((IntKind.i64.wrap (t73 + t78)) + t83)) > 50)) = true then some (true) else (if (⟨#[40]⟩ : ByteArray).size + t22.size ≤ 9223372036854775807 then (if ((⟨#[40]⟩ : ByteArray) ++ t22).size + (⟨#[41]⟩ : ByteArray).size ≤ 9223372036854775807 then (if (⟨#[40]⟩ : ByteArray).size + t28.size ≤ 9223372036854775807 then (if ((⟨#[40]⟩ : ByteArray) ++ t28).size + (⟨#[41]⟩ : ByteArray).size ≤ 9223372036854775807 then (if (⟨#[40]⟩ : ByteArray).size + t34.size ≤ 9223372036854775807 then (if ((⟨#[40]⟩ : ByteArray) ++ t34).size + (⟨#[41]⟩ : ByteArray).size ≤ 9223372036854775807 then (weirlaw06_held.f (((⟨#[40]⟩ : ByteArray) ++ t22) ++ (⟨#[41]⟩ : ByteArray)) a3 >>= (fun (t106,t107) => (weirlaw06_held.f (((⟨#[40]⟩ : ByteArray) ++ t28) ++ (⟨#[41]⟩ : ByteArray)) a3 >>= (fun (t112,t113) => (weirlaw06_held.f (((⟨#[40]⟩ : ByteArray) ++ t34) ++ (⟨#[41]⟩ : ByteArray)) a3 >>= (fun (t118,t119) => (if (!t107) = true then some (false) else (if (!t113) = true then some (false) else (if (!t119) = true then some (false) else (if (⟨#[126]⟩ : ByteArray).size + (((⟨#[40]⟩ : ByteArray) ++ t22) ++ (⟨#[41]⟩ : ByteArray)).size ≤ 9223372036854775807 then (if (((⟨#[40]⟩ : ByteArray) ++ t22) ++ (⟨#[41]⟩ : ByteArray)).size + (⟨#[32,47,92,32]⟩ : ByteArray).size ≤ 9223372036854775807 then (if ((((⟨#[40]⟩ : ByteArray) ++ t22) ++ (⟨#[41]⟩ : ByteArray)) ++ (⟨#[32,47,92,32]⟩ : ByteArray)).size + (((⟨#[40]⟩ : ByteArray) ++ t28) ++ (⟨#[41]⟩ : ByteArray)).size ≤ 9223372036854775807 then (if (((⟨#[40]⟩ : ByteArray) ++ t22) ++ (⟨#[41]⟩ : ByteArray)).size + (⟨#[92,47]⟩ : ByteArray).size ≤ 9223372036854775807 then (if ((((⟨#[40]⟩ : ByteArray) ++ t22) ++ (⟨#[41]⟩ : ByteArray)) ++ (⟨#[92,47]⟩ : ByteArray)).size + (((⟨#[40]⟩ : ByteArray) ++ t28) ++ (⟨#[41]⟩ : ByteArray)).size ≤ 9223372036854775807 then (if (⟨#[126,40]⟩ : ByteArray).size + (((⟨#[40]⟩ : ByteArray) ++ t22) ++ (⟨#[41]⟩ : ByteArray)).size ≤ 9223372036854775807 then (if ((⟨#[126,40]⟩ : ByteArray) ++ (((⟨#[40]⟩ : ByteArray) ++ t22) ++ (⟨#[41]⟩ : ByteArray))).size + (⟨#[47,92]⟩ : ByteArray).size ≤ 9223372036854775807 then (if (((⟨#[126,40]⟩ : ByteArray) ++ (((⟨#[40]⟩ : ByteArray) ++ t22) ++ (⟨#[41]⟩ : ByteArray))) ++ (⟨#[47,92]⟩ : ByteArray)).size + (((⟨#[40]⟩ : ByteArray) ++ t28) ++ (⟨#[41]⟩ : ByteArray)).size ≤ 9223372036854775807 then (if ((((⟨#[126,40]⟩ : ByteArray) ++ (((⟨#[40]⟩ : ByteArray) ++ t22) ++ (⟨#[41]⟩ : ByteArray))) ++ (⟨#[47,92]⟩ : ByteArray)) ++ (((⟨#[40]⟩ : ByteArray) ++ t28) ++ (⟨#[41]⟩ : ByteArray))).size + (⟨#[41]⟩ : ByteArray).size ≤ 9223372036854775807 then (if (⟨#[126]⟩ : ByteArray).size + (((⟨#[40]⟩ : ByteArray) ++ t22) ++ (⟨#[41]⟩ : ByteArray)).size ≤ 9223372036854775807 then (if ((⟨#[126]⟩ : ByteArray) ++ (((⟨#[40]⟩ : ByteArray) ++ t22) ++ (⟨#[41]⟩ : ByteArray))).size + (⟨#[92,47,126]⟩ : ByteArray).size ≤ 9223372036854775807 then (if (((⟨#[126]⟩ : ByteArray) ++ (((⟨#[40]⟩ : ByteArray) ++ t22) ++ (⟨#[41]⟩ : ByteArray))) ++ (⟨#[92,47,126]⟩ : ByteArray)).size + (((⟨#[40]⟩ : ByteArray) ++ t28) ++ (⟨#[41]⟩ : ByteArray)).size ≤ 9223372036854775807 then (if (((⟨#[40]⟩ : ByteArray) ++ t22) ++ (⟨#[41]⟩ : ByteArray)).size + (⟨#[47,92,40]⟩ : ByteArray).size ≤ 9223372036854775807 then (if ((((⟨#[40]⟩ : ByteArray) ++ t22) ++ (⟨#[41]⟩ : ByteArray)) ++ (⟨#[47,92,40]⟩ : ByteArray)).size + (((⟨#[40]⟩ : ByteArray) ++ t28) ++ (⟨#[41]⟩ : ByteArray)).size ≤ 9223372036854775807 then (if (((((⟨#[40]⟩ : ByteArray) ++ t22) ++ (⟨#[41]⟩ : ByteArray)) ++ (⟨#[47,92,40]⟩ : ByteArray)) ++ (((⟨#[40]⟩ : ByteArray) ++ t28) ++ (⟨#[41]⟩ : ByteArray))).size + (⟨#[92,47]⟩ : ByteArray).size ≤ 9223372036854775807 then (if ((((((⟨#[40]⟩ : ByteArray) ++ t22) ++ (⟨#[41]⟩ : ByteArray)) ++ (⟨#[47,92,40]⟩ : ByteArray)) ++ (((⟨#[40]⟩ : ByteArray) ++ t28) ++ (⟨#[41]⟩ : ByteArray))) ++ (⟨#[92,47]⟩ : ByteArray)).size + (((⟨#[40]⟩ : ByteArray) ++ t34) ++ (⟨#[41]⟩ : ByteArray)).size ≤ 9223372036854775807 then (if (((((((⟨#[40]⟩ : ByteArray) ++ t22) ++ (⟨#[41]⟩ : ByteArray)) ++ (⟨#[47,92,40]⟩ : ByteArray)) ++ (((⟨#[40]⟩ : ByteArray) ++ t28) ++ (⟨#[41]⟩ : ByteArray))) ++ (⟨#[92,47]⟩ : ByteArray)) ++ (((⟨#[40]⟩ : ByteArray) ++ t34) ++ (⟨#[41]⟩ : ByteArray))).size + (⟨#[41]⟩ : ByteArray).size ≤ 9223372036854775807 then (if (((⟨#[40]⟩ : ByteArray) ++ t22) ++ (⟨#[41]⟩ : ByteArray)).size + (⟨#[47,92]⟩ : ByteArray).size ≤ 9223372036854775807 then (if ((((⟨#[40]⟩ : ByteArray) ++ t22) ++ (⟨#[41]⟩ : ByteArray)) ++ (⟨#[47,92]⟩ : ByteArray)).size + (((⟨#[40]⟩ : ByteArray) ++ t28) ++ (⟨#[41]⟩ : ByteArray)).size ≤ 9223372036854775807 then (if (((((⟨#[40]⟩ : ByteArray) ++ t22) ++ (⟨#[41]⟩ : ByteArray)) ++ (⟨#[47,92]⟩ : ByteArray)) ++ (((⟨#[40]⟩ : ByteArray) ++ t28) ++ (⟨#[41]⟩ : ByteArray))).size + (⟨#[92,47]⟩ : ByteArray).size ≤ 9223372036854775807 then (if ((((((⟨#[40]⟩ : ByteArray) ++ t22) ++ (⟨#[41]⟩ : ByteArray)) ++ (⟨#[47,92]⟩ : ByteArray)) ++ (((⟨#[40]⟩ : ByteArray) ++ t28) ++ (⟨#[41]⟩ : ByteArray))) ++ (⟨#[92,47]⟩ : ByteArray)).size + (((⟨#[40]⟩ : ByteArray) ++ t22) ++ (⟨#[41]⟩ : ByteArray)).size ≤ 9223372036854775807 then (if (((((((⟨#[40]⟩ : ByteArray) ++ t22) ++ (⟨#[41]⟩ : ByteArray)) ++ (⟨#[47,92]⟩ : ByteArray)) ++ (((⟨#[40]⟩ : ByteArray) ++ t28) ++ (⟨#[41]⟩ : ByteArray))) ++ (⟨#[92,47]⟩ : ByteArray)) ++ (((⟨#[40]⟩ : ByteArray) ++ t22) ++ (⟨#[41]⟩ : ByteArray))).size + (⟨#[47,92]⟩ : ByteArray).size ≤ 9223372036854775807 then (if ((((((((⟨#[40]⟩ : ByteArray) ++ t22) ++ (⟨#[41]⟩ : ByteArray)) ++ (⟨#[47,92]⟩ : ByteArray)) ++ (((⟨#[40]⟩ : ByteArray) ++ t28) ++ (⟨#[41]⟩ : ByteArray))) ++ (⟨#[92,47]⟩ : ByteArray)) ++ (((⟨#[40]⟩ : ByteArray) ++ t22) ++ (⟨#[41]⟩ : ByteArray))) ++ (⟨#[47,92]⟩ : ByteArray)).size + (((⟨#[40]⟩ : ByteArray) ++ t34) ++ (⟨#[41]⟩ : ByteArray)).size ≤ 9223372036854775807 then (if (⟨#[126,126]⟩ : ByteArray).size + (((⟨#[40]⟩ : ByteArray) ++ t22) ++ (⟨#[41]⟩ : ByteArray)).size ≤ 9223372036854775807 then (if (((⟨#[40]⟩ : ByteArray) ++ t22) ++ (⟨#[41]⟩ : ByteArray)).size + (⟨#[92,47]⟩ : ByteArray).size ≤ 9223372036854775807 then (if ((((⟨#[40]⟩ : ByteArray) ++ t22) ++ (⟨#[41]⟩ : ByteArray)) ++ (⟨#[92,47]⟩ : ByteArray)).size + (((⟨#[40]⟩ : ByteArray) ++ t28) ++ (⟨#[41]⟩ : ByteArray)).size ≤ 9223372036854775807 then (if (((((⟨#[40]⟩ : ByteArray) ++ t22) ++ (⟨#[41]⟩ : ByteArray)) ++ (⟨#[92,47]⟩ : ByteArray)) ++ (((⟨#[40]⟩ : ByteArray) ++ t28) ++ (⟨#[41]⟩ : ByteArray))).size + (⟨#[47,92]⟩ : ByteArray).size ≤ 9223372036854775807 then (if ((((((⟨#[40]⟩ : ByteArray) ++ t22) ++ (⟨#[41]⟩ : ByteArray)) ++ (⟨#[92,47]⟩ : ByteArray)) ++ (((⟨#[40]⟩ : ByteArray) ++ t28) ++ (⟨#[41]⟩ : ByteArray))) ++ (⟨#[47,92]⟩ : ByteArray)).size + (((⟨#[40]⟩ : ByteArray) ++ t34) ++ (⟨#[41]⟩ : ByteArray)).size ≤ 9223372036854775807 then (((if (!t106) = true then (if t106 = true then (if (!t112) = true then (if (!t112) = true then (if t112 = true then some ((vset (vset (vset (vset (vset (vset (vset (vset (vset (Vector.replicate 9 false) 0 true) 1 true) 2 true) 3 true) 4 true) 5 true) 6 true) 7 true) 8 true)) else some ((vset (vset (vset (vset (vset (vset (vset (vset (vset (Vector.replicate 9 false) 0 true) 1 false) 2 true) 3 true) 4 true) 5 t118) 6 t118) 7 true) 8 true))) else (if t112 = true then some ((vset (vset (vset (vset (vset (vset (vset (vset (vset (Vector.replicate 9 false) 0 true) 1 true) 2 true) 3 true) 4 false) 5 true) 6 true) 7 true) 8 true)) else some ((vset (vset (vset (vset (vset (vset (vset (vset (vset (Vector.replicate 9 false) 0 true) 1 false) 2 true) 3 true) 4 false) 5 t118) 6 t118) 7 true) 8 true)))) else (if (!t112) = true then (if t112 = true then some ((vset (vset (vset (vset (vset (vset (vset (vset (vset (Vector.replicate 9 false) 0 true) 1 true) 2 true) 3 false) 4 true) 5 true) 6 true) 7 true) 8 true)) else some ((vset (vset (vset (vset (vset (vset (vset (vset (vset (Vector.replicate 9 false) 0 true) 1 false) 2 true) 3 false) 4 true) 5 t118) 6 t118) 7 true) 8 true))) else (if t112 = true then some ((vset (vset (vset (vset (vset (vset (vset (vset (vset (Vector.replicate 9 false) 0 true) 1 true) 2 true) 3 false) 4 false) 5 true) 6 true) 7 true) 8 true)) else some ((vset (vset (vset (vset (vset (vset (vset (vset (vset (Vector.replicate 9 false) 0 true) 1 false) 2 true) 3 false) 4 false) 5 t118) 6 t118) 7 true) 8 true))))) else (if t112 = true then some ((vset (vset (vset (vset (vset (vset (vset (vset (vset (Vector.replicate 9 false) 0 true) 1 false) 2 true) 3 true) 4 true) 5 false) 6 false) 7 false) 8 t118)) else some ((vset (vset (vset (vset (vset (vset (vset (vset (vset (Vector.replicate 9 false) 0 true) 1 false) 2 false) 3 true) 4 true) 5 false) 6 false) 7 false) 8 false)))) else (if t106 = true then (if (!t112) = true then (if (!t112) = true then (if t112 = true then some ((vset (vset (vset (vset (vset (vset (vset (vset (vset (Vector.replicate 9 false) 0 false) 1 true) 2 true) 3 true) 4 true) 5 true) 6 true) 7 true) 8 true)) else some ((vset (vset (vset (vset (vset (vset (vset (vset (vset (Vector.replicate 9 false) 0 false) 1 false) 2 true) 3 true) 4 true) 5 t118) 6 t118) 7 true) 8 true))) else (if t112 = true then some ((vset (vset (vset (vset (vset (vset (vset (vset (vset (Vector.replicate 9 false) 0 false) 1 true) 2 true) 3 true) 4 false) 5 true) 6 true) 7 true) 8 true)) else some ((vset (vset (vset (vset (vset (vset (vset (vset (vset (Vector.replicate 9 false) 0 false) 1 false) 2 true) 3 true) 4 false) 5 t118) 6 t118) 7 true) 8 true)))) else (if (!t112) = true then (if t112 = true then some ((vset (vset (vset (vset (vset (vset (vset (vset (vset (Vector.replicate 9 false) 0 false) 1 true) 2 true) 3 false) 4 true) 5 true) 6 true) 7 true) 8 true)) else some ((vset (vset (vset (vset (vset (vset (vset (vset (vset (Vector.replicate 9 false) 0 false) 1 false) 2 true) 3 false) 4 true) 5 t118) 6 t118) 7 true) 8 true))) else (if t112 = true then some ((vset (vset (vset (vset (vset (vset (vset (vset (vset (Vector.replicate 9 false) 0 false) 1 true) 2 true) 3 false) 4 false) 5 true) 6 true) 7 true) 8 true)) else some ((vset (vset (vset (vset (vset (vset (vset (vset (vset (Vector.replicate 9 false) 0 false) 1 false) 2 true) 3 false) 4 false) 5 t118) 6 t118) 7 true) 8 true))))) else (if t112 = true then some ((vset (vset (vset (vset (vset (vset (vset (vset (vset (Vector.replicate 9 false) 0 false) 1 false) 2 true) 3 true) 4 true) 5 false) 6 false) 7 false) 8 t118)) else some ((vset (vset (vset (vset (vset (vset (vset (vset (vset (Vector.replicate 9 false) 0 false) 1 false) 2 false) 3 true) 4 true) 5 false) 6 false) 7 false) 8 false))))) : Option (Vector Bool 9)) >>= (fun t209 => (weirlaw06_CondLogic.l0 a3 t22 t28 t34 t209 0 >>= (fun | .inl () => some (true) | .inr e => some e)))) else none) else none) else none) else none) else none) else none) else none) else none) else none) else none) else none) else none) else none) else none) else none) else none) else none) else none) else none) else none) else none) else none) else none) else none) else none) else none) else none) else none)))))))))) else none) else none) else none) else none) else none) else none)))))))))))))))))))))))))))
theorem weirlaw06_CondLogic.ok (a0 a1 a2 : List api_Node) (a3 : weirlaw06_Set) (Aa0 : Option Addr) (ca0 : Nat) (Aa1 : Option Addr) (ca1 : Nat) (Aa2 : Option Addr) (ca2 : Nat) (y25 : Option Addr) (y26 : Nat) (y27 : Option Addr) (y28 : Nat) (hS0 : St w0 Z (fs) w) (ha0 : SlZ (flat enc_api_Node) 6 Z Aa0 ca0 a0) (ha1 : SlZ (flat enc_api_Node) 6 Z Aa1 ca1 a1) (ha2 : SlZ (flat enc_api_Node) 6 Z Aa2 ca2 a2) (y29 : SlZ (flat enc_api_Ref) 2 Z y25 y26 a3.Refs) (y30 : SlZ (flat (encI .i64)) 1 Z y27 y28 a3.Values) (hE : Env Z) {q0 : Bool} (hp0 : weirlaw06_CondLogic.f a0 a1 a2 a3 = some q0) :
    Calls Tryz.prog 5 #[.slice Aa0 a0.length ca0,.slice Aa1 a1.length ca1,.slice Aa2 a2.length ca2,.agg #[.slice y25 a3.Refs.length y26,.slice y27 a3.Values.length y28,.int .i64 a3.Rest]] w (fun e w' => e = .returned (.bool q0) ∧ St w0 Z (fs) w'):=by
  refine calls_abs ?_; intro R hR
  unfold weirlaw06_CondLogic.f at hp0
  refine calls_of_runs (fn:=Tryz.f5) (c:=cd5 []) Tryz.func5 (by kernel_rfl) (al:=[.slice Aa0 a0.length ca0,.slice Aa1 a1.length ca1,.slice Aa2 a2.length ca2,.agg #[.slice y25 a3.Refs.length y26,.slice y27 a3.Values.length y28,.int .i64 a3.Rest]]) rfl (n:=226) rfl ?_
  refine sR 2 [.inRegion (opsOf (cd5 [0])) [0,1],.code (cd5 [1])] ?_
  refine r_box (c:=(cd5 [0])) (i:=0) (d:=(some 7)) (ty:=0) (x:=(.tmp 3)) (v:=.agg #[.slice y25 a3.Refs.length y26,.slice y27 a3.Values.length y28,.int .i64 a3.Rest]) (t:=46) (cs:=[.slice y25 a3.Refs.length y26,.slice y27 a3.Values.length y28,.int .i64 a3.Rest]) hS0 (by kernel_rfl) (by kernel_rfl) (by kernel_rfl) (by kernel_rfl) ?_
  intro b1 w2 hS3
  refine sR 5 [.inRegion (opsOf (cd5 [1,0,0])) [0,1],.code (cd5 [1,0,1]),.code (cd5 [1,1])] ?_
  obtain ⟨t5,hr6,hp7⟩:=bind_some' hp0
  refine rC (weirlaw06_works.ok hr6 hS3 hE) ?_
  rintro _ w8 ⟨rfl,hS9⟩
  refine ⟨_,rfl,?_⟩
  refine sI 1 [.inRegion (opsOf (cd5 [1,0,0])) [],.code (cd5 [1,0,1]),.code (cd5 [1,1])] 27 hp7 (fun hp12 => ?_) fun hp15 => ?_
  ·refine sR 6 [.code (cd5 [1,0,1,0,1]),.code (cd5 [1,1])] ?_
   have hS13:=hS9.drop
   refine rR (.bool false) Tryz.func5 ?_
   cases Option.some.inj hp12
   exact hR _ _ ⟨rfl,hS13⟩
  refine sI 15 [.inRegion (opsOf (cd5 [1,1,0,0])) [],.code (cd5 [1,1,0,1]),.code (cd5 [1,1,1])] 36 hp15 (fun hp18 => ?_) fun hp21 => ?_
  ·refine sR 6 [.code (cd5 [1,1,0,1,0,1]),.code (cd5 [1,1,1])] ?_
   have hS19:=hS9.drop
   refine rR (.bool true) Tryz.func5 ?_
   cases Option.some.inj hp18
   exact hR _ _ ⟨rfl,hS19⟩
  refine sR 6 [iR (cd5 [1,1,1,0]) 1 6,.code (cd5 [1,1,1,1])] ?_
  obtain ⟨⟨t22,t23⟩,hr24,hp25⟩:=bind_some' hp21
  try dsimp only at hp25
  refine rC (cond_Text.ok hr24 hS9 ha0 hE) ?_
  rintro _ w26 ⟨rfl,hS27⟩
  refine ⟨_,rfl,?_⟩
  refine sR 9 [iR (cd5 [1,1,1,1,0]) 1 6,.code (cd5 [1,1,1,1,1])] ?_
  obtain ⟨⟨t28,t29⟩,hr30,hp31⟩:=bind_some' hp25
  try dsimp only at hp31
  refine rC (cond_Text.ok hr30 hS27 ha1 hE) ?_
  rintro _ w32 ⟨rfl,hS33⟩
  refine ⟨_,rfl,?_⟩
  refine sR 9 [iR (cd5 [1,1,1,1,1,0]) 1 6,.code (cd5 [1,1,1,1,1,1])] ?_
  obtain ⟨⟨t34,t35⟩,hr36,hp37⟩:=bind_some' hp31
  try dsimp only at hp37
  refine rC (cond_Text.ok hr36 hS33 ha2 hE) ?_
  rintro _ w38 ⟨rfl,hS39⟩
  refine ⟨_,rfl,?_⟩
  refine sR 10 (iR p5_16 1 23::td248) ?_
  obtain ⟨t40,hr41,hp42⟩:=bind_some' hp37
  refine rC (weirlaw06_num.ok hr41 hS39) ?_
  rintro _ w43 ⟨rfl,hS44⟩
  refine ⟨_,rfl,?_⟩
  refine sI 1 (iR p5_16 3 21::td248) 54 hp42 (fun hp47 => ?_) fun hp50 => ?_
  ·refine sR 27 td249 ?_
   have hS48:=hS44.drop
   refine rR (.bool true) Tryz.func5 ?_
   cases Option.some.inj hp47
   exact hR _ _ ⟨rfl,hS48⟩
  refine sR 2 (iR p5_16 5 19::td248) ?_
  obtain ⟨t51,hr52,hp53⟩:=bind_some' hp50
  refine rC (weirlaw06_num.ok hr52 hS44) ?_
  rintro _ w54 ⟨rfl,hS55⟩
  refine ⟨_,rfl,?_⟩
  refine sI 1 (iR p5_16 7 17::td248) 58 hp53 (fun hp58 => ?_) fun hp61 => ?_
  ·refine sR 23 td249 ?_
   have hS59:=hS55.drop
   refine rR (.bool true) Tryz.func5 ?_
   cases Option.some.inj hp58
   exact hR _ _ ⟨rfl,hS59⟩
  refine sR 3 (iR p5_16 10 14::td248) ?_
  obtain ⟨t62,hr63,hp64⟩:=bind_some' hp61
  refine rC (weirlaw06_num.ok hr63 hS55) ?_
  rintro _ w65 ⟨rfl,hS66⟩
  refine ⟨_,rfl,?_⟩
  refine sI 1 (iR p5_16 12 12::td248) 63 hp64 (fun hp69 => ?_) fun hp72 => ?_
  ·refine sR 18 td249 ?_
   have hS70:=hS66.drop
   refine rR (.bool true) Tryz.func5 ?_
   cases Option.some.inj hp69
   exact hR _ _ ⟨rfl,hS70⟩
  refine sR 3 (iR p5_16 15 9::td248) ?_
  obtain ⟨t73,hr74,hp75⟩:=bind_some' hp72
  refine rC (weirlaw06_deep.ok hr74 hS66) ?_
  rintro _ w76 ⟨rfl,hS77⟩
  refine ⟨_,rfl,?_⟩
  refine sR 1 (iR p5_16 17 7::td248) ?_
  obtain ⟨t78,hr79,hp80⟩:=bind_some' hp75
  refine rC (weirlaw06_deep.ok hr79 hS77) ?_
  rintro _ w81 ⟨rfl,hS82⟩
  refine ⟨_,rfl,?_⟩
  refine sR 2 (iR p5_16 20 4::td248) ?_
  obtain ⟨t83,hr84,hp85⟩:=bind_some' hp80
  refine rC (weirlaw06_deep.ok hr84 hS82) ?_
  rintro _ w86 ⟨rfl,hS87⟩
  refine ⟨_,rfl,?_⟩
  refine sI 2 (.inRegion (opsOf p5_16) [23]::td248) 74 hp85 (fun hp90 => ?_) fun hp93 => ?_
  ·refine sR 7 td249 ?_
   have hS91:=hS87.drop
   refine rR (.bool true) Tryz.func5 ?_
   cases Option.some.inj hp90
   exact hR _ _ ⟨rfl,hS91⟩
  refine sR 7 [.inRegion (opsOf (cd5 [1,1,1,1,1,1,1,0])) [1,2,3],.code (cd5 [1,1,1,1,1,1,1,1])] ?_
  obtain ⟨g94,hp95⟩:=ite_some hp93
  refine rV (.binOp .add 9 (.const (.string (⟨#[40]⟩ : ByteArray))) (.tmp 76) 9) (.string ((⟨#[40]⟩ : ByteArray) ++ t22)) (fun o ho _ => x_concat (by kernel_rfl) (by kernel_rfl) g94 ho) ?_
  obtain ⟨g96,hp97⟩:=ite_some hp95
  refine rV (.binOp .add 9 (.tmp 77) (.const (.string (⟨#[41]⟩ : ByteArray))) 9) (.string (((⟨#[40]⟩ : ByteArray) ++ t22) ++ (⟨#[41]⟩ : ByteArray))) (fun o ho _ => x_concat (by kernel_rfl) (by kernel_rfl) g96 ho) ?_
  refine sR 5 [.inRegion (opsOf (cd5 [1,1,1,1,1,1,1,1,0])) [1,2,3],.code (cd5 [1,1,1,1,1,1,1,1,1])] ?_
  obtain ⟨g98,hp99⟩:=ite_some hp97
  refine rV (.binOp .add 9 (.const (.string (⟨#[40]⟩ : ByteArray))) (.tmp 79) 9) (.string ((⟨#[40]⟩ : ByteArray) ++ t28)) (fun o ho _ => x_concat (by kernel_rfl) (by kernel_rfl) g98 ho) ?_
  obtain ⟨g100,hp101⟩:=ite_some hp99
  refine rV (.binOp .add 9 (.tmp 80) (.const (.string (⟨#[41]⟩ : ByteArray))) 9) (.string (((⟨#[40]⟩ : ByteArray) ++ t28) ++ (⟨#[41]⟩ : ByteArray))) (fun o ho _ => x_concat (by kernel_rfl) (by kernel_rfl) g100 ho) ?_
  refine sR 5 [.inRegion (opsOf (cd5 [1,1,1,1,1,1,1,1,1,0])) [1,2,3],.code (cd5 [1,1,1,1,1,1,1,1,1,1])] ?_
  obtain ⟨g102,hp103⟩:=ite_some hp101
  refine rV (.binOp .add 9 (.const (.string (⟨#[40]⟩ : ByteArray))) (.tmp 82) 9) (.string ((⟨#[40]⟩ : ByteArray) ++ t34)) (fun o ho _ => x_concat (by kernel_rfl) (by kernel_rfl) g102 ho) ?_
  obtain ⟨g104,hp105⟩:=ite_some hp103
  refine rV (.binOp .add 9 (.tmp 83) (.const (.string (⟨#[41]⟩ : ByteArray))) 9) (.string (((⟨#[40]⟩ : ByteArray) ++ t34) ++ (⟨#[41]⟩ : ByteArray))) (fun o ho _ => x_concat (by kernel_rfl) (by kernel_rfl) g104 ho) ?_
  refine sR 5 [iR (cd5 [1,1,1,1,1,1,1,1,1,1,0]) 1 7,.code (cd5 [1,1,1,1,1,1,1,1,1,1,1])] ?_
  refine rLa 46 (.tmp 7) (hS87.blk 0 rfl) ?_
  obtain ⟨⟨t106,t107⟩,hr108,hp109⟩:=bind_some' hp105
  try dsimp only at hp109
  refine rC (weirlaw06_held.ok hr108 hS87 y29 y30 hE) ?_
  rintro _ w110 ⟨rfl,hS111⟩
  refine ⟨_,rfl,?_⟩
  refine sR 9 [iR (cd5 [1,1,1,1,1,1,1,1,1,1,1,0]) 1 7,.code (cd5 [1,1,1,1,1,1,1,1,1,1,1,1])] ?_
  refine rLa 46 (.tmp 7) (hS111.blk 0 rfl) ?_
  obtain ⟨⟨t112,t113⟩,hr114,hp115⟩:=bind_some' hp109
  try dsimp only at hp115
  refine rC (weirlaw06_held.ok hr114 hS111 y29 y30 hE) ?_
  rintro _ w116 ⟨rfl,hS117⟩
  refine ⟨_,rfl,?_⟩
  refine sR 9 [iR (cd5 [1,1,1,1,1,1,1,1,1,1,1,1,0]) 1 7,.code (cd5 [1,1,1,1,1,1,1,1,1,1,1,1,1])] ?_
  refine rLa 46 (.tmp 7) (hS117.blk 0 rfl) ?_
  obtain ⟨⟨t118,t119⟩,hr120,hp121⟩:=bind_some' hp115
  try dsimp only at hp121
  refine rC (weirlaw06_held.ok hr120 hS117 y29 y30 hE) ?_
  rintro _ w122 ⟨rfl,hS123⟩
  refine ⟨_,rfl,?_⟩
  refine sI 11 (iR p5_32 2 8::td251) 104 hp121 (fun hp126 => ?_) fun hp129 => ?_
  ·refine sR 14 td252 ?_
   refine r_isret (c:=p5_35) (by kernel_rfl) ?_
   have hS127:=hS123.drop
   refine rR (.bool false) Tryz.func5 ?_
   cases Option.some.inj hp126
   exact hR _ _ ⟨rfl,hS127⟩
  refine sI 3 (iR p5_32 5 5::td251) 107 hp129 (fun hp132 => ?_) fun hp135 => ?_
  ·refine sR 11 td252 ?_
   refine r_isret (c:=p5_35) (by kernel_rfl) ?_
   have hS133:=hS123.drop
   refine rR (.bool false) Tryz.func5 ?_
   cases Option.some.inj hp132
   exact hR _ _ ⟨rfl,hS133⟩
  refine sI 4 (.inRegion (opsOf p5_32) [9]::td251) 111 hp135 (fun hp138 => ?_) fun hp141 => ?_
  ·refine sR 7 td252 ?_
   refine r_isret (c:=p5_35) (by kernel_rfl) ?_
   have hS139:=hS123.drop
   refine rR (.bool false) Tryz.func5 ?_
   cases Option.some.inj hp138
   exact hR _ _ ⟨rfl,hS139⟩
  refine sR 7 (iR p5_36 1 50::td253) ?_
  obtain ⟨g142,hp143⟩:=ite_some hp141
  refine rV (.binOp .add 9 (.const (.string (⟨#[126]⟩ : ByteArray))) (.tmp 113) 9) (.string ((⟨#[126]⟩ : ByteArray) ++ (((⟨#[40]⟩ : ByteArray) ++ t22) ++ (⟨#[41]⟩ : ByteArray)))) (fun o ho _ => x_concat (by kernel_rfl) (by kernel_rfl) g142 ho) ?_
  refine sR 1 (iR p5_36 3 48::td253) ?_
  obtain ⟨g144,hp145⟩:=ite_some hp143
  refine rV (.binOp .add 9 (.tmp 115) (.const (.string (⟨#[32,47,92,32]⟩ : ByteArray))) 9) (.string ((((⟨#[40]⟩ : ByteArray) ++ t22) ++ (⟨#[41]⟩ : ByteArray)) ++ (⟨#[32,47,92,32]⟩ : ByteArray))) (fun o ho _ => x_concat (by kernel_rfl) (by kernel_rfl) g144 ho) ?_
  refine sR 1 (iR p5_36 5 46::td253) ?_
  obtain ⟨g146,hp147⟩:=ite_some hp145
  refine rV (.binOp .add 9 (.tmp 116) (.tmp 117) 9) (.string (((((⟨#[40]⟩ : ByteArray) ++ t22) ++ (⟨#[41]⟩ : ByteArray)) ++ (⟨#[32,47,92,32]⟩ : ByteArray)) ++ (((⟨#[40]⟩ : ByteArray) ++ t28) ++ (⟨#[41]⟩ : ByteArray)))) (fun o ho _ => x_concat (by kernel_rfl) (by kernel_rfl) g146 ho) ?_
  refine sR 1 (iR p5_36 7 44::td253) ?_
  obtain ⟨g148,hp149⟩:=ite_some hp147
  refine rV (.binOp .add 9 (.tmp 119) (.const (.string (⟨#[92,47]⟩ : ByteArray))) 9) (.string ((((⟨#[40]⟩ : ByteArray) ++ t22) ++ (⟨#[41]⟩ : ByteArray)) ++ (⟨#[92,47]⟩ : ByteArray))) (fun o ho _ => x_concat (by kernel_rfl) (by kernel_rfl) g148 ho) ?_
  refine sR 1 (iR p5_36 9 42::td253) ?_
  obtain ⟨g150,hp151⟩:=ite_some hp149
  refine rV (.binOp .add 9 (.tmp 120) (.tmp 121) 9) (.string (((((⟨#[40]⟩ : ByteArray) ++ t22) ++ (⟨#[41]⟩ : ByteArray)) ++ (⟨#[92,47]⟩ : ByteArray)) ++ (((⟨#[40]⟩ : ByteArray) ++ t28) ++ (⟨#[41]⟩ : ByteArray)))) (fun o ho _ => x_concat (by kernel_rfl) (by kernel_rfl) g150 ho) ?_
  refine sR 1 (iR p5_36 11 40::td253) ?_
  obtain ⟨g152,hp153⟩:=ite_some hp151
  refine rV (.binOp .add 9 (.const (.string (⟨#[126,40]⟩ : ByteArray))) (.tmp 123) 9) (.string ((⟨#[126,40]⟩ : ByteArray) ++ (((⟨#[40]⟩ : ByteArray) ++ t22) ++ (⟨#[41]⟩ : ByteArray)))) (fun o ho _ => x_concat (by kernel_rfl) (by kernel_rfl) g152 ho) ?_
  obtain ⟨g154,hp155⟩:=ite_some hp153
  refine rV (.binOp .add 9 (.tmp 124) (.const (.string (⟨#[47,92]⟩ : ByteArray))) 9) (.string (((⟨#[126,40]⟩ : ByteArray) ++ (((⟨#[40]⟩ : ByteArray) ++ t22) ++ (⟨#[41]⟩ : ByteArray))) ++ (⟨#[47,92]⟩ : ByteArray))) (fun o ho _ => x_concat (by kernel_rfl) (by kernel_rfl) g154 ho) ?_
  refine sR 1 (iR p5_36 14 37::td253) ?_
  obtain ⟨g156,hp157⟩:=ite_some hp155
  refine rV (.binOp .add 9 (.tmp 125) (.tmp 126) 9) (.string ((((⟨#[126,40]⟩ : ByteArray) ++ (((⟨#[40]⟩ : ByteArray) ++ t22) ++ (⟨#[41]⟩ : ByteArray))) ++ (⟨#[47,92]⟩ : ByteArray)) ++ (((⟨#[40]⟩ : ByteArray) ++ t28) ++ (⟨#[41]⟩ : ByteArray)))) (fun o ho _ => x_concat (by kernel_rfl) (by kernel_rfl) g156 ho) ?_
  obtain ⟨g158,hp159⟩:=ite_some hp157
  refine rV (.binOp .add 9 (.tmp 127) (.const (.string (⟨#[41]⟩ : ByteArray))) 9) (.string (((((⟨#[126,40]⟩ : ByteArray) ++ (((⟨#[40]⟩ : ByteArray) ++ t22) ++ (⟨#[41]⟩ : ByteArray))) ++ (⟨#[47,92]⟩ : ByteArray)) ++ (((⟨#[40]⟩ : ByteArray) ++ t28) ++ (⟨#[41]⟩ : ByteArray))) ++ (⟨#[41]⟩ : ByteArray))) (fun o ho _ => x_concat (by kernel_rfl) (by kernel_rfl) g158 ho) ?_
  refine sR 1 (iR p5_36 17 34::td253) ?_
  obtain ⟨g160,hp161⟩:=ite_some hp159
  refine rV (.binOp .add 9 (.const (.string (⟨#[126]⟩ : ByteArray))) (.tmp 129) 9) (.string ((⟨#[126]⟩ : ByteArray) ++ (((⟨#[40]⟩ : ByteArray) ++ t22) ++ (⟨#[41]⟩ : ByteArray)))) (fun o ho _ => x_concat (by kernel_rfl) (by kernel_rfl) g160 ho) ?_
  obtain ⟨g162,hp163⟩:=ite_some hp161
  refine rV (.binOp .add 9 (.tmp 130) (.const (.string (⟨#[92,47,126]⟩ : ByteArray))) 9) (.string (((⟨#[126]⟩ : ByteArray) ++ (((⟨#[40]⟩ : ByteArray) ++ t22) ++ (⟨#[41]⟩ : ByteArray))) ++ (⟨#[92,47,126]⟩ : ByteArray))) (fun o ho _ => x_concat (by kernel_rfl) (by kernel_rfl) g162 ho) ?_
  refine sR 1 (iR p5_36 20 31::td253) ?_
  obtain ⟨g164,hp165⟩:=ite_some hp163
  refine rV (.binOp .add 9 (.tmp 131) (.tmp 132) 9) (.string ((((⟨#[126]⟩ : ByteArray) ++ (((⟨#[40]⟩ : ByteArray) ++ t22) ++ (⟨#[41]⟩ : ByteArray))) ++ (⟨#[92,47,126]⟩ : ByteArray)) ++ (((⟨#[40]⟩ : ByteArray) ++ t28) ++ (⟨#[41]⟩ : ByteArray)))) (fun o ho _ => x_concat (by kernel_rfl) (by kernel_rfl) g164 ho) ?_
  refine sR 1 (iR p5_36 22 29::td253) ?_
  obtain ⟨g166,hp167⟩:=ite_some hp165
  refine rV (.binOp .add 9 (.tmp 134) (.const (.string (⟨#[47,92,40]⟩ : ByteArray))) 9) (.string ((((⟨#[40]⟩ : ByteArray) ++ t22) ++ (⟨#[41]⟩ : ByteArray)) ++ (⟨#[47,92,40]⟩ : ByteArray))) (fun o ho _ => x_concat (by kernel_rfl) (by kernel_rfl) g166 ho) ?_
  refine sR 1 (iR p5_36 24 27::td253) ?_
  obtain ⟨g168,hp169⟩:=ite_some hp167
  refine rV (.binOp .add 9 (.tmp 135) (.tmp 136) 9) (.string (((((⟨#[40]⟩ : ByteArray) ++ t22) ++ (⟨#[41]⟩ : ByteArray)) ++ (⟨#[47,92,40]⟩ : ByteArray)) ++ (((⟨#[40]⟩ : ByteArray) ++ t28) ++ (⟨#[41]⟩ : ByteArray)))) (fun o ho _ => x_concat (by kernel_rfl) (by kernel_rfl) g168 ho) ?_
  obtain ⟨g170,hp171⟩:=ite_some hp169
  refine rV (.binOp .add 9 (.tmp 137) (.const (.string (⟨#[92,47]⟩ : ByteArray))) 9) (.string ((((((⟨#[40]⟩ : ByteArray) ++ t22) ++ (⟨#[41]⟩ : ByteArray)) ++ (⟨#[47,92,40]⟩ : ByteArray)) ++ (((⟨#[40]⟩ : ByteArray) ++ t28) ++ (⟨#[41]⟩ : ByteArray))) ++ (⟨#[92,47]⟩ : ByteArray))) (fun o ho _ => x_concat (by kernel_rfl) (by kernel_rfl) g170 ho) ?_
  refine sR 1 (iR p5_36 27 24::td253) ?_
  obtain ⟨g172,hp173⟩:=ite_some hp171
  refine rV (.binOp .add 9 (.tmp 138) (.tmp 139) 9) (.string (((((((⟨#[40]⟩ : ByteArray) ++ t22) ++ (⟨#[41]⟩ : ByteArray)) ++ (⟨#[47,92,40]⟩ : ByteArray)) ++ (((⟨#[40]⟩ : ByteArray) ++ t28) ++ (⟨#[41]⟩ : ByteArray))) ++ (⟨#[92,47]⟩ : ByteArray)) ++ (((⟨#[40]⟩ : ByteArray) ++ t34) ++ (⟨#[41]⟩ : ByteArray)))) (fun o ho _ => x_concat (by kernel_rfl) (by kernel_rfl) g172 ho) ?_
  obtain ⟨g174,hp175⟩:=ite_some hp173
  refine rV (.binOp .add 9 (.tmp 140) (.const (.string (⟨#[41]⟩ : ByteArray))) 9) (.string ((((((((⟨#[40]⟩ : ByteArray) ++ t22) ++ (⟨#[41]⟩ : ByteArray)) ++ (⟨#[47,92,40]⟩ : ByteArray)) ++ (((⟨#[40]⟩ : ByteArray) ++ t28) ++ (⟨#[41]⟩ : ByteArray))) ++ (⟨#[92,47]⟩ : ByteArray)) ++ (((⟨#[40]⟩ : ByteArray) ++ t34) ++ (⟨#[41]⟩ : ByteArray))) ++ (⟨#[41]⟩ : ByteArray))) (fun o ho _ => x_concat (by kernel_rfl) (by kernel_rfl) g174 ho) ?_
  refine sR 1 (iR p5_36 30 21::td253) ?_
  obtain ⟨g176,hp177⟩:=ite_some hp175
  refine rV (.binOp .add 9 (.tmp 142) (.const (.string (⟨#[47,92]⟩ : ByteArray))) 9) (.string ((((⟨#[40]⟩ : ByteArray) ++ t22) ++ (⟨#[41]⟩ : ByteArray)) ++ (⟨#[47,92]⟩ : ByteArray))) (fun o ho _ => x_concat (by kernel_rfl) (by kernel_rfl) g176 ho) ?_
  refine sR 1 (iR p5_36 32 19::td253) ?_
  obtain ⟨g178,hp179⟩:=ite_some hp177
  refine rV (.binOp .add 9 (.tmp 143) (.tmp 144) 9) (.string (((((⟨#[40]⟩ : ByteArray) ++ t22) ++ (⟨#[41]⟩ : ByteArray)) ++ (⟨#[47,92]⟩ : ByteArray)) ++ (((⟨#[40]⟩ : ByteArray) ++ t28) ++ (⟨#[41]⟩ : ByteArray)))) (fun o ho _ => x_concat (by kernel_rfl) (by kernel_rfl) g178 ho) ?_
  obtain ⟨g180,hp181⟩:=ite_some hp179
  refine rV (.binOp .add 9 (.tmp 145) (.const (.string (⟨#[92,47]⟩ : ByteArray))) 9) (.string ((((((⟨#[40]⟩ : ByteArray) ++ t22) ++ (⟨#[41]⟩ : ByteArray)) ++ (⟨#[47,92]⟩ : ByteArray)) ++ (((⟨#[40]⟩ : ByteArray) ++ t28) ++ (⟨#[41]⟩ : ByteArray))) ++ (⟨#[92,47]⟩ : ByteArray))) (fun o ho _ => x_concat (by kernel_rfl) (by kernel_rfl) g180 ho) ?_
  refine sR 1 (iR p5_36 35 16::td253) ?_
  obtain ⟨g182,hp183⟩:=ite_some hp181
  refine rV (.binOp .add 9 (.tmp 146) (.tmp 147) 9) (.string (((((((⟨#[40]⟩ : ByteArray) ++ t22) ++ (⟨#[41]⟩ : ByteArray)) ++ (⟨#[47,92]⟩ : ByteArray)) ++ (((⟨#[40]⟩ : ByteArray) ++ t28) ++ (⟨#[41]⟩ : ByteArray))) ++ (⟨#[92,47]⟩ : ByteArray)) ++ (((⟨#[40]⟩ : ByteArray) ++ t22) ++ (⟨#[41]⟩ : ByteArray)))) (fun o ho _ => x_concat (by kernel_rfl) (by kernel_rfl) g182 ho) ?_
  obtain ⟨g184,hp185⟩:=ite_some hp183
  refine rV (.binOp .add 9 (.tmp 148) (.const (.string (⟨#[47,92]⟩ : ByteArray))) 9) (.string ((((((((⟨#[40]⟩ : ByteArray) ++ t22) ++ (⟨#[41]⟩ : ByteArray)) ++ (⟨#[47,92]⟩ : ByteArray)) ++ (((⟨#[40]⟩ : ByteArray) ++ t28) ++ (⟨#[41]⟩ : ByteArray))) ++ (⟨#[92,47]⟩ : ByteArray)) ++ (((⟨#[40]⟩ : ByteArray) ++ t22) ++ (⟨#[41]⟩ : ByteArray))) ++ (⟨#[47,92]⟩ : ByteArray))) (fun o ho _ => x_concat (by kernel_rfl) (by kernel_rfl) g184 ho) ?_
  refine sR 1 (iR p5_36 38 13::td253) ?_
  obtain ⟨g186,hp187⟩:=ite_some hp185
  refine rV (.binOp .add 9 (.tmp 149) (.tmp 150) 9) (.string (((((((((⟨#[40]⟩ : ByteArray) ++ t22) ++ (⟨#[41]⟩ : ByteArray)) ++ (⟨#[47,92]⟩ : ByteArray)) ++ (((⟨#[40]⟩ : ByteArray) ++ t28) ++ (⟨#[41]⟩ : ByteArray))) ++ (⟨#[92,47]⟩ : ByteArray)) ++ (((⟨#[40]⟩ : ByteArray) ++ t22) ++ (⟨#[41]⟩ : ByteArray))) ++ (⟨#[47,92]⟩ : ByteArray)) ++ (((⟨#[40]⟩ : ByteArray) ++ t34) ++ (⟨#[41]⟩ : ByteArray)))) (fun o ho _ => x_concat (by kernel_rfl) (by kernel_rfl) g186 ho) ?_
  refine sR 1 (iR p5_36 40 11::td253) ?_
  obtain ⟨g188,hp189⟩:=ite_some hp187
  refine rV (.binOp .add 9 (.const (.string (⟨#[126,126]⟩ : ByteArray))) (.tmp 152) 9) (.string ((⟨#[126,126]⟩ : ByteArray) ++ (((⟨#[40]⟩ : ByteArray) ++ t22) ++ (⟨#[41]⟩ : ByteArray)))) (fun o ho _ => x_concat (by kernel_rfl) (by kernel_rfl) g188 ho) ?_
  refine sR 1 (iR p5_36 42 9::td253) ?_
  obtain ⟨g190,hp191⟩:=ite_some hp189
  refine rV (.binOp .add 9 (.tmp 154) (.const (.string (⟨#[92,47]⟩ : ByteArray))) 9) (.string ((((⟨#[40]⟩ : ByteArray) ++ t22) ++ (⟨#[41]⟩ : ByteArray)) ++ (⟨#[92,47]⟩ : ByteArray))) (fun o ho _ => x_concat (by kernel_rfl) (by kernel_rfl) g190 ho) ?_
  refine sR 1 (iR p5_36 44 7::td253) ?_
  obtain ⟨g192,hp193⟩:=ite_some hp191
  refine rV (.binOp .add 9 (.tmp 155) (.tmp 156) 9) (.string (((((⟨#[40]⟩ : ByteArray) ++ t22) ++ (⟨#[41]⟩ : ByteArray)) ++ (⟨#[92,47]⟩ : ByteArray)) ++ (((⟨#[40]⟩ : ByteArray) ++ t28) ++ (⟨#[41]⟩ : ByteArray)))) (fun o ho _ => x_concat (by kernel_rfl) (by kernel_rfl) g192 ho) ?_
  obtain ⟨g194,hp195⟩:=ite_some hp193
  refine rV (.binOp .add 9 (.tmp 157) (.const (.string (⟨#[47,92]⟩ : ByteArray))) 9) (.string ((((((⟨#[40]⟩ : ByteArray) ++ t22) ++ (⟨#[41]⟩ : ByteArray)) ++ (⟨#[92,47]⟩ : ByteArray)) ++ (((⟨#[40]⟩ : ByteArray) ++ t28) ++ (⟨#[41]⟩ : ByteArray))) ++ (⟨#[47,92]⟩ : ByteArray))) (fun o ho _ => x_concat (by kernel_rfl) (by kernel_rfl) g194 ho) ?_
  refine sR 1 (iR p5_36 47 4::td253) ?_
  obtain ⟨g196,hp197⟩:=ite_some hp195
  refine rV (.binOp .add 9 (.tmp 158) (.tmp 159) 9) (.string (((((((⟨#[40]⟩ : ByteArray) ++ t22) ++ (⟨#[41]⟩ : ByteArray)) ++ (⟨#[92,47]⟩ : ByteArray)) ++ (((⟨#[40]⟩ : ByteArray) ++ t28) ++ (⟨#[41]⟩ : ByteArray))) ++ (⟨#[47,92]⟩ : ByteArray)) ++ (((⟨#[40]⟩ : ByteArray) ++ t34) ++ (⟨#[41]⟩ : ByteArray)))) (fun o ho _ => x_concat (by kernel_rfl) (by kernel_rfl) g196 ho) ?_
  refine sR 1 (.inRegion (opsOf p5_36) [49,50]::td253) ?_
  refine rA 50 (.agg ((encV encS) (Vector.replicate 9 (⟨#[]⟩ : ByteArray))).toArray) ((encV encS) (Vector.replicate 9 (⟨#[]⟩ : ByteArray))) hS123 ?_
  intro b198 w199 hS200
  refine r_store (c:=p5_36) (i:=50) (d:=none) (ty:=0) (t:=50) (x:=(.tmp 21)) (y:=(.tmp 161)) (b:=b198) (o:=0) (e:=50) (cs:=(encV encS) (Vector.replicate 9 (⟨#[]⟩ : ByteArray))) (v:=.agg ((encV encS) (vset (vset (vset (vset (vset (vset (vset (vset (vset (Vector.replicate 9 (⟨#[]⟩ : ByteArray)) 0 ((⟨#[126]⟩ : ByteArray) ++ (((⟨#[40]⟩ : ByteArray) ++ t22) ++ (⟨#[41]⟩ : ByteArray)))) 1 (((((⟨#[40]⟩ : ByteArray) ++ t22) ++ (⟨#[41]⟩ : ByteArray)) ++ (⟨#[32,47,92,32]⟩ : ByteArray)) ++ (((⟨#[40]⟩ : ByteArray) ++ t28) ++ (⟨#[41]⟩ : ByteArray)))) 2 (((((⟨#[40]⟩ : ByteArray) ++ t22) ++ (⟨#[41]⟩ : ByteArray)) ++ (⟨#[92,47]⟩ : ByteArray)) ++ (((⟨#[40]⟩ : ByteArray) ++ t28) ++ (⟨#[41]⟩ : ByteArray)))) 3 (((((⟨#[126,40]⟩ : ByteArray) ++ (((⟨#[40]⟩ : ByteArray) ++ t22) ++ (⟨#[41]⟩ : ByteArray))) ++ (⟨#[47,92]⟩ : ByteArray)) ++ (((⟨#[40]⟩ : ByteArray) ++ t28) ++ (⟨#[41]⟩ : ByteArray))) ++ (⟨#[41]⟩ : ByteArray))) 4 ((((⟨#[126]⟩ : ByteArray) ++ (((⟨#[40]⟩ : ByteArray) ++ t22) ++ (⟨#[41]⟩ : ByteArray))) ++ (⟨#[92,47,126]⟩ : ByteArray)) ++ (((⟨#[40]⟩ : ByteArray) ++ t28) ++ (⟨#[41]⟩ : ByteArray)))) 5 ((((((((⟨#[40]⟩ : ByteArray) ++ t22) ++ (⟨#[41]⟩ : ByteArray)) ++ (⟨#[47,92,40]⟩ : ByteArray)) ++ (((⟨#[40]⟩ : ByteArray) ++ t28) ++ (⟨#[41]⟩ : ByteArray))) ++ (⟨#[92,47]⟩ : ByteArray)) ++ (((⟨#[40]⟩ : ByteArray) ++ t34) ++ (⟨#[41]⟩ : ByteArray))) ++ (⟨#[41]⟩ : ByteArray))) 6 (((((((((⟨#[40]⟩ : ByteArray) ++ t22) ++ (⟨#[41]⟩ : ByteArray)) ++ (⟨#[47,92]⟩ : ByteArray)) ++ (((⟨#[40]⟩ : ByteArray) ++ t28) ++ (⟨#[41]⟩ : ByteArray))) ++ (⟨#[92,47]⟩ : ByteArray)) ++ (((⟨#[40]⟩ : ByteArray) ++ t22) ++ (⟨#[41]⟩ : ByteArray))) ++ (⟨#[47,92]⟩ : ByteArray)) ++ (((⟨#[40]⟩ : ByteArray) ++ t34) ++ (⟨#[41]⟩ : ByteArray)))) 7 ((⟨#[126,126]⟩ : ByteArray) ++ (((⟨#[40]⟩ : ByteArray) ++ t22) ++ (⟨#[41]⟩ : ByteArray)))) 8 (((((((⟨#[40]⟩ : ByteArray) ++ t22) ++ (⟨#[41]⟩ : ByteArray)) ++ (⟨#[92,47]⟩ : ByteArray)) ++ (((⟨#[40]⟩ : ByteArray) ++ t28) ++ (⟨#[41]⟩ : ByteArray))) ++ (⟨#[47,92]⟩ : ByteArray)) ++ (((⟨#[40]⟩ : ByteArray) ++ t34) ++ (⟨#[41]⟩ : ByteArray))))).toArray) (vs:=(encV encS) (vset (vset (vset (vset (vset (vset (vset (vset (vset (Vector.replicate 9 (⟨#[]⟩ : ByteArray)) 0 ((⟨#[126]⟩ : ByteArray) ++ (((⟨#[40]⟩ : ByteArray) ++ t22) ++ (⟨#[41]⟩ : ByteArray)))) 1 (((((⟨#[40]⟩ : ByteArray) ++ t22) ++ (⟨#[41]⟩ : ByteArray)) ++ (⟨#[32,47,92,32]⟩ : ByteArray)) ++ (((⟨#[40]⟩ : ByteArray) ++ t28) ++ (⟨#[41]⟩ : ByteArray)))) 2 (((((⟨#[40]⟩ : ByteArray) ++ t22) ++ (⟨#[41]⟩ : ByteArray)) ++ (⟨#[92,47]⟩ : ByteArray)) ++ (((⟨#[40]⟩ : ByteArray) ++ t28) ++ (⟨#[41]⟩ : ByteArray)))) 3 (((((⟨#[126,40]⟩ : ByteArray) ++ (((⟨#[40]⟩ : ByteArray) ++ t22) ++ (⟨#[41]⟩ : ByteArray))) ++ (⟨#[47,92]⟩ : ByteArray)) ++ (((⟨#[40]⟩ : ByteArray) ++ t28) ++ (⟨#[41]⟩ : ByteArray))) ++ (⟨#[41]⟩ : ByteArray))) 4 ((((⟨#[126]⟩ : ByteArray) ++ (((⟨#[40]⟩ : ByteArray) ++ t22) ++ (⟨#[41]⟩ : ByteArray))) ++ (⟨#[92,47,126]⟩ : ByteArray)) ++ (((⟨#[40]⟩ : ByteArray) ++ t28) ++ (⟨#[41]⟩ : ByteArray)))) 5 ((((((((⟨#[40]⟩ : ByteArray) ++ t22) ++ (⟨#[41]⟩ : ByteArray)) ++ (⟨#[47,92,40]⟩ : ByteArray)) ++ (((⟨#[40]⟩ : ByteArray) ++ t28) ++ (⟨#[41]⟩ : ByteArray))) ++ (⟨#[92,47]⟩ : ByteArray)) ++ (((⟨#[40]⟩ : ByteArray) ++ t34) ++ (⟨#[41]⟩ : ByteArray))) ++ (⟨#[41]⟩ : ByteArray))) 6 (((((((((⟨#[40]⟩ : ByteArray) ++ t22) ++ (⟨#[41]⟩ : ByteArray)) ++ (⟨#[47,92]⟩ : ByteArray)) ++ (((⟨#[40]⟩ : ByteArray) ++ t28) ++ (⟨#[41]⟩ : ByteArray))) ++ (⟨#[92,47]⟩ : ByteArray)) ++ (((⟨#[40]⟩ : ByteArray) ++ t22) ++ (⟨#[41]⟩ : ByteArray))) ++ (⟨#[47,92]⟩ : ByteArray)) ++ (((⟨#[40]⟩ : ByteArray) ++ t34) ++ (⟨#[41]⟩ : ByteArray)))) 7 ((⟨#[126,126]⟩ : ByteArray) ++ (((⟨#[40]⟩ : ByteArray) ++ t22) ++ (⟨#[41]⟩ : ByteArray)))) 8 (((((((⟨#[40]⟩ : ByteArray) ++ t22) ++ (⟨#[41]⟩ : ByteArray)) ++ (⟨#[92,47]⟩ : ByteArray)) ++ (((⟨#[40]⟩ : ByteArray) ++ t28) ++ (⟨#[41]⟩ : ByteArray))) ++ (⟨#[47,92]⟩ : ByteArray)) ++ (((⟨#[40]⟩ : ByteArray) ++ t34) ++ (⟨#[41]⟩ : ByteArray))))) (cs':=(encV encS) (vset (vset (vset (vset (vset (vset (vset (vset (vset (Vector.replicate 9 (⟨#[]⟩ : ByteArray)) 0 ((⟨#[126]⟩ : ByteArray) ++ (((⟨#[40]⟩ : ByteArray) ++ t22) ++ (⟨#[41]⟩ : ByteArray)))) 1 (((((⟨#[40]⟩ : ByteArray) ++ t22) ++ (⟨#[41]⟩ : ByteArray)) ++ (⟨#[32,47,92,32]⟩ : ByteArray)) ++ (((⟨#[40]⟩ : ByteArray) ++ t28) ++ (⟨#[41]⟩ : ByteArray)))) 2 (((((⟨#[40]⟩ : ByteArray) ++ t22) ++ (⟨#[41]⟩ : ByteArray)) ++ (⟨#[92,47]⟩ : ByteArray)) ++ (((⟨#[40]⟩ : ByteArray) ++ t28) ++ (⟨#[41]⟩ : ByteArray)))) 3 (((((⟨#[126,40]⟩ : ByteArray) ++ (((⟨#[40]⟩ : ByteArray) ++ t22) ++ (⟨#[41]⟩ : ByteArray))) ++ (⟨#[47,92]⟩ : ByteArray)) ++ (((⟨#[40]⟩ : ByteArray) ++ t28) ++ (⟨#[41]⟩ : ByteArray))) ++ (⟨#[41]⟩ : ByteArray))) 4 ((((⟨#[126]⟩ : ByteArray) ++ (((⟨#[40]⟩ : ByteArray) ++ t22) ++ (⟨#[41]⟩ : ByteArray))) ++ (⟨#[92,47,126]⟩ : ByteArray)) ++ (((⟨#[40]⟩ : ByteArray) ++ t28) ++ (⟨#[41]⟩ : ByteArray)))) 5 ((((((((⟨#[40]⟩ : ByteArray) ++ t22) ++ (⟨#[41]⟩ : ByteArray)) ++ (⟨#[47,92,40]⟩ : ByteArray)) ++ (((⟨#[40]⟩ : ByteArray) ++ t28) ++ (⟨#[41]⟩ : ByteArray))) ++ (⟨#[92,47]⟩ : ByteArray)) ++ (((⟨#[40]⟩ : ByteArray) ++ t34) ++ (⟨#[41]⟩ : ByteArray))) ++ (⟨#[41]⟩ : ByteArray))) 6 (((((((((⟨#[40]⟩ : ByteArray) ++ t22) ++ (⟨#[41]⟩ : ByteArray)) ++ (⟨#[47,92]⟩ : ByteArray)) ++ (((⟨#[40]⟩ : ByteArray) ++ t28) ++ (⟨#[41]⟩ : ByteArray))) ++ (⟨#[92,47]⟩ : ByteArray)) ++ (((⟨#[40]⟩ : ByteArray) ++ t22) ++ (⟨#[41]⟩ : ByteArray))) ++ (⟨#[47,92]⟩ : ByteArray)) ++ (((⟨#[40]⟩ : ByteArray) ++ t34) ++ (⟨#[41]⟩ : ByteArray)))) 7 ((⟨#[126,126]⟩ : ByteArray) ++ (((⟨#[40]⟩ : ByteArray) ++ t22) ++ (⟨#[41]⟩ : ByteArray)))) 8 (((((((⟨#[40]⟩ : ByteArray) ++ t22) ++ (⟨#[41]⟩ : ByteArray)) ++ (⟨#[92,47]⟩ : ByteArray)) ++ (((⟨#[40]⟩ : ByteArray) ++ t28) ++ (⟨#[41]⟩ : ByteArray))) ++ (⟨#[47,92]⟩ : ByteArray)) ++ (((⟨#[40]⟩ : ByteArray) ++ t34) ++ (⟨#[41]⟩ : ByteArray))))) hS200 (by kernel_rfl) (by kernel_rfl) (by kernel_rfl) (by kernel_rfl) (by kernel_rfl) (lenK ((len_encV len_encS) _) (by kernel_rfl)) ((one_encV one_encS) _) (by simp only [len_encV len_encS,List.length_cons,List.length_nil,List.length_append]; omega) (over_all (((len_encV len_encS) _).trans ((len_encV len_encS) _).symm)) ?_
  intro w202 hS203
  obtain ⟨v204,hv205,hp206⟩:=bind_some' hp197
  have J212 : ∀ (t209 : Vector Bool 9) (he214 : t209 = v204) (l213 : List Value) (b207 : Nat) (w210 : World) (hS211 : St w0 Z (xblk b1 46 ([.slice y25 a3.Refs.length y26,.slice y27 a3.Values.length y28,.int .i64 a3.Rest])::xblk b198 50 ((encV encS) (vset (vset (vset (vset (vset (vset (vset (vset (vset (Vector.replicate 9 (⟨#[]⟩ : ByteArray)) 0 ((⟨#[126]⟩ : ByteArray) ++ (((⟨#[40]⟩ : ByteArray) ++ t22) ++ (⟨#[41]⟩ : ByteArray)))) 1 (((((⟨#[40]⟩ : ByteArray) ++ t22) ++ (⟨#[41]⟩ : ByteArray)) ++ (⟨#[32,47,92,32]⟩ : ByteArray)) ++ (((⟨#[40]⟩ : ByteArray) ++ t28) ++ (⟨#[41]⟩ : ByteArray)))) 2 (((((⟨#[40]⟩ : ByteArray) ++ t22) ++ (⟨#[41]⟩ : ByteArray)) ++ (⟨#[92,47]⟩ : ByteArray)) ++ (((⟨#[40]⟩ : ByteArray) ++ t28) ++ (⟨#[41]⟩ : ByteArray)))) 3 (((((⟨#[126,40]⟩ : ByteArray) ++ (((⟨#[40]⟩ : ByteArray) ++ t22) ++ (⟨#[41]⟩ : ByteArray))) ++ (⟨#[47,92]⟩ : ByteArray)) ++ (((⟨#[40]⟩ : ByteArray) ++ t28) ++ (⟨#[41]⟩ : ByteArray))) ++ (⟨#[41]⟩ : ByteArray))) 4 ((((⟨#[126]⟩ : ByteArray) ++ (((⟨#[40]⟩ : ByteArray) ++ t22) ++ (⟨#[41]⟩ : ByteArray))) ++ (⟨#[92,47,126]⟩ : ByteArray)) ++ (((⟨#[40]⟩ : ByteArray) ++ t28) ++ (⟨#[41]⟩ : ByteArray)))) 5 ((((((((⟨#[40]⟩ : ByteArray) ++ t22) ++ (⟨#[41]⟩ : ByteArray)) ++ (⟨#[47,92,40]⟩ : ByteArray)) ++ (((⟨#[40]⟩ : ByteArray) ++ t28) ++ (⟨#[41]⟩ : ByteArray))) ++ (⟨#[92,47]⟩ : ByteArray)) ++ (((⟨#[40]⟩ : ByteArray) ++ t34) ++ (⟨#[41]⟩ : ByteArray))) ++ (⟨#[41]⟩ : ByteArray))) 6 (((((((((⟨#[40]⟩ : ByteArray) ++ t22) ++ (⟨#[41]⟩ : ByteArray)) ++ (⟨#[47,92]⟩ : ByteArray)) ++ (((⟨#[40]⟩ : ByteArray) ++ t28) ++ (⟨#[41]⟩ : ByteArray))) ++ (⟨#[92,47]⟩ : ByteArray)) ++ (((⟨#[40]⟩ : ByteArray) ++ t22) ++ (⟨#[41]⟩ : ByteArray))) ++ (⟨#[47,92]⟩ : ByteArray)) ++ (((⟨#[40]⟩ : ByteArray) ++ t34) ++ (⟨#[41]⟩ : ByteArray)))) 7 ((⟨#[126,126]⟩ : ByteArray) ++ (((⟨#[40]⟩ : ByteArray) ++ t22) ++ (⟨#[41]⟩ : ByteArray)))) 8 (((((((⟨#[40]⟩ : ByteArray) ++ t22) ++ (⟨#[41]⟩ : ByteArray)) ++ (⟨#[92,47]⟩ : ByteArray)) ++ (((⟨#[40]⟩ : ByteArray) ++ t28) ++ (⟨#[41]⟩ : ByteArray))) ++ (⟨#[47,92]⟩ : ByteArray)) ++ (((⟨#[40]⟩ : ByteArray) ++ t34) ++ (⟨#[41]⟩ : ByteArray)))))::xblk b207 51 ((encV encB) t209)::fs) w210),Runs Tryz.prog (fx 5) td256 (fill (mk 230 [(7,.pointer (some ⟨b1,0,none⟩)),(21,.pointer (some ⟨b198,0,none⟩)),(22,.pointer (some ⟨b207,0,none⟩))]) l213) w210 R:=by
   intro t209 he214 l213 b207 w210 hS211
   subst he214
   try dsimp only at hp206
   refine sR 5 td259 ?_
   obtain ⟨v215,hv216,hp217⟩:=bind_some' hp206
   have hq220 : ∀ x,Sum.inr x = v215 → x = q0:=by intro x hx; subst hx; simpa using hp217
   have J221 : ∀ (he223 : Sum.inl () = v215) (l222 : List Value) (w218 : World) (hS219 : St w0 Z (fs) w218),Runs Tryz.prog (fx 5) td254 (fill (mk 230 []) l222) w218 R:=by
    intro he223 l222 w218 hS219
    subst he223
    try dsimp only at hp217
    refine sR 4 [.code p5_42] ?_
    refine r_isret (c:=p5_42) (by kernel_rfl) ?_
    refine rR (.bool true) Tryz.func5 ?_
    cases Option.some.inj hp217
    exact hR _ _ ⟨rfl,hS219⟩
   have L234 : ∀ (t225 : Int) (e229 : Sum Unit Bool),weirlaw06_CondLogic.l0 a3 t22 t28 t34 t209 t225 = some e229 → e229 = v215 → ∀ (l228 : List Value) (w226 : World) (hS227 : St w0 Z (xblk b1 46 ([.slice y25 a3.Refs.length y26,.slice y27 a3.Values.length y28,.int .i64 a3.Rest])::xblk b198 50 ((encV encS) (vset (vset (vset (vset (vset (vset (vset (vset (vset (Vector.replicate 9 (⟨#[]⟩ : ByteArray)) 0 ((⟨#[126]⟩ : ByteArray) ++ (((⟨#[40]⟩ : ByteArray) ++ t22) ++ (⟨#[41]⟩ : ByteArray)))) 1 (((((⟨#[40]⟩ : ByteArray) ++ t22) ++ (⟨#[41]⟩ : ByteArray)) ++ (⟨#[32,47,92,32]⟩ : ByteArray)) ++ (((⟨#[40]⟩ : ByteArray) ++ t28) ++ (⟨#[41]⟩ : ByteArray)))) 2 (((((⟨#[40]⟩ : ByteArray) ++ t22) ++ (⟨#[41]⟩ : ByteArray)) ++ (⟨#[92,47]⟩ : ByteArray)) ++ (((⟨#[40]⟩ : ByteArray) ++ t28) ++ (⟨#[41]⟩ : ByteArray)))) 3 (((((⟨#[126,40]⟩ : ByteArray) ++ (((⟨#[40]⟩ : ByteArray) ++ t22) ++ (⟨#[41]⟩ : ByteArray))) ++ (⟨#[47,92]⟩ : ByteArray)) ++ (((⟨#[40]⟩ : ByteArray) ++ t28) ++ (⟨#[41]⟩ : ByteArray))) ++ (⟨#[41]⟩ : ByteArray))) 4 ((((⟨#[126]⟩ : ByteArray) ++ (((⟨#[40]⟩ : ByteArray) ++ t22) ++ (⟨#[41]⟩ : ByteArray))) ++ (⟨#[92,47,126]⟩ : ByteArray)) ++ (((⟨#[40]⟩ : ByteArray) ++ t28) ++ (⟨#[41]⟩ : ByteArray)))) 5 ((((((((⟨#[40]⟩ : ByteArray) ++ t22) ++ (⟨#[41]⟩ : ByteArray)) ++ (⟨#[47,92,40]⟩ : ByteArray)) ++ (((⟨#[40]⟩ : ByteArray) ++ t28) ++ (⟨#[41]⟩ : ByteArray))) ++ (⟨#[92,47]⟩ : ByteArray)) ++ (((⟨#[40]⟩ : ByteArray) ++ t34) ++ (⟨#[41]⟩ : ByteArray))) ++ (⟨#[41]⟩ : ByteArray))) 6 (((((((((⟨#[40]⟩ : ByteArray) ++ t22) ++ (⟨#[41]⟩ : ByteArray)) ++ (⟨#[47,92]⟩ : ByteArray)) ++ (((⟨#[40]⟩ : ByteArray) ++ t28) ++ (⟨#[41]⟩ : ByteArray))) ++ (⟨#[92,47]⟩ : ByteArray)) ++ (((⟨#[40]⟩ : ByteArray) ++ t22) ++ (⟨#[41]⟩ : ByteArray))) ++ (⟨#[47,92]⟩ : ByteArray)) ++ (((⟨#[40]⟩ : ByteArray) ++ t34) ++ (⟨#[41]⟩ : ByteArray)))) 7 ((⟨#[126,126]⟩ : ByteArray) ++ (((⟨#[40]⟩ : ByteArray) ++ t22) ++ (⟨#[41]⟩ : ByteArray)))) 8 (((((((⟨#[40]⟩ : ByteArray) ++ t22) ++ (⟨#[41]⟩ : ByteArray)) ++ (⟨#[92,47]⟩ : ByteArray)) ++ (((⟨#[40]⟩ : ByteArray) ++ t28) ++ (⟨#[41]⟩ : ByteArray))) ++ (⟨#[47,92]⟩ : ByteArray)) ++ (((⟨#[40]⟩ : ByteArray) ++ t34) ++ (⟨#[41]⟩ : ByteArray)))))::xblk b207 51 ((encV encB) t209)::fs) w226),Runs Tryz.prog (fx 5) td259 (fill (mk 230 [(7,.pointer (some ⟨b1,0,none⟩)),(21,.pointer (some ⟨b198,0,none⟩)),(22,.pointer (some ⟨b207,0,none⟩)),(23,.int .i64 t225)]) l228) w226 R:=by
    refine weirlaw06_CondLogic.l0.partial_correctness a3 t22 t28 t34 t209 (fun t225 e229 => e229 = v215 → ∀ (l228 : List Value) (w226 : World) (hS227 : St w0 Z (xblk b1 46 ([.slice y25 a3.Refs.length y26,.slice y27 a3.Values.length y28,.int .i64 a3.Rest])::xblk b198 50 ((encV encS) (vset (vset (vset (vset (vset (vset (vset (vset (vset (Vector.replicate 9 (⟨#[]⟩ : ByteArray)) 0 ((⟨#[126]⟩ : ByteArray) ++ (((⟨#[40]⟩ : ByteArray) ++ t22) ++ (⟨#[41]⟩ : ByteArray)))) 1 (((((⟨#[40]⟩ : ByteArray) ++ t22) ++ (⟨#[41]⟩ : ByteArray)) ++ (⟨#[32,47,92,32]⟩ : ByteArray)) ++ (((⟨#[40]⟩ : ByteArray) ++ t28) ++ (⟨#[41]⟩ : ByteArray)))) 2 (((((⟨#[40]⟩ : ByteArray) ++ t22) ++ (⟨#[41]⟩ : ByteArray)) ++ (⟨#[92,47]⟩ : ByteArray)) ++ (((⟨#[40]⟩ : ByteArray) ++ t28) ++ (⟨#[41]⟩ : ByteArray)))) 3 (((((⟨#[126,40]⟩ : ByteArray) ++ (((⟨#[40]⟩ : ByteArray) ++ t22) ++ (⟨#[41]⟩ : ByteArray))) ++ (⟨#[47,92]⟩ : ByteArray)) ++ (((⟨#[40]⟩ : ByteArray) ++ t28) ++ (⟨#[41]⟩ : ByteArray))) ++ (⟨#[41]⟩ : ByteArray))) 4 ((((⟨#[126]⟩ : ByteArray) ++ (((⟨#[40]⟩ : ByteArray) ++ t22) ++ (⟨#[41]⟩ : ByteArray))) ++ (⟨#[92,47,126]⟩ : ByteArray)) ++ (((⟨#[40]⟩ : ByteArray) ++ t28) ++ (⟨#[41]⟩ : ByteArray)))) 5 ((((((((⟨#[40]⟩ : ByteArray) ++ t22) ++ (⟨#[41]⟩ : ByteArray)) ++ (⟨#[47,92,40]⟩ : ByteArray)) ++ (((⟨#[40]⟩ : ByteArray) ++ t28) ++ (⟨#[41]⟩ : ByteArray))) ++ (⟨#[92,47]⟩ : ByteArray)) ++ (((⟨#[40]⟩ : ByteArray) ++ t34) ++ (⟨#[41]⟩ : ByteArray))) ++ (⟨#[41]⟩ : ByteArray))) 6 (((((((((⟨#[40]⟩ : ByteArray) ++ t22) ++ (⟨#[41]⟩ : ByteArray)) ++ (⟨#[47,92]⟩ : ByteArray)) ++ (((⟨#[40]⟩ : ByteArray) ++ t28) ++ (⟨#[41]⟩ : ByteArray))) ++ (⟨#[92,47]⟩ : ByteArray)) ++ (((⟨#[40]⟩ : ByteArray) ++ t22) ++ (⟨#[41]⟩ : ByteArray))) ++ (⟨#[47,92]⟩ : ByteArray)) ++ (((⟨#[40]⟩ : ByteArray) ++ t34) ++ (⟨#[41]⟩ : ByteArray)))) 7 ((⟨#[126,126]⟩ : ByteArray) ++ (((⟨#[40]⟩ : ByteArray) ++ t22) ++ (⟨#[41]⟩ : ByteArray)))) 8 (((((((⟨#[40]⟩ : ByteArray) ++ t22) ++ (⟨#[41]⟩ : ByteArray)) ++ (⟨#[92,47]⟩ : ByteArray)) ++ (((⟨#[40]⟩ : ByteArray) ++ t28) ++ (⟨#[41]⟩ : ByteArray))) ++ (⟨#[47,92]⟩ : ByteArray)) ++ (((⟨#[40]⟩ : ByteArray) ++ t34) ++ (⟨#[41]⟩ : ByteArray)))))::xblk b207 51 ((encV encB) t209)::fs) w226),Runs Tryz.prog (fx 5) td259 (fill (mk 230 [(7,.pointer (some ⟨b1,0,none⟩)),(21,.pointer (some ⟨b198,0,none⟩)),(22,.pointer (some ⟨b207,0,none⟩)),(23,.int .i64 t225)]) l228) w226 R) ?_
    intro rec233 ih232 t225 e229 hb231 he230 l228 w226 hS227
    have hq235 : ∀ x,Sum.inr x = e229 → x = q0:=fun x hx => hq220 x (hx.trans he230)
    refine sI 5 (.inRegion (opsOf (cd5 [1,1,1,1,1,1,1,1,1,1,1,1,1,1,1,1,0,1,0,0,0,0])) []::.code (cd5 [1,1,1,1,1,1,1,1,1,1,1,1,1,1,1,1,0,1,0,0,0,1])::.code (cd5 [1,1,1,1,1,1,1,1,1,1,1,1,1,1,1,1,0,1,0,0,1])::td258) 210 hb231 (fun hp238 => ?_) fun hp280 => ?_
    ·refine sR 6 (.code p5_46::.code (cd5 [1,1,1,1,1,1,1,1,1,1,1,1,1,1,1,1,0,1,0,0,1,0,0,1])::td261) ?_
     refine r_quiet hS227 (c:=p5_46) (id:=23) (by kernel_rfl) (by kernel_rfl) (by kernel_rfl) (is:=[0,1,2,3,4,5,6,7,8,9]) (by kernel_rfl) ?_
     refine qR 1 (rg 1 9) ?_
     obtain ⟨g239,hp240⟩:=ite_some hp238
     refine q_indexArr (c:=p5_46) (i:=1) (d:=(some 215)) (ty:=0) (t:=50) (e:=9) (sz:=1) (kk:=.i64) (x:=(.tmp 21)) (y:=(.tmp 214)) (b:=b198) (o':=0) (n:=9) (j:=t225) (by kernel_rfl) (by kernel_rfl) (by kernel_rfl) (by kernel_rfl) (by kernel_rfl) (by kernel_rfl) g239.1 g239.2 ?_
     refine qL1 9 (.tmp 215) 0 (fun w hC => (cells_vget (hC.blk 1 rfl) len_encS g239.1 g239.2)) ?_
     refine qLa 46 (.tmp 7) (fun w hC => (hC.blk 0 rfl)) ?_
     obtain ⟨⟨t241,t242⟩,hr243,hp244⟩:=bind_some' hp240
     try dsimp only at hp244
     refine q_call1 (c:=p5_46) (i:=4) (d:=(some 218)) (v:=.tuple #[.bool t241,.bool t242]) (g:=18) (args:=#[.string (vget (vset (vset (vset (vset (vset (vset (vset (vset (vset (Vector.replicate 9 (⟨#[]⟩ : ByteArray)) 0 ((⟨#[126]⟩ : ByteArray) ++ (((⟨#[40]⟩ : ByteArray) ++ t22) ++ (⟨#[41]⟩ : ByteArray)))) 1 (((((⟨#[40]⟩ : ByteArray) ++ t22) ++ (⟨#[41]⟩ : ByteArray)) ++ (⟨#[32,47,92,32]⟩ : ByteArray)) ++ (((⟨#[40]⟩ : ByteArray) ++ t28) ++ (⟨#[41]⟩ : ByteArray)))) 2 (((((⟨#[40]⟩ : ByteArray) ++ t22) ++ (⟨#[41]⟩ : ByteArray)) ++ (⟨#[92,47]⟩ : ByteArray)) ++ (((⟨#[40]⟩ : ByteArray) ++ t28) ++ (⟨#[41]⟩ : ByteArray)))) 3 (((((⟨#[126,40]⟩ : ByteArray) ++ (((⟨#[40]⟩ : ByteArray) ++ t22) ++ (⟨#[41]⟩ : ByteArray))) ++ (⟨#[47,92]⟩ : ByteArray)) ++ (((⟨#[40]⟩ : ByteArray) ++ t28) ++ (⟨#[41]⟩ : ByteArray))) ++ (⟨#[41]⟩ : ByteArray))) 4 ((((⟨#[126]⟩ : ByteArray) ++ (((⟨#[40]⟩ : ByteArray) ++ t22) ++ (⟨#[41]⟩ : ByteArray))) ++ (⟨#[92,47,126]⟩ : ByteArray)) ++ (((⟨#[40]⟩ : ByteArray) ++ t28) ++ (⟨#[41]⟩ : ByteArray)))) 5 ((((((((⟨#[40]⟩ : ByteArray) ++ t22) ++ (⟨#[41]⟩ : ByteArray)) ++ (⟨#[47,92,40]⟩ : ByteArray)) ++ (((⟨#[40]⟩ : ByteArray) ++ t28) ++ (⟨#[41]⟩ : ByteArray))) ++ (⟨#[92,47]⟩ : ByteArray)) ++ (((⟨#[40]⟩ : ByteArray) ++ t34) ++ (⟨#[41]⟩ : ByteArray))) ++ (⟨#[41]⟩ : ByteArray))) 6 (((((((((⟨#[40]⟩ : ByteArray) ++ t22) ++ (⟨#[41]⟩ : ByteArray)) ++ (⟨#[47,92]⟩ : ByteArray)) ++ (((⟨#[40]⟩ : ByteArray) ++ t28) ++ (⟨#[41]⟩ : ByteArray))) ++ (⟨#[92,47]⟩ : ByteArray)) ++ (((⟨#[40]⟩ : ByteArray) ++ t22) ++ (⟨#[41]⟩ : ByteArray))) ++ (⟨#[47,92]⟩ : ByteArray)) ++ (((⟨#[40]⟩ : ByteArray) ++ t34) ++ (⟨#[41]⟩ : ByteArray)))) 7 ((⟨#[126,126]⟩ : ByteArray) ++ (((⟨#[40]⟩ : ByteArray) ++ t22) ++ (⟨#[41]⟩ : ByteArray)))) 8 (((((((⟨#[40]⟩ : ByteArray) ++ t22) ++ (⟨#[41]⟩ : ByteArray)) ++ (⟨#[92,47]⟩ : ByteArray)) ++ (((⟨#[40]⟩ : ByteArray) ++ t28) ++ (⟨#[41]⟩ : ByteArray))) ++ (⟨#[47,92]⟩ : ByteArray)) ++ (((⟨#[40]⟩ : ByteArray) ++ t34) ++ (⟨#[41]⟩ : ByteArray)))) t225),.agg #[.slice y25 a3.Refs.length y26,.slice y27 a3.Values.length y28,.int .i64 a3.Rest]]) (by kernel_rfl) (by kernel_rfl) (by kernel_rfl) (by kernel_rfl) (fun w hC => by
      refine (weirlaw06_held.ok hr243 hC y29 y30 hE).mono ?_
      rintro e w2 ⟨rfl,h2⟩
      have hS245:=h2.pick2
      have hS246:=hS245.pick2
      have hS247:=hS246.pick2
      exact ⟨rfl,hS247⟩) ?_
     refine qR 5 [] ?_
     refine Qs.nil ?_
     intro w248 hS249
     refine sI 4 (iR p5_49 2 7::td262) 222 hp244 (fun hp252 => ?_) fun hp257 => ?_
     ·refine sR 13 td263 ?_
      refine r_isret (c:=p5_51) (by kernel_rfl) ?_
      have hS253:=hS249.drop
      have hS254:=hS253.drop
      have hS255:=hS254.drop
      refine rR (.bool false) Tryz.func5 ?_
      cases hq235 _ (Option.some.inj hp252)
      exact hR _ _ ⟨rfl,hS255⟩
     refine sR 3 (iR p5_49 5 4::td262) ?_
     obtain ⟨g258,hp259⟩:=ite_some hp257
     refine r_indexArr (c:=p5_49) (i:=5) (d:=(some 226)) (ty:=0) (t:=51) (e:=4) (sz:=1) (kk:=.i64) (x:=(.tmp 22)) (y:=(.tmp 225)) (b:=b207) (o':=0) (n:=9) (j:=t225) (by kernel_rfl) (by kernel_rfl) (by kernel_rfl) (by kernel_rfl) (by kernel_rfl) (by kernel_rfl) g258.1 g258.2 ?_
     refine rL1 4 (.tmp 226) 0 (cells_vget (hS249.blk 2 rfl) len_encB g258.1 g258.2) ?_
     refine r_split (vget t209 t225) (fun h260 => ?_) (fun h261 => ?_)
     ·have hp262:=ite_t hp259 h260
      refine sI 1 (.inRegion (opsOf p5_49) [8]::td262) 228 hp262 (fun hp265 => ?_) fun hp270 => ?_
      ·refine sR 7 td263 ?_
       refine r_isret (c:=p5_51) (by kernel_rfl) ?_
       have hS266:=hS249.drop
       have hS267:=hS266.drop
       have hS268:=hS267.drop
       refine rR (.bool false) Tryz.func5 ?_
       cases hq235 _ (Option.some.inj hp265)
       exact hR _ _ ⟨rfl,hS268⟩
      refine sR 10 td258 ?_
      refine sR 1 td259 ?_
      exact rF _ (ih232 (IntKind.i64.wrap (t225 + 1)) _ hp270 he230 _ _ hS249)
     have hp271:=ite_f hp259 h261
     refine sI 1 (.inRegion (opsOf p5_49) [8]::td262) 228 hp271 (fun hp274 => ?_) fun hp279 => ?_
     ·refine sR 7 td263 ?_
      refine r_isret (c:=p5_51) (by kernel_rfl) ?_
      have hS275:=hS249.drop
      have hS276:=hS275.drop
      have hS277:=hS276.drop
      refine rR (.bool false) Tryz.func5 ?_
      cases hq235 _ (Option.some.inj hp274)
      exact hR _ _ ⟨rfl,hS277⟩
     refine sR 10 td258 ?_
     refine sR 1 td259 ?_
     exact rF _ (ih232 (IntKind.i64.wrap (t225 + 1)) _ hp279 he230 _ _ hS249)
    refine sR 3 td254 ?_
    have hS281:=hS227.drop
    have hS282:=hS281.drop
    have hS283:=hS282.drop
    exact rF _ (J221 ((Option.some.inj hp280).trans he230) _ _ hS283)
   exact rF _ (L234 0 _ hv216 rfl _ _ hS211)
  refine sI 5 (iR p5_52 2 47::td264) 163 hv205 (fun hp286 => ?_) fun hp391 => ?_
  ·refine sR 2 (iR p5_52 4 45::td264) ?_
   cases t106
   ·have hp287:=ite_f hp286 rfl
    refine sR 39 (iR p5_52 43 6::td264) ?_
    cases t112
    ·have hp288:=ite_f hp287 rfl
     refine sR 4 td265 ?_
     refine rA 51 (.agg ((encV encB) (Vector.replicate 9 false)).toArray) ((encV encB) (Vector.replicate 9 false)) hS203 ?_
     intro b289 w290 hS291
     refine r_store (c:=p5_52) (i:=48) (d:=none) (ty:=0) (t:=51) (x:=(.tmp 22)) (y:=(.tmp 208)) (b:=b289) (o:=0) (e:=51) (cs:=(encV encB) (Vector.replicate 9 false)) (v:=.agg ((encV encB) (vset (vset (vset (vset (vset (vset (vset (vset (vset (Vector.replicate 9 false) 0 true) 1 false) 2 false) 3 true) 4 true) 5 false) 6 false) 7 false) 8 false)).toArray) (vs:=(encV encB) (vset (vset (vset (vset (vset (vset (vset (vset (vset (Vector.replicate 9 false) 0 true) 1 false) 2 false) 3 true) 4 true) 5 false) 6 false) 7 false) 8 false)) (cs':=(encV encB) (vset (vset (vset (vset (vset (vset (vset (vset (vset (Vector.replicate 9 false) 0 true) 1 false) 2 false) 3 true) 4 true) 5 false) 6 false) 7 false) 8 false)) hS291 (by kernel_rfl) (by kernel_rfl) (by kernel_rfl) (by kernel_rfl) (by kernel_rfl) (lenK ((len_encV len_encB) _) (by kernel_rfl)) ((one_encV one_encB) _) (by simp only [len_encV len_encB,List.length_cons,List.length_nil,List.length_append]; omega) (over_all (((len_encV len_encB) _).trans ((len_encV len_encB) _).symm)) ?_
     intro w293 hS294
     refine sR 3 td256 ?_
     have hS295:=hS294.pick1
     have hS296:=hS295.pick2
     exact rF _ (J212 (vset (vset (vset (vset (vset (vset (vset (vset (vset (Vector.replicate 9 false) 0 true) 1 false) 2 false) 3 true) 4 true) 5 false) 6 false) 7 false) 8 false) (Option.some.inj hp288) _ b289 _ hS296)
    have hp297:=ite_t hp287 rfl
    refine sR 4 td265 ?_
    refine rA 51 (.agg ((encV encB) (Vector.replicate 9 false)).toArray) ((encV encB) (Vector.replicate 9 false)) hS203 ?_
    intro b298 w299 hS300
    refine r_store (c:=p5_52) (i:=48) (d:=none) (ty:=0) (t:=51) (x:=(.tmp 22)) (y:=(.tmp 208)) (b:=b298) (o:=0) (e:=51) (cs:=(encV encB) (Vector.replicate 9 false)) (v:=.agg ((encV encB) (vset (vset (vset (vset (vset (vset (vset (vset (vset (Vector.replicate 9 false) 0 true) 1 false) 2 true) 3 true) 4 true) 5 false) 6 false) 7 false) 8 t118)).toArray) (vs:=(encV encB) (vset (vset (vset (vset (vset (vset (vset (vset (vset (Vector.replicate 9 false) 0 true) 1 false) 2 true) 3 true) 4 true) 5 false) 6 false) 7 false) 8 t118)) (cs':=(encV encB) (vset (vset (vset (vset (vset (vset (vset (vset (vset (Vector.replicate 9 false) 0 true) 1 false) 2 true) 3 true) 4 true) 5 false) 6 false) 7 false) 8 t118)) hS300 (by kernel_rfl) (by kernel_rfl) (by kernel_rfl) (by kernel_rfl) (by kernel_rfl) (lenK ((len_encV len_encB) _) (by kernel_rfl)) ((one_encV one_encB) _) (by simp only [len_encV len_encB,List.length_cons,List.length_nil,List.length_append]; omega) (over_all (((len_encV len_encB) _).trans ((len_encV len_encB) _).symm)) ?_
    intro w302 hS303
    refine sR 3 td256 ?_
    have hS304:=hS303.pick1
    have hS305:=hS304.pick2
    exact rF _ (J212 (vset (vset (vset (vset (vset (vset (vset (vset (vset (Vector.replicate 9 false) 0 true) 1 false) 2 true) 3 true) 4 true) 5 false) 6 false) 7 false) 8 t118) (Option.some.inj hp297) _ b298 _ hS305)
   have hp306:=ite_t hp286 rfl
   refine sI 11 (iR p5_52 15 34::td264) 176 hp306 (fun hp309 => ?_) fun hp350 => ?_
   ·refine sI 5 td266 181 hp309 (fun hp312 => ?_) fun hp331 => ?_
    ·refine sR 5 td267 ?_
     cases t112
     ·have hp313:=ite_f hp312 rfl
      refine sR 22 td265 ?_
      refine rA 51 (.agg ((encV encB) (Vector.replicate 9 false)).toArray) ((encV encB) (Vector.replicate 9 false)) hS203 ?_
      intro b314 w315 hS316
      refine r_store (c:=p5_52) (i:=48) (d:=none) (ty:=0) (t:=51) (x:=(.tmp 22)) (y:=(.tmp 208)) (b:=b314) (o:=0) (e:=51) (cs:=(encV encB) (Vector.replicate 9 false)) (v:=.agg ((encV encB) (vset (vset (vset (vset (vset (vset (vset (vset (vset (Vector.replicate 9 false) 0 true) 1 false) 2 true) 3 true) 4 true) 5 t118) 6 t118) 7 true) 8 true)).toArray) (vs:=(encV encB) (vset (vset (vset (vset (vset (vset (vset (vset (vset (Vector.replicate 9 false) 0 true) 1 false) 2 true) 3 true) 4 true) 5 t118) 6 t118) 7 true) 8 true)) (cs':=(encV encB) (vset (vset (vset (vset (vset (vset (vset (vset (vset (Vector.replicate 9 false) 0 true) 1 false) 2 true) 3 true) 4 true) 5 t118) 6 t118) 7 true) 8 true)) hS316 (by kernel_rfl) (by kernel_rfl) (by kernel_rfl) (by kernel_rfl) (by kernel_rfl) (lenK ((len_encV len_encB) _) (by kernel_rfl)) ((one_encV one_encB) _) (by simp only [len_encV len_encB,List.length_cons,List.length_nil,List.length_append]; omega) (over_all (((len_encV len_encB) _).trans ((len_encV len_encB) _).symm)) ?_
      intro w318 hS319
      refine sR 3 td256 ?_
      have hS320:=hS319.pick1
      have hS321:=hS320.pick2
      exact rF _ (J212 (vset (vset (vset (vset (vset (vset (vset (vset (vset (Vector.replicate 9 false) 0 true) 1 false) 2 true) 3 true) 4 true) 5 t118) 6 t118) 7 true) 8 true) (Option.some.inj hp313) _ b314 _ hS321)
     have hp322:=ite_t hp312 rfl
     refine sR 22 td265 ?_
     refine rA 51 (.agg ((encV encB) (Vector.replicate 9 false)).toArray) ((encV encB) (Vector.replicate 9 false)) hS203 ?_
     intro b323 w324 hS325
     refine r_store (c:=p5_52) (i:=48) (d:=none) (ty:=0) (t:=51) (x:=(.tmp 22)) (y:=(.tmp 208)) (b:=b323) (o:=0) (e:=51) (cs:=(encV encB) (Vector.replicate 9 false)) (v:=.agg ((encV encB) (vset (vset (vset (vset (vset (vset (vset (vset (vset (Vector.replicate 9 false) 0 true) 1 true) 2 true) 3 true) 4 true) 5 true) 6 true) 7 true) 8 true)).toArray) (vs:=(encV encB) (vset (vset (vset (vset (vset (vset (vset (vset (vset (Vector.replicate 9 false) 0 true) 1 true) 2 true) 3 true) 4 true) 5 true) 6 true) 7 true) 8 true)) (cs':=(encV encB) (vset (vset (vset (vset (vset (vset (vset (vset (vset (Vector.replicate 9 false) 0 true) 1 true) 2 true) 3 true) 4 true) 5 true) 6 true) 7 true) 8 true)) hS325 (by kernel_rfl) (by kernel_rfl) (by kernel_rfl) (by kernel_rfl) (by kernel_rfl) (lenK ((len_encV len_encB) _) (by kernel_rfl)) ((one_encV one_encB) _) (by simp only [len_encV len_encB,List.length_cons,List.length_nil,List.length_append]; omega) (over_all (((len_encV len_encB) _).trans ((len_encV len_encB) _).symm)) ?_
     intro w327 hS328
     refine sR 3 td256 ?_
     have hS329:=hS328.pick1
     have hS330:=hS329.pick2
     exact rF _ (J212 (vset (vset (vset (vset (vset (vset (vset (vset (vset (Vector.replicate 9 false) 0 true) 1 true) 2 true) 3 true) 4 true) 5 true) 6 true) 7 true) 8 true) (Option.some.inj hp322) _ b323 _ hS330)
    refine sR 5 td267 ?_
    cases t112
    ·have hp332:=ite_f hp331 rfl
     refine sR 22 td265 ?_
     refine rA 51 (.agg ((encV encB) (Vector.replicate 9 false)).toArray) ((encV encB) (Vector.replicate 9 false)) hS203 ?_
     intro b333 w334 hS335
     refine r_store (c:=p5_52) (i:=48) (d:=none) (ty:=0) (t:=51) (x:=(.tmp 22)) (y:=(.tmp 208)) (b:=b333) (o:=0) (e:=51) (cs:=(encV encB) (Vector.replicate 9 false)) (v:=.agg ((encV encB) (vset (vset (vset (vset (vset (vset (vset (vset (vset (Vector.replicate 9 false) 0 true) 1 false) 2 true) 3 true) 4 false) 5 t118) 6 t118) 7 true) 8 true)).toArray) (vs:=(encV encB) (vset (vset (vset (vset (vset (vset (vset (vset (vset (Vector.replicate 9 false) 0 true) 1 false) 2 true) 3 true) 4 false) 5 t118) 6 t118) 7 true) 8 true)) (cs':=(encV encB) (vset (vset (vset (vset (vset (vset (vset (vset (vset (Vector.replicate 9 false) 0 true) 1 false) 2 true) 3 true) 4 false) 5 t118) 6 t118) 7 true) 8 true)) hS335 (by kernel_rfl) (by kernel_rfl) (by kernel_rfl) (by kernel_rfl) (by kernel_rfl) (lenK ((len_encV len_encB) _) (by kernel_rfl)) ((one_encV one_encB) _) (by simp only [len_encV len_encB,List.length_cons,List.length_nil,List.length_append]; omega) (over_all (((len_encV len_encB) _).trans ((len_encV len_encB) _).symm)) ?_
     intro w337 hS338
     refine sR 3 td256 ?_
     have hS339:=hS338.pick1
     have hS340:=hS339.pick2
     exact rF _ (J212 (vset (vset (vset (vset (vset (vset (vset (vset (vset (Vector.replicate 9 false) 0 true) 1 false) 2 true) 3 true) 4 false) 5 t118) 6 t118) 7 true) 8 true) (Option.some.inj hp332) _ b333 _ hS340)
    have hp341:=ite_t hp331 rfl
    refine sR 22 td265 ?_
    refine rA 51 (.agg ((encV encB) (Vector.replicate 9 false)).toArray) ((encV encB) (Vector.replicate 9 false)) hS203 ?_
    intro b342 w343 hS344
    refine r_store (c:=p5_52) (i:=48) (d:=none) (ty:=0) (t:=51) (x:=(.tmp 22)) (y:=(.tmp 208)) (b:=b342) (o:=0) (e:=51) (cs:=(encV encB) (Vector.replicate 9 false)) (v:=.agg ((encV encB) (vset (vset (vset (vset (vset (vset (vset (vset (vset (Vector.replicate 9 false) 0 true) 1 true) 2 true) 3 true) 4 false) 5 true) 6 true) 7 true) 8 true)).toArray) (vs:=(encV encB) (vset (vset (vset (vset (vset (vset (vset (vset (vset (Vector.replicate 9 false) 0 true) 1 true) 2 true) 3 true) 4 false) 5 true) 6 true) 7 true) 8 true)) (cs':=(encV encB) (vset (vset (vset (vset (vset (vset (vset (vset (vset (Vector.replicate 9 false) 0 true) 1 true) 2 true) 3 true) 4 false) 5 true) 6 true) 7 true) 8 true)) hS344 (by kernel_rfl) (by kernel_rfl) (by kernel_rfl) (by kernel_rfl) (by kernel_rfl) (lenK ((len_encV len_encB) _) (by kernel_rfl)) ((one_encV one_encB) _) (by simp only [len_encV len_encB,List.length_cons,List.length_nil,List.length_append]; omega) (over_all (((len_encV len_encB) _).trans ((len_encV len_encB) _).symm)) ?_
    intro w346 hS347
    refine sR 3 td256 ?_
    have hS348:=hS347.pick1
    have hS349:=hS348.pick2
    exact rF _ (J212 (vset (vset (vset (vset (vset (vset (vset (vset (vset (Vector.replicate 9 false) 0 true) 1 true) 2 true) 3 true) 4 false) 5 true) 6 true) 7 true) 8 true) (Option.some.inj hp341) _ b342 _ hS349)
   refine sI 5 td266 181 hp350 (fun hp353 => ?_) fun hp372 => ?_
   ·refine sR 5 td267 ?_
    cases t112
    ·have hp354:=ite_f hp353 rfl
     refine sR 22 td265 ?_
     refine rA 51 (.agg ((encV encB) (Vector.replicate 9 false)).toArray) ((encV encB) (Vector.replicate 9 false)) hS203 ?_
     intro b355 w356 hS357
     refine r_store (c:=p5_52) (i:=48) (d:=none) (ty:=0) (t:=51) (x:=(.tmp 22)) (y:=(.tmp 208)) (b:=b355) (o:=0) (e:=51) (cs:=(encV encB) (Vector.replicate 9 false)) (v:=.agg ((encV encB) (vset (vset (vset (vset (vset (vset (vset (vset (vset (Vector.replicate 9 false) 0 true) 1 false) 2 true) 3 false) 4 true) 5 t118) 6 t118) 7 true) 8 true)).toArray) (vs:=(encV encB) (vset (vset (vset (vset (vset (vset (vset (vset (vset (Vector.replicate 9 false) 0 true) 1 false) 2 true) 3 false) 4 true) 5 t118) 6 t118) 7 true) 8 true)) (cs':=(encV encB) (vset (vset (vset (vset (vset (vset (vset (vset (vset (Vector.replicate 9 false) 0 true) 1 false) 2 true) 3 false) 4 true) 5 t118) 6 t118) 7 true) 8 true)) hS357 (by kernel_rfl) (by kernel_rfl) (by kernel_rfl) (by kernel_rfl) (by kernel_rfl) (lenK ((len_encV len_encB) _) (by kernel_rfl)) ((one_encV one_encB) _) (by simp only [len_encV len_encB,List.length_cons,List.length_nil,List.length_append]; omega) (over_all (((len_encV len_encB) _).trans ((len_encV len_encB) _).symm)) ?_
     intro w359 hS360
     refine sR 3 td256 ?_
     have hS361:=hS360.pick1
     have hS362:=hS361.pick2
     exact rF _ (J212 (vset (vset (vset (vset (vset (vset (vset (vset (vset (Vector.replicate 9 false) 0 true) 1 false) 2 true) 3 false) 4 true) 5 t118) 6 t118) 7 true) 8 true) (Option.some.inj hp354) _ b355 _ hS362)
    have hp363:=ite_t hp353 rfl
    refine sR 22 td265 ?_
    refine rA 51 (.agg ((encV encB) (Vector.replicate 9 false)).toArray) ((encV encB) (Vector.replicate 9 false)) hS203 ?_
    intro b364 w365 hS366
    refine r_store (c:=p5_52) (i:=48) (d:=none) (ty:=0) (t:=51) (x:=(.tmp 22)) (y:=(.tmp 208)) (b:=b364) (o:=0) (e:=51) (cs:=(encV encB) (Vector.replicate 9 false)) (v:=.agg ((encV encB) (vset (vset (vset (vset (vset (vset (vset (vset (vset (Vector.replicate 9 false) 0 true) 1 true) 2 true) 3 false) 4 true) 5 true) 6 true) 7 true) 8 true)).toArray) (vs:=(encV encB) (vset (vset (vset (vset (vset (vset (vset (vset (vset (Vector.replicate 9 false) 0 true) 1 true) 2 true) 3 false) 4 true) 5 true) 6 true) 7 true) 8 true)) (cs':=(encV encB) (vset (vset (vset (vset (vset (vset (vset (vset (vset (Vector.replicate 9 false) 0 true) 1 true) 2 true) 3 false) 4 true) 5 true) 6 true) 7 true) 8 true)) hS366 (by kernel_rfl) (by kernel_rfl) (by kernel_rfl) (by kernel_rfl) (by kernel_rfl) (lenK ((len_encV len_encB) _) (by kernel_rfl)) ((one_encV one_encB) _) (by simp only [len_encV len_encB,List.length_cons,List.length_nil,List.length_append]; omega) (over_all (((len_encV len_encB) _).trans ((len_encV len_encB) _).symm)) ?_
    intro w368 hS369
    refine sR 3 td256 ?_
    have hS370:=hS369.pick1
    have hS371:=hS370.pick2
    exact rF _ (J212 (vset (vset (vset (vset (vset (vset (vset (vset (vset (Vector.replicate 9 false) 0 true) 1 true) 2 true) 3 false) 4 true) 5 true) 6 true) 7 true) 8 true) (Option.some.inj hp363) _ b364 _ hS371)
   refine sR 5 td267 ?_
   cases t112
   ·have hp373:=ite_f hp372 rfl
    refine sR 22 td265 ?_
    refine rA 51 (.agg ((encV encB) (Vector.replicate 9 false)).toArray) ((encV encB) (Vector.replicate 9 false)) hS203 ?_
    intro b374 w375 hS376
    refine r_store (c:=p5_52) (i:=48) (d:=none) (ty:=0) (t:=51) (x:=(.tmp 22)) (y:=(.tmp 208)) (b:=b374) (o:=0) (e:=51) (cs:=(encV encB) (Vector.replicate 9 false)) (v:=.agg ((encV encB) (vset (vset (vset (vset (vset (vset (vset (vset (vset (Vector.replicate 9 false) 0 true) 1 false) 2 true) 3 false) 4 false) 5 t118) 6 t118) 7 true) 8 true)).toArray) (vs:=(encV encB) (vset (vset (vset (vset (vset (vset (vset (vset (vset (Vector.replicate 9 false) 0 true) 1 false) 2 true) 3 false) 4 false) 5 t118) 6 t118) 7 true) 8 true)) (cs':=(encV encB) (vset (vset (vset (vset (vset (vset (vset (vset (vset (Vector.replicate 9 false) 0 true) 1 false) 2 true) 3 false) 4 false) 5 t118) 6 t118) 7 true) 8 true)) hS376 (by kernel_rfl) (by kernel_rfl) (by kernel_rfl) (by kernel_rfl) (by kernel_rfl) (lenK ((len_encV len_encB) _) (by kernel_rfl)) ((one_encV one_encB) _) (by simp only [len_encV len_encB,List.length_cons,List.length_nil,List.length_append]; omega) (over_all (((len_encV len_encB) _).trans ((len_encV len_encB) _).symm)) ?_
    intro w378 hS379
    refine sR 3 td256 ?_
    have hS380:=hS379.pick1
    have hS381:=hS380.pick2
    exact rF _ (J212 (vset (vset (vset (vset (vset (vset (vset (vset (vset (Vector.replicate 9 false) 0 true) 1 false) 2 true) 3 false) 4 false) 5 t118) 6 t118) 7 true) 8 true) (Option.some.inj hp373) _ b374 _ hS381)
   have hp382:=ite_t hp372 rfl
   refine sR 22 td265 ?_
   refine rA 51 (.agg ((encV encB) (Vector.replicate 9 false)).toArray) ((encV encB) (Vector.replicate 9 false)) hS203 ?_
   intro b383 w384 hS385
   refine r_store (c:=p5_52) (i:=48) (d:=none) (ty:=0) (t:=51) (x:=(.tmp 22)) (y:=(.tmp 208)) (b:=b383) (o:=0) (e:=51) (cs:=(encV encB) (Vector.replicate 9 false)) (v:=.agg ((encV encB) (vset (vset (vset (vset (vset (vset (vset (vset (vset (Vector.replicate 9 false) 0 true) 1 true) 2 true) 3 false) 4 false) 5 true) 6 true) 7 true) 8 true)).toArray) (vs:=(encV encB) (vset (vset (vset (vset (vset (vset (vset (vset (vset (Vector.replicate 9 false) 0 true) 1 true) 2 true) 3 false) 4 false) 5 true) 6 true) 7 true) 8 true)) (cs':=(encV encB) (vset (vset (vset (vset (vset (vset (vset (vset (vset (Vector.replicate 9 false) 0 true) 1 true) 2 true) 3 false) 4 false) 5 true) 6 true) 7 true) 8 true)) hS385 (by kernel_rfl) (by kernel_rfl) (by kernel_rfl) (by kernel_rfl) (by kernel_rfl) (lenK ((len_encV len_encB) _) (by kernel_rfl)) ((one_encV one_encB) _) (by simp only [len_encV len_encB,List.length_cons,List.length_nil,List.length_append]; omega) (over_all (((len_encV len_encB) _).trans ((len_encV len_encB) _).symm)) ?_
   intro w387 hS388
   refine sR 3 td256 ?_
   have hS389:=hS388.pick1
   have hS390:=hS389.pick2
   exact rF _ (J212 (vset (vset (vset (vset (vset (vset (vset (vset (vset (Vector.replicate 9 false) 0 true) 1 true) 2 true) 3 false) 4 false) 5 true) 6 true) 7 true) 8 true) (Option.some.inj hp382) _ b383 _ hS390)
  refine sR 2 (iR p5_52 4 45::td264) ?_
  cases t106
  ·have hp392:=ite_f hp391 rfl
   refine sR 39 (iR p5_52 43 6::td264) ?_
   cases t112
   ·have hp393:=ite_f hp392 rfl
    refine sR 4 td265 ?_
    refine rA 51 (.agg ((encV encB) (Vector.replicate 9 false)).toArray) ((encV encB) (Vector.replicate 9 false)) hS203 ?_
    intro b394 w395 hS396
    refine r_store (c:=p5_52) (i:=48) (d:=none) (ty:=0) (t:=51) (x:=(.tmp 22)) (y:=(.tmp 208)) (b:=b394) (o:=0) (e:=51) (cs:=(encV encB) (Vector.replicate 9 false)) (v:=.agg ((encV encB) (vset (vset (vset (vset (vset (vset (vset (vset (vset (Vector.replicate 9 false) 0 false) 1 false) 2 false) 3 true) 4 true) 5 false) 6 false) 7 false) 8 false)).toArray) (vs:=(encV encB) (vset (vset (vset (vset (vset (vset (vset (vset (vset (Vector.replicate 9 false) 0 false) 1 false) 2 false) 3 true) 4 true) 5 false) 6 false) 7 false) 8 false)) (cs':=(encV encB) (vset (vset (vset (vset (vset (vset (vset (vset (vset (Vector.replicate 9 false) 0 false) 1 false) 2 false) 3 true) 4 true) 5 false) 6 false) 7 false) 8 false)) hS396 (by kernel_rfl) (by kernel_rfl) (by kernel_rfl) (by kernel_rfl) (by kernel_rfl) (lenK ((len_encV len_encB) _) (by kernel_rfl)) ((one_encV one_encB) _) (by simp only [len_encV len_encB,List.length_cons,List.length_nil,List.length_append]; omega) (over_all (((len_encV len_encB) _).trans ((len_encV len_encB) _).symm)) ?_
    intro w398 hS399
    refine sR 3 td256 ?_
    have hS400:=hS399.pick1
    have hS401:=hS400.pick2
    exact rF _ (J212 (vset (vset (vset (vset (vset (vset (vset (vset (vset (Vector.replicate 9 false) 0 false) 1 false) 2 false) 3 true) 4 true) 5 false) 6 false) 7 false) 8 false) (Option.some.inj hp393) _ b394 _ hS401)
   have hp402:=ite_t hp392 rfl
   refine sR 4 td265 ?_
   refine rA 51 (.agg ((encV encB) (Vector.replicate 9 false)).toArray) ((encV encB) (Vector.replicate 9 false)) hS203 ?_
   intro b403 w404 hS405
   refine r_store (c:=p5_52) (i:=48) (d:=none) (ty:=0) (t:=51) (x:=(.tmp 22)) (y:=(.tmp 208)) (b:=b403) (o:=0) (e:=51) (cs:=(encV encB) (Vector.replicate 9 false)) (v:=.agg ((encV encB) (vset (vset (vset (vset (vset (vset (vset (vset (vset (Vector.replicate 9 false) 0 false) 1 false) 2 true) 3 true) 4 true) 5 false) 6 false) 7 false) 8 t118)).toArray) (vs:=(encV encB) (vset (vset (vset (vset (vset (vset (vset (vset (vset (Vector.replicate 9 false) 0 false) 1 false) 2 true) 3 true) 4 true) 5 false) 6 false) 7 false) 8 t118)) (cs':=(encV encB) (vset (vset (vset (vset (vset (vset (vset (vset (vset (Vector.replicate 9 false) 0 false) 1 false) 2 true) 3 true) 4 true) 5 false) 6 false) 7 false) 8 t118)) hS405 (by kernel_rfl) (by kernel_rfl) (by kernel_rfl) (by kernel_rfl) (by kernel_rfl) (lenK ((len_encV len_encB) _) (by kernel_rfl)) ((one_encV one_encB) _) (by simp only [len_encV len_encB,List.length_cons,List.length_nil,List.length_append]; omega) (over_all (((len_encV len_encB) _).trans ((len_encV len_encB) _).symm)) ?_
   intro w407 hS408
   refine sR 3 td256 ?_
   have hS409:=hS408.pick1
   have hS410:=hS409.pick2
   exact rF _ (J212 (vset (vset (vset (vset (vset (vset (vset (vset (vset (Vector.replicate 9 false) 0 false) 1 false) 2 true) 3 true) 4 true) 5 false) 6 false) 7 false) 8 t118) (Option.some.inj hp402) _ b403 _ hS410)
  have hp411:=ite_t hp391 rfl
  refine sI 11 (iR p5_52 15 34::td264) 176 hp411 (fun hp414 => ?_) fun hp455 => ?_
  ·refine sI 5 td266 181 hp414 (fun hp417 => ?_) fun hp436 => ?_
   ·refine sR 5 td267 ?_
    cases t112
    ·have hp418:=ite_f hp417 rfl
     refine sR 22 td265 ?_
     refine rA 51 (.agg ((encV encB) (Vector.replicate 9 false)).toArray) ((encV encB) (Vector.replicate 9 false)) hS203 ?_
     intro b419 w420 hS421
     refine r_store (c:=p5_52) (i:=48) (d:=none) (ty:=0) (t:=51) (x:=(.tmp 22)) (y:=(.tmp 208)) (b:=b419) (o:=0) (e:=51) (cs:=(encV encB) (Vector.replicate 9 false)) (v:=.agg ((encV encB) (vset (vset (vset (vset (vset (vset (vset (vset (vset (Vector.replicate 9 false) 0 false) 1 false) 2 true) 3 true) 4 true) 5 t118) 6 t118) 7 true) 8 true)).toArray) (vs:=(encV encB) (vset (vset (vset (vset (vset (vset (vset (vset (vset (Vector.replicate 9 false) 0 false) 1 false) 2 true) 3 true) 4 true) 5 t118) 6 t118) 7 true) 8 true)) (cs':=(encV encB) (vset (vset (vset (vset (vset (vset (vset (vset (vset (Vector.replicate 9 false) 0 false) 1 false) 2 true) 3 true) 4 true) 5 t118) 6 t118) 7 true) 8 true)) hS421 (by kernel_rfl) (by kernel_rfl) (by kernel_rfl) (by kernel_rfl) (by kernel_rfl) (lenK ((len_encV len_encB) _) (by kernel_rfl)) ((one_encV one_encB) _) (by simp only [len_encV len_encB,List.length_cons,List.length_nil,List.length_append]; omega) (over_all (((len_encV len_encB) _).trans ((len_encV len_encB) _).symm)) ?_
     intro w423 hS424
     refine sR 3 td256 ?_
     have hS425:=hS424.pick1
     have hS426:=hS425.pick2
     exact rF _ (J212 (vset (vset (vset (vset (vset (vset (vset (vset (vset (Vector.replicate 9 false) 0 false) 1 false) 2 true) 3 true) 4 true) 5 t118) 6 t118) 7 true) 8 true) (Option.some.inj hp418) _ b419 _ hS426)
    have hp427:=ite_t hp417 rfl
    refine sR 22 td265 ?_
    refine rA 51 (.agg ((encV encB) (Vector.replicate 9 false)).toArray) ((encV encB) (Vector.replicate 9 false)) hS203 ?_
    intro b428 w429 hS430
    refine r_store (c:=p5_52) (i:=48) (d:=none) (ty:=0) (t:=51) (x:=(.tmp 22)) (y:=(.tmp 208)) (b:=b428) (o:=0) (e:=51) (cs:=(encV encB) (Vector.replicate 9 false)) (v:=.agg ((encV encB) (vset (vset (vset (vset (vset (vset (vset (vset (vset (Vector.replicate 9 false) 0 false) 1 true) 2 true) 3 true) 4 true) 5 true) 6 true) 7 true) 8 true)).toArray) (vs:=(encV encB) (vset (vset (vset (vset (vset (vset (vset (vset (vset (Vector.replicate 9 false) 0 false) 1 true) 2 true) 3 true) 4 true) 5 true) 6 true) 7 true) 8 true)) (cs':=(encV encB) (vset (vset (vset (vset (vset (vset (vset (vset (vset (Vector.replicate 9 false) 0 false) 1 true) 2 true) 3 true) 4 true) 5 true) 6 true) 7 true) 8 true)) hS430 (by kernel_rfl) (by kernel_rfl) (by kernel_rfl) (by kernel_rfl) (by kernel_rfl) (lenK ((len_encV len_encB) _) (by kernel_rfl)) ((one_encV one_encB) _) (by simp only [len_encV len_encB,List.length_cons,List.length_nil,List.length_append]; omega) (over_all (((len_encV len_encB) _).trans ((len_encV len_encB) _).symm)) ?_
    intro w432 hS433
    refine sR 3 td256 ?_
    have hS434:=hS433.pick1
    have hS435:=hS434.pick2
    exact rF _ (J212 (vset (vset (vset (vset (vset (vset (vset (vset (vset (Vector.replicate 9 false) 0 false) 1 true) 2 true) 3 true) 4 true) 5 true) 6 true) 7 true) 8 true) (Option.some.inj hp427) _ b428 _ hS435)
   refine sR 5 td267 ?_
   cases t112
   ·have hp437:=ite_f hp436 rfl
    refine sR 22 td265 ?_
    refine rA 51 (.agg ((encV encB) (Vector.replicate 9 false)).toArray) ((encV encB) (Vector.replicate 9 false)) hS203 ?_
    intro b438 w439 hS440
    refine r_store (c:=p5_52) (i:=48) (d:=none) (ty:=0) (t:=51) (x:=(.tmp 22)) (y:=(.tmp 208)) (b:=b438) (o:=0) (e:=51) (cs:=(encV encB) (Vector.replicate 9 false)) (v:=.agg ((encV encB) (vset (vset (vset (vset (vset (vset (vset (vset (vset (Vector.replicate 9 false) 0 false) 1 false) 2 true) 3 true) 4 false) 5 t118) 6 t118) 7 true) 8 true)).toArray) (vs:=(encV encB) (vset (vset (vset (vset (vset (vset (vset (vset (vset (Vector.replicate 9 false) 0 false) 1 false) 2 true) 3 true) 4 false) 5 t118) 6 t118) 7 true) 8 true)) (cs':=(encV encB) (vset (vset (vset (vset (vset (vset (vset (vset (vset (Vector.replicate 9 false) 0 false) 1 false) 2 true) 3 true) 4 false) 5 t118) 6 t118) 7 true) 8 true)) hS440 (by kernel_rfl) (by kernel_rfl) (by kernel_rfl) (by kernel_rfl) (by kernel_rfl) (lenK ((len_encV len_encB) _) (by kernel_rfl)) ((one_encV one_encB) _) (by simp only [len_encV len_encB,List.length_cons,List.length_nil,List.length_append]; omega) (over_all (((len_encV len_encB) _).trans ((len_encV len_encB) _).symm)) ?_
    intro w442 hS443
    refine sR 3 td256 ?_
    have hS444:=hS443.pick1
    have hS445:=hS444.pick2
    exact rF _ (J212 (vset (vset (vset (vset (vset (vset (vset (vset (vset (Vector.replicate 9 false) 0 false) 1 false) 2 true) 3 true) 4 false) 5 t118) 6 t118) 7 true) 8 true) (Option.some.inj hp437) _ b438 _ hS445)
   have hp446:=ite_t hp436 rfl
   refine sR 22 td265 ?_
   refine rA 51 (.agg ((encV encB) (Vector.replicate 9 false)).toArray) ((encV encB) (Vector.replicate 9 false)) hS203 ?_
   intro b447 w448 hS449
   refine r_store (c:=p5_52) (i:=48) (d:=none) (ty:=0) (t:=51) (x:=(.tmp 22)) (y:=(.tmp 208)) (b:=b447) (o:=0) (e:=51) (cs:=(encV encB) (Vector.replicate 9 false)) (v:=.agg ((encV encB) (vset (vset (vset (vset (vset (vset (vset (vset (vset (Vector.replicate 9 false) 0 false) 1 true) 2 true) 3 true) 4 false) 5 true) 6 true) 7 true) 8 true)).toArray) (vs:=(encV encB) (vset (vset (vset (vset (vset (vset (vset (vset (vset (Vector.replicate 9 false) 0 false) 1 true) 2 true) 3 true) 4 false) 5 true) 6 true) 7 true) 8 true)) (cs':=(encV encB) (vset (vset (vset (vset (vset (vset (vset (vset (vset (Vector.replicate 9 false) 0 false) 1 true) 2 true) 3 true) 4 false) 5 true) 6 true) 7 true) 8 true)) hS449 (by kernel_rfl) (by kernel_rfl) (by kernel_rfl) (by kernel_rfl) (by kernel_rfl) (lenK ((len_encV len_encB) _) (by kernel_rfl)) ((one_encV one_encB) _) (by simp only [len_encV len_encB,List.length_cons,List.length_nil,List.length_append]; omega) (over_all (((len_encV len_encB) _).trans ((len_encV len_encB) _).symm)) ?_
   intro w451 hS452
   refine sR 3 td256 ?_
   have hS453:=hS452.pick1
   have hS454:=hS453.pick2
   exact rF _ (J212 (vset (vset (vset (vset (vset (vset (vset (vset (vset (Vector.replicate 9 false) 0 false) 1 true) 2 true) 3 true) 4 false) 5 true) 6 true) 7 true) 8 true) (Option.some.inj hp446) _ b447 _ hS454)
  refine sI 5 td266 181 hp455 (fun hp458 => ?_) fun hp477 => ?_
  ·refine sR 5 td267 ?_
   cases t112
   ·have hp459:=ite_f hp458 rfl
    refine sR 22 td265 ?_
    refine rA 51 (.agg ((encV encB) (Vector.replicate 9 false)).toArray) ((encV encB) (Vector.replicate 9 false)) hS203 ?_
    intro b460 w461 hS462
    refine r_store (c:=p5_52) (i:=48) (d:=none) (ty:=0) (t:=51) (x:=(.tmp 22)) (y:=(.tmp 208)) (b:=b460) (o:=0) (e:=51) (cs:=(encV encB) (Vector.replicate 9 false)) (v:=.agg ((encV encB) (vset (vset (vset (vset (vset (vset (vset (vset (vset (Vector.replicate 9 false) 0 false) 1 false) 2 true) 3 false) 4 true) 5 t118) 6 t118) 7 true) 8 true)).toArray) (vs:=(encV encB) (vset (vset (vset (vset (vset (vset (vset (vset (vset (Vector.replicate 9 false) 0 false) 1 false) 2 true) 3 false) 4 true) 5 t118) 6 t118) 7 true) 8 true)) (cs':=(encV encB) (vset (vset (vset (vset (vset (vset (vset (vset (vset (Vector.replicate 9 false) 0 false) 1 false) 2 true) 3 false) 4 true) 5 t118) 6 t118) 7 true) 8 true)) hS462 (by kernel_rfl) (by kernel_rfl) (by kernel_rfl) (by kernel_rfl) (by kernel_rfl) (lenK ((len_encV len_encB) _) (by kernel_rfl)) ((one_encV one_encB) _) (by simp only [len_encV len_encB,List.length_cons,List.length_nil,List.length_append]; omega) (over_all (((len_encV len_encB) _).trans ((len_encV len_encB) _).symm)) ?_
    intro w464 hS465
    refine sR 3 td256 ?_
    have hS466:=hS465.pick1
    have hS467:=hS466.pick2
    exact rF _ (J212 (vset (vset (vset (vset (vset (vset (vset (vset (vset (Vector.replicate 9 false) 0 false) 1 false) 2 true) 3 false) 4 true) 5 t118) 6 t118) 7 true) 8 true) (Option.some.inj hp459) _ b460 _ hS467)
   have hp468:=ite_t hp458 rfl
   refine sR 22 td265 ?_
   refine rA 51 (.agg ((encV encB) (Vector.replicate 9 false)).toArray) ((encV encB) (Vector.replicate 9 false)) hS203 ?_
   intro b469 w470 hS471
   refine r_store (c:=p5_52) (i:=48) (d:=none) (ty:=0) (t:=51) (x:=(.tmp 22)) (y:=(.tmp 208)) (b:=b469) (o:=0) (e:=51) (cs:=(encV encB) (Vector.replicate 9 false)) (v:=.agg ((encV encB) (vset (vset (vset (vset (vset (vset (vset (vset (vset (Vector.replicate 9 false) 0 false) 1 true) 2 true) 3 false) 4 true) 5 true) 6 true) 7 true) 8 true)).toArray) (vs:=(encV encB) (vset (vset (vset (vset (vset (vset (vset (vset (vset (Vector.replicate 9 false) 0 false) 1 true) 2 true) 3 false) 4 true) 5 true) 6 true) 7 true) 8 true)) (cs':=(encV encB) (vset (vset (vset (vset (vset (vset (vset (vset (vset (Vector.replicate 9 false) 0 false) 1 true) 2 true) 3 false) 4 true) 5 true) 6 true) 7 true) 8 true)) hS471 (by kernel_rfl) (by kernel_rfl) (by kernel_rfl) (by kernel_rfl) (by kernel_rfl) (lenK ((len_encV len_encB) _) (by kernel_rfl)) ((one_encV one_encB) _) (by simp only [len_encV len_encB,List.length_cons,List.length_nil,List.length_append]; omega) (over_all (((len_encV len_encB) _).trans ((len_encV len_encB) _).symm)) ?_
   intro w473 hS474
   refine sR 3 td256 ?_
   have hS475:=hS474.pick1
   have hS476:=hS475.pick2
   exact rF _ (J212 (vset (vset (vset (vset (vset (vset (vset (vset (vset (Vector.replicate 9 false) 0 false) 1 true) 2 true) 3 false) 4 true) 5 true) 6 true) 7 true) 8 true) (Option.some.inj hp468) _ b469 _ hS476)
  refine sR 5 td267 ?_
  cases t112
  ·have hp478:=ite_f hp477 rfl
   refine sR 22 td265 ?_
   refine rA 51 (.agg ((encV encB) (Vector.replicate 9 false)).toArray) ((encV encB) (Vector.replicate 9 false)) hS203 ?_
   intro b479 w480 hS481
   refine r_store (c:=p5_52) (i:=48) (d:=none) (ty:=0) (t:=51) (x:=(.tmp 22)) (y:=(.tmp 208)) (b:=b479) (o:=0) (e:=51) (cs:=(encV encB) (Vector.replicate 9 false)) (v:=.agg ((encV encB) (vset (vset (vset (vset (vset (vset (vset (vset (vset (Vector.replicate 9 false) 0 false) 1 false) 2 true) 3 false) 4 false) 5 t118) 6 t118) 7 true) 8 true)).toArray) (vs:=(encV encB) (vset (vset (vset (vset (vset (vset (vset (vset (vset (Vector.replicate 9 false) 0 false) 1 false) 2 true) 3 false) 4 false) 5 t118) 6 t118) 7 true) 8 true)) (cs':=(encV encB) (vset (vset (vset (vset (vset (vset (vset (vset (vset (Vector.replicate 9 false) 0 false) 1 false) 2 true) 3 false) 4 false) 5 t118) 6 t118) 7 true) 8 true)) hS481 (by kernel_rfl) (by kernel_rfl) (by kernel_rfl) (by kernel_rfl) (by kernel_rfl) (lenK ((len_encV len_encB) _) (by kernel_rfl)) ((one_encV one_encB) _) (by simp only [len_encV len_encB,List.length_cons,List.length_nil,List.length_append]; omega) (over_all (((len_encV len_encB) _).trans ((len_encV len_encB) _).symm)) ?_
   intro w483 hS484
   refine sR 3 td256 ?_
   have hS485:=hS484.pick1
   have hS486:=hS485.pick2
   exact rF _ (J212 (vset (vset (vset (vset (vset (vset (vset (vset (vset (Vector.replicate 9 false) 0 false) 1 false) 2 true) 3 false) 4 false) 5 t118) 6 t118) 7 true) 8 true) (Option.some.inj hp478) _ b479 _ hS486)
  have hp487:=ite_t hp477 rfl
  refine sR 22 td265 ?_
  refine rA 51 (.agg ((encV encB) (Vector.replicate 9 false)).toArray) ((encV encB) (Vector.replicate 9 false)) hS203 ?_
  intro b488 w489 hS490
  refine r_store (c:=p5_52) (i:=48) (d:=none) (ty:=0) (t:=51) (x:=(.tmp 22)) (y:=(.tmp 208)) (b:=b488) (o:=0) (e:=51) (cs:=(encV encB) (Vector.replicate 9 false)) (v:=.agg ((encV encB) (vset (vset (vset (vset (vset (vset (vset (vset (vset (Vector.replicate 9 false) 0 false) 1 true) 2 true) 3 false) 4 false) 5 true) 6 true) 7 true) 8 true)).toArray) (vs:=(encV encB) (vset (vset (vset (vset (vset (vset (vset (vset (vset (Vector.replicate 9 false) 0 false) 1 true) 2 true) 3 false) 4 false) 5 true) 6 true) 7 true) 8 true)) (cs':=(encV encB) (vset (vset (vset (vset (vset (vset (vset (vset (vset (Vector.replicate 9 false) 0 false) 1 true) 2 true) 3 false) 4 false) 5 true) 6 true) 7 true) 8 true)) hS490 (by kernel_rfl) (by kernel_rfl) (by kernel_rfl) (by kernel_rfl) (by kernel_rfl) (lenK ((len_encV len_encB) _) (by kernel_rfl)) ((one_encV one_encB) _) (by simp only [len_encV len_encB,List.length_cons,List.length_nil,List.length_append]; omega) (over_all (((len_encV len_encB) _).trans ((len_encV len_encB) _).symm)) ?_
  intro w492 hS493
  refine sR 3 td256 ?_
  have hS494:=hS493.pick1
  have hS495:=hS494.pick2
  exact rF _ (J212 (vset (vset (vset (vset (vset (vset (vset (vset (vset (Vector.replicate 9 false) 0 false) 1 true) 2 true) 3 false) 4 false) 5 true) 6 true) 7 true) 8 true) (Option.some.inj hp487) _ b488 _ hS495)

end
end Go.Proofs.YtboejepakdnbgaaGreatDoor.K
