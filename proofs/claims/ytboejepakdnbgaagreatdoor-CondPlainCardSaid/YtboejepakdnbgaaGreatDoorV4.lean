/- The walk, part 4: each Go function as a plain Lean function, and that its call answers as that function says. No condition. -/
import Derived.Test.YtboejepakdnbgaaGreatDoorE
import Derived.Test.YtboejepakdnbgaaGreatDoorNG
import Derived.Test.YtboejepakdnbgaaGreatDoorNP
import Derived.Test.YtboejepakdnbgaaGreatDoorNI
import Derived.Test.YtboejepakdnbgaaGreatDoorNV
import Derived.Test.YtboejepakdnbgaaGreatDoorNX
import Derived.Test.YtboejepakdnbgaaGreatDoorNY
import Derived.Test.YtboejepakdnbgaaGreatDoorNC
import Derived.Test.YtboejepakdnbgaaGreatDoorNF
import Derived.Test.YtboejepakdnbgaaGreatDoorNB
import Derived.Test.YtboejepakdnbgaaGreatDoorNS
import Derived.Test.YtboejepakdnbgaaGreatDoorLS
import Derived.Test.YtboejepakdnbgaaGreatDoorV3
set_option linter.unusedVariables false
set_option linter.unusedSimpArgs false
set_option maxRecDepth 100000
namespace Go.Proofs.YtboejepakdnbgaaGreatDoor.K
open Go Go.RowKit
noncomputable section
set_option maxHeartbeats 16000000
variable {w0 : World} {Z : Zm} {fs : List XObj} {w : World}
abbrev td236:List Item:=[.code (cd21 [1,1,1,1])]
abbrev td237:List Item:=.inBlock 0::td236
abbrev td238:List Item:=.inLoop (cd21 [1,1,1,0,1,0,0])::td237
abbrev td239:List Item:=.code (cd21 [1,1,1,0,1,0,0])::td238
abbrev td240:List Item:=.code (cd21 [1,1,1,0,1,0,0,1,1,1])::td238
abbrev td241:List Item:=.inBlock 1::td240
abbrev td242:List Item:=.inBlock 2::td241
abbrev td243:List Item:=.inRegion (opsOf p21_30) [14,15]::td242
abbrev td244:List Item:=.inRegion (opsOf p21_33) [14,15]::td242
def cond_Holds_1.l0 (a0 : List api_Node) (a1c0 : weirlaw06_Set) (t40 : Int) (t41 : List Bool) : Option (List Bool) :=
  (if (decide (t40 < (a0.length : Int))) = true then (if 0 ≤ t40 ∧ t40 < (a0.length : Int) then (if (((gt a0 t40).Op) == 1) = true then (if 0 ≤ t40 ∧ t40 < (t41.length : Int) then (cond_Holds_1.l0 a0 a1c0 (IntKind.i64.wrap (t40 + 1)) (setl t41 t40 true)) else none) else (if (((gt a0 t40).Op) == 2) = true then (weirlaw06_Set__of.f a1c0 ((gt a0 t40).Ref) >>= (fun t84 => (if (t84 == ((gt a0 t40).Value)) = true then (if 0 ≤ t40 ∧ t40 < (t41.length : Int) then (cond_Holds_1.l0 a0 a1c0 (IntKind.i64.wrap (t40 + 1)) (setl t41 t40 true)) else none) else (if 0 ≤ t40 ∧ t40 < (t41.length : Int) then (cond_Holds_1.l0 a0 a1c0 (IntKind.i64.wrap (t40 + 1)) (setl t41 t40 false)) else none)))) else (if (((gt a0 t40).Op) == 3) = true then (if 0 ≤ ((gt a0 t40).A) ∧ ((gt a0 t40).A) < (t41.length : Int) then (if (gt t41 ((gt a0 t40).A)) = true then (if 0 ≤ t40 ∧ t40 < (t41.length : Int) then (cond_Holds_1.l0 a0 a1c0 (IntKind.i64.wrap (t40 + 1)) (setl t41 t40 false)) else none) else (if 0 ≤ t40 ∧ t40 < (t41.length : Int) then (cond_Holds_1.l0 a0 a1c0 (IntKind.i64.wrap (t40 + 1)) (setl t41 t40 true)) else none)) else none) else (if (((gt a0 t40).Op) == 4) = true then (if 0 ≤ ((gt a0 t40).A) ∧ ((gt a0 t40).A) < (t41.length : Int) then (if (gt t41 ((gt a0 t40).A)) = true then (if 0 ≤ ((gt a0 t40).B) ∧ ((gt a0 t40).B) < (t41.length : Int) then (if (gt t41 ((gt a0 t40).B)) = true then (if 0 ≤ t40 ∧ t40 < (t41.length : Int) then (cond_Holds_1.l0 a0 a1c0 (IntKind.i64.wrap (t40 + 1)) (setl t41 t40 true)) else none) else (if 0 ≤ t40 ∧ t40 < (t41.length : Int) then (cond_Holds_1.l0 a0 a1c0 (IntKind.i64.wrap (t40 + 1)) (setl t41 t40 false)) else none)) else none) else (if 0 ≤ t40 ∧ t40 < (t41.length : Int) then (cond_Holds_1.l0 a0 a1c0 (IntKind.i64.wrap (t40 + 1)) (setl t41 t40 false)) else none)) else none) else (if (((gt a0 t40).Op) == 5) = true then (if 0 ≤ ((gt a0 t40).A) ∧ ((gt a0 t40).A) < (t41.length : Int) then (if (gt t41 ((gt a0 t40).A)) = true then (if 0 ≤ t40 ∧ t40 < (t41.length : Int) then (cond_Holds_1.l0 a0 a1c0 (IntKind.i64.wrap (t40 + 1)) (setl t41 t40 true)) else none) else (if 0 ≤ ((gt a0 t40).B) ∧ ((gt a0 t40).B) < (t41.length : Int) then (if (gt t41 ((gt a0 t40).B)) = true then (if 0 ≤ t40 ∧ t40 < (t41.length : Int) then (cond_Holds_1.l0 a0 a1c0 (IntKind.i64.wrap (t40 + 1)) (setl t41 t40 true)) else none) else (if 0 ≤ t40 ∧ t40 < (t41.length : Int) then (cond_Holds_1.l0 a0 a1c0 (IntKind.i64.wrap (t40 + 1)) (setl t41 t40 false)) else none)) else none)) else none) else (cond_Holds_1.l0 a0 a1c0 (IntKind.i64.wrap (t40 + 1)) (id t41))))))) else none) else some (t41))
 partial_fixpoint
def cond_Holds_1.f (a0 : List api_Node) (a1c0 : weirlaw06_Set) : Option (Bool × Int) :=
  (cond_Check.f a0 >>= (fun t1 => (if (t1 != 0) = true then some ((false,t1)) else (if 0 ≤ (a0.length : Int) ∧ (a0.length : Int) * 1 ≤ 140737488355328 then (cond_Holds_1.l0 a0 a1c0 0 (List.replicate (a0.length : Int).toNat false) >>= (fun t20 => (if 0 ≤ (IntKind.i64.wrap ((a0.length : Int) - 1)) ∧ (IntKind.i64.wrap ((a0.length : Int) - 1)) < (t20.length : Int) then (if (gt t20 (IntKind.i64.wrap ((a0.length : Int) - 1))) = true then some ((true,0)) else some ((false,0))) else none))) else none))))
theorem cond_Holds_1.ok {a0 : List api_Node} {a1c0 : weirlaw06_Set} {Aa0 : Option Addr} {ca0 : Nat} {Aa1c0_0 : Option Addr} {ca1c0_0 : Nat} {Aa1c0_1 : Option Addr} {ca1c0_1 : Nat} {q0 : Bool} {q1 : Int} (hp0 : cond_Holds_1.f a0 a1c0 = some (q0,q1)) (hS0 : St w0 Z (fs) w) (ha0 : SlZ (flat enc_api_Node) 6 Z Aa0 ca0 a0) (ha1c0_0 : SlZ (flat enc_api_Ref) 2 Z Aa1c0_0 ca1c0_0 a1c0.Refs) (ha1c0_1 : SlZ (flat (encI .i64)) 1 Z Aa1c0_1 ca1c0_1 a1c0.Values) :
    Calls Tryz.prog 21 #[.slice Aa0 a0.length ca0,.func (.func 22) #[.agg #[.slice Aa1c0_0 a1c0.Refs.length ca1c0_0,.slice Aa1c0_1 a1c0.Values.length ca1c0_1,.int .i64 a1c0.Rest]] #[]] w (fun e w' => e = .returned (.tuple #[.bool q0,.int .i64 q1]) ∧ St w0 Z (fs) w'):=by
  refine calls_abs ?_; intro R hR
  unfold cond_Holds_1.f at hp0
  refine calls_of_runs (fn:=Tryz.f21) (c:=cd21 []) Tryz.func21 (by kernel_rfl) (al:=[.slice Aa0 a0.length ca0,.func (.func 22) #[.agg #[.slice Aa1c0_0 a1c0.Refs.length ca1c0_0,.slice Aa1c0_1 a1c0.Values.length ca1c0_1,.int .i64 a1c0.Rest]] #[]]) rfl (n:=94) rfl ?_
  refine sR 9 [.inRegion (opsOf (cd21 [1,0,0])) [1,2],.code (cd21 [1,0,1]),.code (cd21 [1,1])] ?_
  obtain ⟨t1,hr2,hp3⟩:=bind_some' hp0
  refine rC (cond_Check.ok hr2 hS0 ha0) ?_
  rintro _ w4 ⟨rfl,hS5⟩
  refine ⟨_,rfl,?_⟩
  refine sI 6 [.inRegion (opsOf (cd21 [1,0,1,0])) [],.code (cd21 [1,0,1,1]),.code (cd21 [1,1])] 13 hp3 (fun hp8 => ?_) fun hp10 => ?_
  ·refine sR 8 [.code (cd21 [1,0,1,1,0,1]),.code (cd21 [1,1])] ?_
   refine rR (.tuple #[.bool false,.int .i64 t1]) Tryz.func21 ?_
   cases Option.some.inj hp8
   exact hR _ _ ⟨rfl,hS5⟩
  refine sR 7 [.inRegion (opsOf (cd21 [1,1,0])) [2,3],.code (cd21 [1,1,1])] ?_
  obtain ⟨g11,hp12⟩:=ite_some hp10
  refine r_make (c:=(cd21 [1,1,0])) (i:=2) (d:=(some 17)) (ty:=102) (enc:=encB) (t:=102) (e:=4) (sz:=1) (bytes:=1) (info:=infoOf Tryz.prog 4) (x:=(.tmp 16)) (y:=(.tmp 16)) (n:=(a0.length : Int)) (kk:=.i64) (kc:=.i64) (z:=.bool false) (x0:=false) hS5 (by kernel_rfl) (by kernel_rfl) (by kernel_rfl) (by kernel_rfl) (by kernel_rfl) (by kernel_rfl) (by kernel_rfl) (by kernel_rfl) (by kernel_rfl) (by kernel_rfl) len_encB (by omega) g11 (by omega) ?_
  intro A13 w14 hS15
  refine rF [none,none,none,none,none,none,none,none,none,none,none,none,none,none,none,none,none,some (.slice A13 (a0.length : Int).toNat (a0.length : Int).toNat),none,none,none,none,none,none,none,none,none,none,none,none,none,none,none,none,none,none,none,none,none,none,none,none,none,none,none,none,none,none,none,none,none,none,none,none,none,none,none,none,none,none,none,none,none,none,none,none,none,none,none,none,none,none,none,none,none,none,none,none,none,none,none,none,none,none,none,none,none,none,none,none,none,none,none,none,none,none] ?_
  refine Runs.refill (m':=[none,none,none,none,none,none,none,none,none,none,none,none,none,none,none,none,none,some (.slice A13 (List.replicate (a0.length : Int).toNat false).length ((a0.length : Int).toNat)),none,none,none,none,none,none,none,none,none,none,none,none,none,none,none,none,none,none,none,none,none,none,none,none,none,none,none,none,none,none,none,none,none,none,none,none,none,none,none,none,none,none,none,none,none,none,none,none,none,none,none,none,none,none,none,none,none,none,none,none,none,none,none,none,none,none,none,none,none,none,none,none,none,none,none,none,none,none]) (by simp only [List.length_replicate]) ?_
  refine sR 11 td239 ?_
  obtain ⟨v17,hv18,hp19⟩:=bind_some' hp12
  have J23 : ∀ (t20 : List Bool) (he25 : t20 = v17) (l24 : List Value) (w21 : World) (hS22 : St w0 Z (xrow A13 ((a0.length : Int).toNat) 4 1 (t20.flatMap encB)::fs) w21),Runs Tryz.prog (fx 21) td236 (fill (mk 96 [(0,.slice Aa0 a0.length ca0),(7,.slice A13 t20.length ((a0.length : Int).toNat))]) l24) w21 R:=by
   intro t20 he25 l24 w21 hS22
   subst he25
   try dsimp only at hp19
   refine sR 6 [iR (cd21 [1,1,1,1,0]) 4 4,.code p21_11] ?_
   obtain ⟨g26,hp27⟩:=ite_some hp19
   obtain ⟨b28,p29,hA30,-⟩:=(hS22.row 0 rfl).at_ len_encB (by omega) g26.1 g26.2
   refine r_indexAddr (c:=(cd21 [1,1,1,1,0])) (i:=4) (d:=(some 94)) (ty:=0) (t:=102) (e:=4) (n:=t20.length) (cp:=(a0.length : Int).toNat) (sz:=1) (kk:=.i64) (x:=(.tmp 90)) (y:=(.tmp 93)) (b:=b28) (o':=p29) (j:=(IntKind.i64.wrap ((a0.length : Int) - 1))) (by kernel_rfl) (by kernel_rfl) (slv (by kernel_rfl) hA30) (by kernel_rfl) (by kernel_rfl) (by kernel_rfl) g26.1 g26.2 ?_
   refine rL1 4 (.tmp 94) 0 ((hS22.row 0 rfl).at2 hA30 len_encB (by omega) g26.1 g26.2) ?_
   refine r_split (gt t20 (IntKind.i64.wrap ((a0.length : Int) - 1))) (fun h32 => ?_) (fun h33 => ?_)
   ·have hp34:=ite_t hp27 h32
    refine sR 3 [.code p21_11] ?_
    have hS35:=hS22.drop
    refine rR (.tuple #[.bool true,.int .i64 0]) Tryz.func21 ?_
    cases Option.some.inj hp34
    exact hR _ _ ⟨rfl,hS35⟩
   have hp37:=ite_f hp27 h33
   refine sR 3 [.code p21_11] ?_
   have hS38:=hS22.drop
   refine rR (.tuple #[.bool false,.int .i64 0]) Tryz.func21 ?_
   cases Option.some.inj hp37
   exact hR _ _ ⟨rfl,hS38⟩
  have L50 : ∀ (t40 : Int) (t41 : List Bool) (e45 : (List Bool)),cond_Holds_1.l0 a0 a1c0 t40 t41 = some e45 → e45 = v17 → ∀ (l44 : List Value) (w42 : World) (hS43 : St w0 Z (xrow A13 ((a0.length : Int).toNat) 4 1 (t41.flatMap encB)::fs) w42),Runs Tryz.prog (fx 21) td239 (fill (mk 96 [(0,.slice Aa0 a0.length ca0),(1,.func (.func 22) #[.agg #[.slice Aa1c0_0 a1c0.Refs.length ca1c0_0,.slice Aa1c0_1 a1c0.Values.length ca1c0_1,.int .i64 a1c0.Rest]] #[]),(7,.slice A13 t41.length ((a0.length : Int).toNat)),(18,.slice Aa0 a0.length ca0),(19,.int .i64 (a0.length : Int)),(20,.int .i64 t40)]) l44) w42 R:=by
   refine cond_Holds_1.l0.partial_correctness a0 a1c0 (fun t40 t41 e45 => e45 = v17 → ∀ (l44 : List Value) (w42 : World) (hS43 : St w0 Z (xrow A13 ((a0.length : Int).toNat) 4 1 (t41.flatMap encB)::fs) w42),Runs Tryz.prog (fx 21) td239 (fill (mk 96 [(0,.slice Aa0 a0.length ca0),(1,.func (.func 22) #[.agg #[.slice Aa1c0_0 a1c0.Refs.length ca1c0_0,.slice Aa1c0_1 a1c0.Values.length ca1c0_1,.int .i64 a1c0.Rest]] #[]),(7,.slice A13 t41.length ((a0.length : Int).toNat)),(18,.slice Aa0 a0.length ca0),(19,.int .i64 (a0.length : Int)),(20,.int .i64 t40)]) l44) w42 R) ?_
   intro rec49 ih48 t40 t41 e45 hb47 he46 l44 w42 hS43
   refine sI 3 (.inRegion (opsOf (cd21 [1,1,1,0,1,0,0,0])) []::.code (cd21 [1,1,1,0,1,0,0,1])::td238) 21 hb47 (fun hp53 => ?_) fun hp271 => ?_
   ·refine sR 9 (iR p21_14 1 5::.code p21_15::td241) ?_
    obtain ⟨g54,hp55⟩:=ite_some hp53
    obtain ⟨b56,p57,hA58,hc59⟩:=ha0.atF g54.1 g54.2
    refine r_indexAddr (c:=p21_14) (i:=1) (d:=(some 23)) (ty:=0) (t:=23) (e:=68) (n:=a0.length) (cp:=ca0) (sz:=6) (kk:=.i64) (x:=(.tmp 18)) (y:=(.tmp 20)) (b:=b56) (o':=p57) (j:=t40) (by kernel_rfl) (by kernel_rfl) (slv (by kernel_rfl) hA58) (by kernel_rfl) (by kernel_rfl) (by kernel_rfl) g54.1 g54.2 ?_
    refine rLa 68 (.tmp 23) (hc59.cells hS43) ?_
    refine rA 68 (.agg (enc_api_Node (⟨0,0,0,⟨0,(⟨#[]⟩ : ByteArray)⟩,0⟩ : api_Node)).toArray) (enc_api_Node (⟨0,0,0,⟨0,(⟨#[]⟩ : ByteArray)⟩,0⟩ : api_Node)) hS43 ?_
    intro b60 w61 hS62
    refine sR 1 (.inRegion (opsOf p21_14) [5]::.code p21_15::td241) ?_
    refine rSA 68 (.tmp 9) (.tmp 24) (enc_api_Node (gt a0 t40)) hS62 (one_api_Node _) ?_
    intro w64 hS65
    refine sR 4 (.inRegion (opsOf (cd21 [1,1,1,0,1,0,0,1,1,0,0,1,0])) [1]::.code (cd21 [1,1,1,0,1,0,0,1,1,0,0,1,1])::td241) ?_
    refine rL1 3 (.tmp 25) 0 (hS65.blk 0 rfl) ?_
    refine sI 5 (.inRegion (opsOf (cd21 [1,1,1,0,1,0,0,1,1,0,0,1,1,0,0])) [1]::.code (cd21 [1,1,1,0,1,0,0,1,1,0,0,1,1,0,1])::td242) 28 hp55 (fun hp68 => ?_) fun hp80 => ?_
    ·refine sR 6 (.inRegion (opsOf p21_21) [2,3]::td242) ?_
     obtain ⟨g69,hp70⟩:=ite_some hp68
     obtain ⟨b71,p72,hA73,-⟩:=(hS65.row 1 rfl).at_ len_encB (by omega) g69.1 g69.2
     refine r_indexAddr (c:=p21_21) (i:=2) (d:=(some 31)) (ty:=0) (t:=102) (e:=4) (n:=t41.length) (cp:=(a0.length : Int).toNat) (sz:=1) (kk:=.i64) (x:=(.tmp 29)) (y:=(.tmp 30)) (b:=b71) (o':=p72) (j:=t40) (by kernel_rfl) (by kernel_rfl) (slv (by kernel_rfl) hA73) (by kernel_rfl) (by kernel_rfl) (by kernel_rfl) g69.1 g69.2 ?_
     have hS75:=hS65.pick1
     refine r_storeEl (c:=p21_21) (i:=3) (d:=none) (ty:=0) (enc:=encB) (e:=4) (t:=4) (sz:=1) (cp:=(a0.length : Int).toNat) (A:=A13) (xs:=t41) (x:=(.tmp 31)) (y:=(.const (.bool true))) (el:=gt t41 t40) (el':=true) (j:=t40) (off:=0) (b:=b71) (p:=p72) (v:=.bool true) (vs:=[.bool true]) (ad:=⟨b71,p72 + t40.toNat * 1,none⟩) hS75 (by kernel_rfl) (by kernel_rfl) (by kernel_rfl) (by simp) (by kernel_rfl) hA73 g69 rfl len_encB (by kernel_rfl) (by kernel_rfl) (by kernel_rfl) (Nat.le_of_ble_eq_true (by kernel_rfl)) (Nat.le_of_ble_eq_true (by kernel_rfl)) (by kernel_rfl) ?_
     intro w76 hS77
     refine rF [none,none,none,none,none,none,none,some (.slice A13 t41.length ((a0.length : Int).toNat)),none,none,none,none,none,none,none,none,none,none,none,none,none,none,none,none,none,none,none,none,none,some (.slice A13 t41.length ((a0.length : Int).toNat)),none,none,none,none,none,none,none,none,none,none,none,none,none,none,none,none,none,none,none,none,none,none,none,none,none,none,none,none,none,none,none,none,none,none,none,none,none,none,none,none,none,none,none,none,none,none,none,none,none,none,none,none,none,none,none,none,none,none,none,none,none,none,none,none,none,none] ?_
     refine Runs.refill (m':=[none,none,none,none,none,none,none,some (.slice A13 (setl t41 t40 true).length ((a0.length : Int).toNat)),none,none,none,none,none,none,none,none,none,none,none,none,none,none,none,none,none,none,none,none,none,some (.slice A13 (setl t41 t40 true).length ((a0.length : Int).toNat)),none,none,none,none,none,none,none,none,none,none,none,none,none,none,none,none,none,none,none,none,none,none,none,none,none,none,none,none,none,none,none,none,none,none,none,none,none,none,none,none,none,none,none,none,none,none,none,none,none,none,none,none,none,none,none,none,none,none,none,none,none,none,none,none,none,none]) (by simp only [setl_len]) ?_
     refine sR 7 td238 ?_
     have hS78:=hS77.pick1
     have hS79:=hS78.drop
     refine sR 1 td239 ?_
     exact rF _ (ih48 (IntKind.i64.wrap (t40 + 1)) (setl t41 t40 true) _ hp70 he46 _ _ hS79)
    refine sI 6 (.inRegion (opsOf (cd21 [1,1,1,0,1,0,0,1,1,0,0,1,1,0,1,1,0])) [1]::.code (cd21 [1,1,1,0,1,0,0,1,1,0,0,1,1,0,1,1,1])::td242) 33 hp80 (fun hp83 => ?_) fun hp119 => ?_
    ·refine sR 3 (.code p21_24::td242) ?_
     refine r_drawn3 (C:=St w0 Z (xblk b60 68 (enc_api_Node (gt a0 t40))::xrow A13 ((a0.length : Int).toNat) 4 1 (t41.flatMap encB)::fs)) (c:=p21_24) (id:=12) (by kernel_rfl) (by kernel_rfl) 10 (Nat.le_of_ble_eq_true (by kernel_rfl)) (by kernel_rfl) (by kernel_rfl) (by kernel_rfl) (is:=[0,1,2,3,4,5,6,7,8,9]) (rest:=[10]) (by kernel_rfl) (by kernel_rfl) hS65.drew ?_
     refine qR 4 (rg 4 6) ?_
     refine qLa 66 (.tmp 37) (fun w hC => (sub_api_Node_Ref (hC.blk 0 rfl))) ?_
     obtain ⟨t84,hr85,hp86⟩:=bind_some' hp83
     refine q_call1 (c:=(hd p21_24 10)) (i:=5) (d:=(some 39)) (v:=.int .i64 t84) (g:=22) (args:=#[.agg #[.slice Aa1c0_0 a1c0.Refs.length ca1c0_0,.slice Aa1c0_1 a1c0.Values.length ca1c0_1,.int .i64 a1c0.Rest],.agg (enc_api_Ref ((gt a0 t40).Ref)).toArray]) (by kernel_rfl) (by kernel_rfl) (by kernel_rfl) (by kernel_rfl) (fun w hC => by
      refine (weirlaw06_Set__of.ok hr85 hC ha1c0_0 ha1c0_1).mono ?_
      rintro e w2 ⟨rfl,h2⟩
      have hS87:=h2.pick1
      have hS88:=hS87.pick1
      exact ⟨rfl,hS88⟩) ?_
     refine qR 1 [7,8,9] ?_
     refine qL1 2 (.tmp 40) 5 (fun w hC => (hC.blk 0 rfl)) ?_
     refine qI 1 [9] 42 hp86 (fun hp91 => ?_) fun hp105 => ?_
     ·obtain ⟨g92,hp93⟩:=ite_some hp91
      obtain ⟨b94,p95,hA96,-⟩:=(hS65.row 1 rfl).at_ len_encB (by omega) g92.1 g92.2
      refine q_indexAddr (c:=(hd p21_24 10)) (i:=9) (d:=(some 43)) (ty:=0) (t:=102) (e:=4) (n:=t41.length) (cp:=(a0.length : Int).toNat) (sz:=1) (kk:=.i64) (x:=(.tmp 34)) (y:=(.tmp 35)) (b:=b94) (o':=p95) (j:=t40) (by kernel_rfl) (by kernel_rfl) (slv (by kernel_rfl) hA96) (by kernel_rfl) (by kernel_rfl) (by kernel_rfl) g92.1 g92.2 ?_
      refine Qs.nil ?_
      intro w98 hS99
      have hS100:=hS99.pick1
      refine r_storeEl (c:=p21_24) (i:=10) (d:=none) (ty:=0) (enc:=encB) (e:=4) (t:=4) (sz:=1) (cp:=(a0.length : Int).toNat) (A:=A13) (xs:=t41) (x:=(.tmp 43)) (y:=(.tmp 42)) (el:=gt t41 t40) (el':=true) (j:=t40) (off:=0) (b:=b94) (p:=p95) (v:=.bool true) (vs:=[.bool true]) (ad:=⟨b94,p95 + t40.toNat * 1,none⟩) hS100 (by kernel_rfl) (by kernel_rfl) (by kernel_rfl) (by simp) (by kernel_rfl) hA96 g92 rfl len_encB (by kernel_rfl) (by kernel_rfl) (by kernel_rfl) (Nat.le_of_ble_eq_true (by kernel_rfl)) (Nat.le_of_ble_eq_true (by kernel_rfl)) (by kernel_rfl) ?_
      intro w101 hS102
      refine rF [none,none,none,none,none,none,none,some (.slice A13 t41.length ((a0.length : Int).toNat)),none,none,none,none,none,none,none,none,none,none,none,none,none,none,none,none,none,none,none,none,none,none,none,none,none,none,some (.slice A13 t41.length ((a0.length : Int).toNat)),none,none,none,none,none,none,none,none,none,none,none,none,none,none,none,none,none,none,none,none,none,none,none,none,none,none,none,none,none,none,none,none,none,none,none,none,none,none,none,none,none,none,none,none,none,none,none,none,none,none,none,none,none,none,none,none,none,none,none,none,none] ?_
      refine Runs.refill (m':=[none,none,none,none,none,none,none,some (.slice A13 (setl t41 t40 true).length ((a0.length : Int).toNat)),none,none,none,none,none,none,none,none,none,none,none,none,none,none,none,none,none,none,none,none,none,none,none,none,none,none,some (.slice A13 (setl t41 t40 true).length ((a0.length : Int).toNat)),none,none,none,none,none,none,none,none,none,none,none,none,none,none,none,none,none,none,none,none,none,none,none,none,none,none,none,none,none,none,none,none,none,none,none,none,none,none,none,none,none,none,none,none,none,none,none,none,none,none,none,none,none,none,none,none,none,none,none,none,none]) (by simp only [setl_len]) ?_
      refine sR 7 td238 ?_
      have hS103:=hS102.pick1
      have hS104:=hS103.drop
      refine sR 1 td239 ?_
      exact rF _ (ih48 (IntKind.i64.wrap (t40 + 1)) (setl t41 t40 true) _ hp93 he46 _ _ hS104)
     obtain ⟨g106,hp107⟩:=ite_some hp105
     obtain ⟨b108,p109,hA110,-⟩:=(hS65.row 1 rfl).at_ len_encB (by omega) g106.1 g106.2
     refine q_indexAddr (c:=(hd p21_24 10)) (i:=9) (d:=(some 43)) (ty:=0) (t:=102) (e:=4) (n:=t41.length) (cp:=(a0.length : Int).toNat) (sz:=1) (kk:=.i64) (x:=(.tmp 34)) (y:=(.tmp 35)) (b:=b108) (o':=p109) (j:=t40) (by kernel_rfl) (by kernel_rfl) (slv (by kernel_rfl) hA110) (by kernel_rfl) (by kernel_rfl) (by kernel_rfl) g106.1 g106.2 ?_
     refine Qs.nil ?_
     intro w112 hS113
     have hS114:=hS113.pick1
     refine r_storeEl (c:=p21_24) (i:=10) (d:=none) (ty:=0) (enc:=encB) (e:=4) (t:=4) (sz:=1) (cp:=(a0.length : Int).toNat) (A:=A13) (xs:=t41) (x:=(.tmp 43)) (y:=(.tmp 42)) (el:=gt t41 t40) (el':=false) (j:=t40) (off:=0) (b:=b108) (p:=p109) (v:=.bool false) (vs:=[.bool false]) (ad:=⟨b108,p109 + t40.toNat * 1,none⟩) hS114 (by kernel_rfl) (by kernel_rfl) (by kernel_rfl) (by simp) (by kernel_rfl) hA110 g106 rfl len_encB (by kernel_rfl) (by kernel_rfl) (by kernel_rfl) (Nat.le_of_ble_eq_true (by kernel_rfl)) (Nat.le_of_ble_eq_true (by kernel_rfl)) (by kernel_rfl) ?_
     intro w115 hS116
     refine rF [none,none,none,none,none,none,none,some (.slice A13 t41.length ((a0.length : Int).toNat)),none,none,none,none,none,none,none,none,none,none,none,none,none,none,none,none,none,none,none,none,none,none,none,none,none,none,some (.slice A13 t41.length ((a0.length : Int).toNat)),none,none,none,none,none,none,none,none,none,none,none,none,none,none,none,none,none,none,none,none,none,none,none,none,none,none,none,none,none,none,none,none,none,none,none,none,none,none,none,none,none,none,none,none,none,none,none,none,none,none,none,none,none,none,none,none,none,none,none,none,none] ?_
     refine Runs.refill (m':=[none,none,none,none,none,none,none,some (.slice A13 (setl t41 t40 false).length ((a0.length : Int).toNat)),none,none,none,none,none,none,none,none,none,none,none,none,none,none,none,none,none,none,none,none,none,none,none,none,none,none,some (.slice A13 (setl t41 t40 false).length ((a0.length : Int).toNat)),none,none,none,none,none,none,none,none,none,none,none,none,none,none,none,none,none,none,none,none,none,none,none,none,none,none,none,none,none,none,none,none,none,none,none,none,none,none,none,none,none,none,none,none,none,none,none,none,none,none,none,none,none,none,none,none,none,none,none,none,none]) (by simp only [setl_len]) ?_
     refine sR 7 td238 ?_
     have hS117:=hS116.pick1
     have hS118:=hS117.drop
     refine sR 1 td239 ?_
     exact rF _ (ih48 (IntKind.i64.wrap (t40 + 1)) (setl t41 t40 false) _ hp107 he46 _ _ hS118)
    refine sI 6 (.inRegion (opsOf (cd21 [1,1,1,0,1,0,0,1,1,0,0,1,1,0,1,1,1,1,0])) [1]::.code (cd21 [1,1,1,0,1,0,0,1,1,0,0,1,1,0,1,1,1,1,1])::td242) 45 hp119 (fun hp122 => ?_) fun hp155 => ?_
    ·refine sR 8 (iR p21_27 4 6::td242) ?_
     refine rL1 3 (.tmp 49) 1 (hS65.blk 0 rfl) ?_
     obtain ⟨g123,hp124⟩:=ite_some hp122
     obtain ⟨b125,p126,hA127,-⟩:=(hS65.row 1 rfl).at_ len_encB (by omega) g123.1 g123.2
     refine r_indexAddr (c:=p21_27) (i:=5) (d:=(some 51)) (ty:=0) (t:=102) (e:=4) (n:=t41.length) (cp:=(a0.length : Int).toNat) (sz:=1) (kk:=.i64) (x:=(.tmp 48)) (y:=(.tmp 50)) (b:=b125) (o':=p126) (j:=(gt a0 t40).A) (by kernel_rfl) (by kernel_rfl) (slv (by kernel_rfl) hA127) (by kernel_rfl) (by kernel_rfl) (by kernel_rfl) g123.1 g123.2 ?_
     refine rL1 4 (.tmp 51) 0 ((hS65.row 1 rfl).at2 hA127 len_encB (by omega) g123.1 g123.2) ?_
     refine r_split (gt t41 ((gt a0 t40).A)) (fun h129 => ?_) (fun h130 => ?_)
     ·have hp131:=ite_t hp124 h129
      refine sR 1 (.inRegion (opsOf p21_27) [8,9]::td242) ?_
      obtain ⟨g132,hp133⟩:=ite_some hp131
      obtain ⟨b134,p135,hA136,-⟩:=(hS65.row 1 rfl).at_ len_encB (by omega) g132.1 g132.2
      refine r_indexAddr (c:=p21_27) (i:=8) (d:=(some 54)) (ty:=0) (t:=102) (e:=4) (n:=t41.length) (cp:=(a0.length : Int).toNat) (sz:=1) (kk:=.i64) (x:=(.tmp 46)) (y:=(.tmp 47)) (b:=b134) (o':=p135) (j:=t40) (by kernel_rfl) (by kernel_rfl) (slv (by kernel_rfl) hA136) (by kernel_rfl) (by kernel_rfl) (by kernel_rfl) g132.1 g132.2 ?_
      have hS138:=hS65.pick1
      refine r_storeEl (c:=p21_27) (i:=9) (d:=none) (ty:=0) (enc:=encB) (e:=4) (t:=4) (sz:=1) (cp:=(a0.length : Int).toNat) (A:=A13) (xs:=t41) (x:=(.tmp 54)) (y:=(.tmp 53)) (el:=gt t41 t40) (el':=false) (j:=t40) (off:=0) (b:=b134) (p:=p135) (v:=.bool false) (vs:=[.bool false]) (ad:=⟨b134,p135 + t40.toNat * 1,none⟩) hS138 (by kernel_rfl) (by kernel_rfl) (by kernel_rfl) (by simp) (by kernel_rfl) hA136 g132 rfl len_encB (by kernel_rfl) (by kernel_rfl) (by kernel_rfl) (Nat.le_of_ble_eq_true (by kernel_rfl)) (Nat.le_of_ble_eq_true (by kernel_rfl)) (by kernel_rfl) ?_
      intro w139 hS140
      refine rF [none,none,none,none,none,none,none,some (.slice A13 t41.length ((a0.length : Int).toNat)),none,none,none,none,none,none,none,none,none,none,none,none,none,none,none,none,none,none,none,none,none,none,none,none,none,none,none,none,none,none,none,none,none,none,none,none,none,none,some (.slice A13 t41.length ((a0.length : Int).toNat)),none,some (.slice A13 t41.length ((a0.length : Int).toNat)),none,none,none,none,none,none,none,none,none,none,none,none,none,none,none,none,none,none,none,none,none,none,none,none,none,none,none,none,none,none,none,none,none,none,none,none,none,none,none,none,none,none,none,none,none,none,none] ?_
      refine Runs.refill (m':=[none,none,none,none,none,none,none,some (.slice A13 (setl t41 t40 false).length ((a0.length : Int).toNat)),none,none,none,none,none,none,none,none,none,none,none,none,none,none,none,none,none,none,none,none,none,none,none,none,none,none,none,none,none,none,none,none,none,none,none,none,none,none,some (.slice A13 (setl t41 t40 false).length ((a0.length : Int).toNat)),none,some (.slice A13 (setl t41 t40 false).length ((a0.length : Int).toNat)),none,none,none,none,none,none,none,none,none,none,none,none,none,none,none,none,none,none,none,none,none,none,none,none,none,none,none,none,none,none,none,none,none,none,none,none,none,none,none,none,none,none,none,none,none,none,none]) (by simp only [setl_len]) ?_
      refine sR 7 td238 ?_
      have hS141:=hS140.pick1
      have hS142:=hS141.drop
      refine sR 1 td239 ?_
      exact rF _ (ih48 (IntKind.i64.wrap (t40 + 1)) (setl t41 t40 false) _ hp133 he46 _ _ hS142)
     have hp143:=ite_f hp124 h130
     refine sR 1 (.inRegion (opsOf p21_27) [8,9]::td242) ?_
     obtain ⟨g144,hp145⟩:=ite_some hp143
     obtain ⟨b146,p147,hA148,-⟩:=(hS65.row 1 rfl).at_ len_encB (by omega) g144.1 g144.2
     refine r_indexAddr (c:=p21_27) (i:=8) (d:=(some 54)) (ty:=0) (t:=102) (e:=4) (n:=t41.length) (cp:=(a0.length : Int).toNat) (sz:=1) (kk:=.i64) (x:=(.tmp 46)) (y:=(.tmp 47)) (b:=b146) (o':=p147) (j:=t40) (by kernel_rfl) (by kernel_rfl) (slv (by kernel_rfl) hA148) (by kernel_rfl) (by kernel_rfl) (by kernel_rfl) g144.1 g144.2 ?_
     have hS150:=hS65.pick1
     refine r_storeEl (c:=p21_27) (i:=9) (d:=none) (ty:=0) (enc:=encB) (e:=4) (t:=4) (sz:=1) (cp:=(a0.length : Int).toNat) (A:=A13) (xs:=t41) (x:=(.tmp 54)) (y:=(.tmp 53)) (el:=gt t41 t40) (el':=true) (j:=t40) (off:=0) (b:=b146) (p:=p147) (v:=.bool true) (vs:=[.bool true]) (ad:=⟨b146,p147 + t40.toNat * 1,none⟩) hS150 (by kernel_rfl) (by kernel_rfl) (by kernel_rfl) (by simp) (by kernel_rfl) hA148 g144 rfl len_encB (by kernel_rfl) (by kernel_rfl) (by kernel_rfl) (Nat.le_of_ble_eq_true (by kernel_rfl)) (Nat.le_of_ble_eq_true (by kernel_rfl)) (by kernel_rfl) ?_
     intro w151 hS152
     refine rF [none,none,none,none,none,none,none,some (.slice A13 t41.length ((a0.length : Int).toNat)),none,none,none,none,none,none,none,none,none,none,none,none,none,none,none,none,none,none,none,none,none,none,none,none,none,none,none,none,none,none,none,none,none,none,none,none,none,none,some (.slice A13 t41.length ((a0.length : Int).toNat)),none,some (.slice A13 t41.length ((a0.length : Int).toNat)),none,none,none,none,none,none,none,none,none,none,none,none,none,none,none,none,none,none,none,none,none,none,none,none,none,none,none,none,none,none,none,none,none,none,none,none,none,none,none,none,none,none,none,none,none,none,none] ?_
     refine Runs.refill (m':=[none,none,none,none,none,none,none,some (.slice A13 (setl t41 t40 true).length ((a0.length : Int).toNat)),none,none,none,none,none,none,none,none,none,none,none,none,none,none,none,none,none,none,none,none,none,none,none,none,none,none,none,none,none,none,none,none,none,none,none,none,none,none,some (.slice A13 (setl t41 t40 true).length ((a0.length : Int).toNat)),none,some (.slice A13 (setl t41 t40 true).length ((a0.length : Int).toNat)),none,none,none,none,none,none,none,none,none,none,none,none,none,none,none,none,none,none,none,none,none,none,none,none,none,none,none,none,none,none,none,none,none,none,none,none,none,none,none,none,none,none,none,none,none,none,none]) (by simp only [setl_len]) ?_
     refine sR 7 td238 ?_
     have hS153:=hS152.pick1
     have hS154:=hS153.drop
     refine sR 1 td239 ?_
     exact rF _ (ih48 (IntKind.i64.wrap (t40 + 1)) (setl t41 t40 true) _ hp145 he46 _ _ hS154)
    refine sI 6 (.inRegion (opsOf (cd21 [1,1,1,0,1,0,0,1,1,0,0,1,1,0,1,1,1,1,1,1,0])) [1]::.code (cd21 [1,1,1,0,1,0,0,1,1,0,0,1,1,0,1,1,1,1,1,1,1])::td242) 56 hp155 (fun hp158 => ?_) fun hp212 => ?_
    ·refine sR 8 (iR p21_30 4 12::td242) ?_
     refine rL1 3 (.tmp 60) 1 (hS65.blk 0 rfl) ?_
     obtain ⟨g159,hp160⟩:=ite_some hp158
     obtain ⟨b161,p162,hA163,-⟩:=(hS65.row 1 rfl).at_ len_encB (by omega) g159.1 g159.2
     refine r_indexAddr (c:=p21_30) (i:=5) (d:=(some 62)) (ty:=0) (t:=102) (e:=4) (n:=t41.length) (cp:=(a0.length : Int).toNat) (sz:=1) (kk:=.i64) (x:=(.tmp 59)) (y:=(.tmp 61)) (b:=b161) (o':=p162) (j:=(gt a0 t40).A) (by kernel_rfl) (by kernel_rfl) (slv (by kernel_rfl) hA163) (by kernel_rfl) (by kernel_rfl) (by kernel_rfl) g159.1 g159.2 ?_
     refine rL1 4 (.tmp 62) 0 ((hS65.row 1 rfl).at2 hA163 len_encB (by omega) g159.1 g159.2) ?_
     refine r_split (gt t41 ((gt a0 t40).A)) (fun h165 => ?_) (fun h166 => ?_)
     ·have hp167:=ite_t hp160 h165
      refine sR 3 (iR p21_30 10 6::td242) ?_
      refine rL1 3 (.tmp 66) 2 (hS65.blk 0 rfl) ?_
      obtain ⟨g168,hp169⟩:=ite_some hp167
      obtain ⟨b170,p171,hA172,-⟩:=(hS65.row 1 rfl).at_ len_encB (by omega) g168.1 g168.2
      refine r_indexAddr (c:=p21_30) (i:=11) (d:=(some 68)) (ty:=0) (t:=102) (e:=4) (n:=t41.length) (cp:=(a0.length : Int).toNat) (sz:=1) (kk:=.i64) (x:=(.tmp 65)) (y:=(.tmp 67)) (b:=b170) (o':=p171) (j:=(gt a0 t40).B) (by kernel_rfl) (by kernel_rfl) (slv (by kernel_rfl) hA172) (by kernel_rfl) (by kernel_rfl) (by kernel_rfl) g168.1 g168.2 ?_
      refine rL1 4 (.tmp 68) 0 ((hS65.row 1 rfl).at2 hA172 len_encB (by omega) g168.1 g168.2) ?_
      refine r_split (gt t41 ((gt a0 t40).B)) (fun h174 => ?_) (fun h175 => ?_)
      ·have hp176:=ite_t hp169 h174
       refine sR 1 td243 ?_
       obtain ⟨g177,hp178⟩:=ite_some hp176
       obtain ⟨b179,p180,hA181,-⟩:=(hS65.row 1 rfl).at_ len_encB (by omega) g177.1 g177.2
       refine r_indexAddr (c:=p21_30) (i:=14) (d:=(some 71)) (ty:=0) (t:=102) (e:=4) (n:=t41.length) (cp:=(a0.length : Int).toNat) (sz:=1) (kk:=.i64) (x:=(.tmp 57)) (y:=(.tmp 58)) (b:=b179) (o':=p180) (j:=t40) (by kernel_rfl) (by kernel_rfl) (slv (by kernel_rfl) hA181) (by kernel_rfl) (by kernel_rfl) (by kernel_rfl) g177.1 g177.2 ?_
       have hS183:=hS65.pick1
       refine r_storeEl (c:=p21_30) (i:=15) (d:=none) (ty:=0) (enc:=encB) (e:=4) (t:=4) (sz:=1) (cp:=(a0.length : Int).toNat) (A:=A13) (xs:=t41) (x:=(.tmp 71)) (y:=(.tmp 70)) (el:=gt t41 t40) (el':=true) (j:=t40) (off:=0) (b:=b179) (p:=p180) (v:=.bool true) (vs:=[.bool true]) (ad:=⟨b179,p180 + t40.toNat * 1,none⟩) hS183 (by kernel_rfl) (by kernel_rfl) (by kernel_rfl) (by simp) (by kernel_rfl) hA181 g177 rfl len_encB (by kernel_rfl) (by kernel_rfl) (by kernel_rfl) (Nat.le_of_ble_eq_true (by kernel_rfl)) (Nat.le_of_ble_eq_true (by kernel_rfl)) (by kernel_rfl) ?_
       intro w184 hS185
       refine rF [none,none,none,none,none,none,none,some (.slice A13 t41.length ((a0.length : Int).toNat)),none,none,none,none,none,none,none,none,none,none,none,none,none,none,none,none,none,none,none,none,none,none,none,none,none,none,none,none,none,none,none,none,none,none,none,none,none,none,none,none,none,none,none,none,none,none,none,none,none,some (.slice A13 t41.length ((a0.length : Int).toNat)),none,some (.slice A13 t41.length ((a0.length : Int).toNat)),none,none,none,none,none,some (.slice A13 t41.length ((a0.length : Int).toNat)),none,none,none,none,none,none,none,none,none,none,none,none,none,none,none,none,none,none,none,none,none,none,none,none,none,none,none,none,none,none] ?_
       refine Runs.refill (m':=[none,none,none,none,none,none,none,some (.slice A13 (setl t41 t40 true).length ((a0.length : Int).toNat)),none,none,none,none,none,none,none,none,none,none,none,none,none,none,none,none,none,none,none,none,none,none,none,none,none,none,none,none,none,none,none,none,none,none,none,none,none,none,none,none,none,none,none,none,none,none,none,none,none,some (.slice A13 (setl t41 t40 true).length ((a0.length : Int).toNat)),none,some (.slice A13 (setl t41 t40 true).length ((a0.length : Int).toNat)),none,none,none,none,none,some (.slice A13 (setl t41 t40 true).length ((a0.length : Int).toNat)),none,none,none,none,none,none,none,none,none,none,none,none,none,none,none,none,none,none,none,none,none,none,none,none,none,none,none,none,none,none]) (by simp only [setl_len]) ?_
       refine sR 7 td238 ?_
       have hS186:=hS185.pick1
       have hS187:=hS186.drop
       refine sR 1 td239 ?_
       exact rF _ (ih48 (IntKind.i64.wrap (t40 + 1)) (setl t41 t40 true) _ hp178 he46 _ _ hS187)
      have hp188:=ite_f hp169 h175
      refine sR 1 td243 ?_
      obtain ⟨g189,hp190⟩:=ite_some hp188
      obtain ⟨b191,p192,hA193,-⟩:=(hS65.row 1 rfl).at_ len_encB (by omega) g189.1 g189.2
      refine r_indexAddr (c:=p21_30) (i:=14) (d:=(some 71)) (ty:=0) (t:=102) (e:=4) (n:=t41.length) (cp:=(a0.length : Int).toNat) (sz:=1) (kk:=.i64) (x:=(.tmp 57)) (y:=(.tmp 58)) (b:=b191) (o':=p192) (j:=t40) (by kernel_rfl) (by kernel_rfl) (slv (by kernel_rfl) hA193) (by kernel_rfl) (by kernel_rfl) (by kernel_rfl) g189.1 g189.2 ?_
      have hS195:=hS65.pick1
      refine r_storeEl (c:=p21_30) (i:=15) (d:=none) (ty:=0) (enc:=encB) (e:=4) (t:=4) (sz:=1) (cp:=(a0.length : Int).toNat) (A:=A13) (xs:=t41) (x:=(.tmp 71)) (y:=(.tmp 70)) (el:=gt t41 t40) (el':=false) (j:=t40) (off:=0) (b:=b191) (p:=p192) (v:=.bool false) (vs:=[.bool false]) (ad:=⟨b191,p192 + t40.toNat * 1,none⟩) hS195 (by kernel_rfl) (by kernel_rfl) (by kernel_rfl) (by simp) (by kernel_rfl) hA193 g189 rfl len_encB (by kernel_rfl) (by kernel_rfl) (by kernel_rfl) (Nat.le_of_ble_eq_true (by kernel_rfl)) (Nat.le_of_ble_eq_true (by kernel_rfl)) (by kernel_rfl) ?_
      intro w196 hS197
      refine rF [none,none,none,none,none,none,none,some (.slice A13 t41.length ((a0.length : Int).toNat)),none,none,none,none,none,none,none,none,none,none,none,none,none,none,none,none,none,none,none,none,none,none,none,none,none,none,none,none,none,none,none,none,none,none,none,none,none,none,none,none,none,none,none,none,none,none,none,none,none,some (.slice A13 t41.length ((a0.length : Int).toNat)),none,some (.slice A13 t41.length ((a0.length : Int).toNat)),none,none,none,none,none,some (.slice A13 t41.length ((a0.length : Int).toNat)),none,none,none,none,none,none,none,none,none,none,none,none,none,none,none,none,none,none,none,none,none,none,none,none,none,none,none,none,none,none] ?_
      refine Runs.refill (m':=[none,none,none,none,none,none,none,some (.slice A13 (setl t41 t40 false).length ((a0.length : Int).toNat)),none,none,none,none,none,none,none,none,none,none,none,none,none,none,none,none,none,none,none,none,none,none,none,none,none,none,none,none,none,none,none,none,none,none,none,none,none,none,none,none,none,none,none,none,none,none,none,none,none,some (.slice A13 (setl t41 t40 false).length ((a0.length : Int).toNat)),none,some (.slice A13 (setl t41 t40 false).length ((a0.length : Int).toNat)),none,none,none,none,none,some (.slice A13 (setl t41 t40 false).length ((a0.length : Int).toNat)),none,none,none,none,none,none,none,none,none,none,none,none,none,none,none,none,none,none,none,none,none,none,none,none,none,none,none,none,none,none]) (by simp only [setl_len]) ?_
      refine sR 7 td238 ?_
      have hS198:=hS197.pick1
      have hS199:=hS198.drop
      refine sR 1 td239 ?_
      exact rF _ (ih48 (IntKind.i64.wrap (t40 + 1)) (setl t41 t40 false) _ hp190 he46 _ _ hS199)
     have hp200:=ite_f hp160 h166
     refine sR 7 td243 ?_
     obtain ⟨g201,hp202⟩:=ite_some hp200
     obtain ⟨b203,p204,hA205,-⟩:=(hS65.row 1 rfl).at_ len_encB (by omega) g201.1 g201.2
     refine r_indexAddr (c:=p21_30) (i:=14) (d:=(some 71)) (ty:=0) (t:=102) (e:=4) (n:=t41.length) (cp:=(a0.length : Int).toNat) (sz:=1) (kk:=.i64) (x:=(.tmp 57)) (y:=(.tmp 58)) (b:=b203) (o':=p204) (j:=t40) (by kernel_rfl) (by kernel_rfl) (slv (by kernel_rfl) hA205) (by kernel_rfl) (by kernel_rfl) (by kernel_rfl) g201.1 g201.2 ?_
     have hS207:=hS65.pick1
     refine r_storeEl (c:=p21_30) (i:=15) (d:=none) (ty:=0) (enc:=encB) (e:=4) (t:=4) (sz:=1) (cp:=(a0.length : Int).toNat) (A:=A13) (xs:=t41) (x:=(.tmp 71)) (y:=(.tmp 70)) (el:=gt t41 t40) (el':=false) (j:=t40) (off:=0) (b:=b203) (p:=p204) (v:=.bool false) (vs:=[.bool false]) (ad:=⟨b203,p204 + t40.toNat * 1,none⟩) hS207 (by kernel_rfl) (by kernel_rfl) (by kernel_rfl) (by simp) (by kernel_rfl) hA205 g201 rfl len_encB (by kernel_rfl) (by kernel_rfl) (by kernel_rfl) (Nat.le_of_ble_eq_true (by kernel_rfl)) (Nat.le_of_ble_eq_true (by kernel_rfl)) (by kernel_rfl) ?_
     intro w208 hS209
     refine rF [none,none,none,none,none,none,none,some (.slice A13 t41.length ((a0.length : Int).toNat)),none,none,none,none,none,none,none,none,none,none,none,none,none,none,none,none,none,none,none,none,none,none,none,none,none,none,none,none,none,none,none,none,none,none,none,none,none,none,none,none,none,none,none,none,none,none,none,none,none,some (.slice A13 t41.length ((a0.length : Int).toNat)),none,some (.slice A13 t41.length ((a0.length : Int).toNat)),none,none,none,none,none,none,none,none,none,none,none,none,none,none,none,none,none,none,none,none,none,none,none,none,none,none,none,none,none,none,none,none,none,none,none,none] ?_
     refine Runs.refill (m':=[none,none,none,none,none,none,none,some (.slice A13 (setl t41 t40 false).length ((a0.length : Int).toNat)),none,none,none,none,none,none,none,none,none,none,none,none,none,none,none,none,none,none,none,none,none,none,none,none,none,none,none,none,none,none,none,none,none,none,none,none,none,none,none,none,none,none,none,none,none,none,none,none,none,some (.slice A13 (setl t41 t40 false).length ((a0.length : Int).toNat)),none,some (.slice A13 (setl t41 t40 false).length ((a0.length : Int).toNat)),none,none,none,none,none,none,none,none,none,none,none,none,none,none,none,none,none,none,none,none,none,none,none,none,none,none,none,none,none,none,none,none,none,none,none,none]) (by simp only [setl_len]) ?_
     refine sR 7 td238 ?_
     have hS210:=hS209.pick1
     have hS211:=hS210.drop
     refine sR 1 td239 ?_
     exact rF _ (ih48 (IntKind.i64.wrap (t40 + 1)) (setl t41 t40 false) _ hp202 he46 _ _ hS211)
    refine sI 6 (.inRegion (opsOf (cd21 [1,1,1,0,1,0,0,1,1,0,0,1,1,0,1,1,1,1,1,1,1,1,0])) [1]::.code (cd21 [1,1,1,0,1,0,0,1,1,0,0,1,1,0,1,1,1,1,1,1,1,1,1])::td242) 73 hp212 (fun hp215 => ?_) fun hp269 => ?_
    ·refine sR 8 (iR p21_33 4 12::td242) ?_
     refine rL1 3 (.tmp 77) 1 (hS65.blk 0 rfl) ?_
     obtain ⟨g216,hp217⟩:=ite_some hp215
     obtain ⟨b218,p219,hA220,-⟩:=(hS65.row 1 rfl).at_ len_encB (by omega) g216.1 g216.2
     refine r_indexAddr (c:=p21_33) (i:=5) (d:=(some 79)) (ty:=0) (t:=102) (e:=4) (n:=t41.length) (cp:=(a0.length : Int).toNat) (sz:=1) (kk:=.i64) (x:=(.tmp 76)) (y:=(.tmp 78)) (b:=b218) (o':=p219) (j:=(gt a0 t40).A) (by kernel_rfl) (by kernel_rfl) (slv (by kernel_rfl) hA220) (by kernel_rfl) (by kernel_rfl) (by kernel_rfl) g216.1 g216.2 ?_
     refine rL1 4 (.tmp 79) 0 ((hS65.row 1 rfl).at2 hA220 len_encB (by omega) g216.1 g216.2) ?_
     refine r_split (gt t41 ((gt a0 t40).A)) (fun h222 => ?_) (fun h223 => ?_)
     ·have hp224:=ite_t hp217 h222
      refine sR 7 td244 ?_
      obtain ⟨g225,hp226⟩:=ite_some hp224
      obtain ⟨b227,p228,hA229,-⟩:=(hS65.row 1 rfl).at_ len_encB (by omega) g225.1 g225.2
      refine r_indexAddr (c:=p21_33) (i:=14) (d:=(some 88)) (ty:=0) (t:=102) (e:=4) (n:=t41.length) (cp:=(a0.length : Int).toNat) (sz:=1) (kk:=.i64) (x:=(.tmp 74)) (y:=(.tmp 75)) (b:=b227) (o':=p228) (j:=t40) (by kernel_rfl) (by kernel_rfl) (slv (by kernel_rfl) hA229) (by kernel_rfl) (by kernel_rfl) (by kernel_rfl) g225.1 g225.2 ?_
      have hS231:=hS65.pick1
      refine r_storeEl (c:=p21_33) (i:=15) (d:=none) (ty:=0) (enc:=encB) (e:=4) (t:=4) (sz:=1) (cp:=(a0.length : Int).toNat) (A:=A13) (xs:=t41) (x:=(.tmp 88)) (y:=(.tmp 87)) (el:=gt t41 t40) (el':=true) (j:=t40) (off:=0) (b:=b227) (p:=p228) (v:=.bool true) (vs:=[.bool true]) (ad:=⟨b227,p228 + t40.toNat * 1,none⟩) hS231 (by kernel_rfl) (by kernel_rfl) (by kernel_rfl) (by simp) (by kernel_rfl) hA229 g225 rfl len_encB (by kernel_rfl) (by kernel_rfl) (by kernel_rfl) (Nat.le_of_ble_eq_true (by kernel_rfl)) (Nat.le_of_ble_eq_true (by kernel_rfl)) (by kernel_rfl) ?_
      intro w232 hS233
      refine rF [none,none,none,none,none,none,none,some (.slice A13 t41.length ((a0.length : Int).toNat)),none,none,none,none,none,none,none,none,none,none,none,none,none,none,none,none,none,none,none,none,none,none,none,none,none,none,none,none,none,none,none,none,none,none,none,none,none,none,none,none,none,none,none,none,none,none,none,none,none,none,none,none,none,none,none,none,none,none,none,none,none,none,none,none,none,none,some (.slice A13 t41.length ((a0.length : Int).toNat)),none,some (.slice A13 t41.length ((a0.length : Int).toNat)),none,none,none,none,none,none,none,none,none,none,none,none,none,none,none,none,none,none,none] ?_
      refine Runs.refill (m':=[none,none,none,none,none,none,none,some (.slice A13 (setl t41 t40 true).length ((a0.length : Int).toNat)),none,none,none,none,none,none,none,none,none,none,none,none,none,none,none,none,none,none,none,none,none,none,none,none,none,none,none,none,none,none,none,none,none,none,none,none,none,none,none,none,none,none,none,none,none,none,none,none,none,none,none,none,none,none,none,none,none,none,none,none,none,none,none,none,none,none,some (.slice A13 (setl t41 t40 true).length ((a0.length : Int).toNat)),none,some (.slice A13 (setl t41 t40 true).length ((a0.length : Int).toNat)),none,none,none,none,none,none,none,none,none,none,none,none,none,none,none,none,none,none,none]) (by simp only [setl_len]) ?_
      refine sR 7 td238 ?_
      have hS234:=hS233.pick1
      have hS235:=hS234.drop
      refine sR 1 td239 ?_
      exact rF _ (ih48 (IntKind.i64.wrap (t40 + 1)) (setl t41 t40 true) _ hp226 he46 _ _ hS235)
     have hp236:=ite_f hp217 h223
     refine sR 3 (iR p21_33 10 6::td242) ?_
     refine rL1 3 (.tmp 83) 2 (hS65.blk 0 rfl) ?_
     obtain ⟨g237,hp238⟩:=ite_some hp236
     obtain ⟨b239,p240,hA241,-⟩:=(hS65.row 1 rfl).at_ len_encB (by omega) g237.1 g237.2
     refine r_indexAddr (c:=p21_33) (i:=11) (d:=(some 85)) (ty:=0) (t:=102) (e:=4) (n:=t41.length) (cp:=(a0.length : Int).toNat) (sz:=1) (kk:=.i64) (x:=(.tmp 82)) (y:=(.tmp 84)) (b:=b239) (o':=p240) (j:=(gt a0 t40).B) (by kernel_rfl) (by kernel_rfl) (slv (by kernel_rfl) hA241) (by kernel_rfl) (by kernel_rfl) (by kernel_rfl) g237.1 g237.2 ?_
     refine rL1 4 (.tmp 85) 0 ((hS65.row 1 rfl).at2 hA241 len_encB (by omega) g237.1 g237.2) ?_
     refine r_split (gt t41 ((gt a0 t40).B)) (fun h243 => ?_) (fun h244 => ?_)
     ·have hp245:=ite_t hp238 h243
      refine sR 1 td244 ?_
      obtain ⟨g246,hp247⟩:=ite_some hp245
      obtain ⟨b248,p249,hA250,-⟩:=(hS65.row 1 rfl).at_ len_encB (by omega) g246.1 g246.2
      refine r_indexAddr (c:=p21_33) (i:=14) (d:=(some 88)) (ty:=0) (t:=102) (e:=4) (n:=t41.length) (cp:=(a0.length : Int).toNat) (sz:=1) (kk:=.i64) (x:=(.tmp 74)) (y:=(.tmp 75)) (b:=b248) (o':=p249) (j:=t40) (by kernel_rfl) (by kernel_rfl) (slv (by kernel_rfl) hA250) (by kernel_rfl) (by kernel_rfl) (by kernel_rfl) g246.1 g246.2 ?_
      have hS252:=hS65.pick1
      refine r_storeEl (c:=p21_33) (i:=15) (d:=none) (ty:=0) (enc:=encB) (e:=4) (t:=4) (sz:=1) (cp:=(a0.length : Int).toNat) (A:=A13) (xs:=t41) (x:=(.tmp 88)) (y:=(.tmp 87)) (el:=gt t41 t40) (el':=true) (j:=t40) (off:=0) (b:=b248) (p:=p249) (v:=.bool true) (vs:=[.bool true]) (ad:=⟨b248,p249 + t40.toNat * 1,none⟩) hS252 (by kernel_rfl) (by kernel_rfl) (by kernel_rfl) (by simp) (by kernel_rfl) hA250 g246 rfl len_encB (by kernel_rfl) (by kernel_rfl) (by kernel_rfl) (Nat.le_of_ble_eq_true (by kernel_rfl)) (Nat.le_of_ble_eq_true (by kernel_rfl)) (by kernel_rfl) ?_
      intro w253 hS254
      refine rF [none,none,none,none,none,none,none,some (.slice A13 t41.length ((a0.length : Int).toNat)),none,none,none,none,none,none,none,none,none,none,none,none,none,none,none,none,none,none,none,none,none,none,none,none,none,none,none,none,none,none,none,none,none,none,none,none,none,none,none,none,none,none,none,none,none,none,none,none,none,none,none,none,none,none,none,none,none,none,none,none,none,none,none,none,none,none,some (.slice A13 t41.length ((a0.length : Int).toNat)),none,some (.slice A13 t41.length ((a0.length : Int).toNat)),none,none,none,none,none,some (.slice A13 t41.length ((a0.length : Int).toNat)),none,none,none,none,none,none,none,none,none,none,none,none,none] ?_
      refine Runs.refill (m':=[none,none,none,none,none,none,none,some (.slice A13 (setl t41 t40 true).length ((a0.length : Int).toNat)),none,none,none,none,none,none,none,none,none,none,none,none,none,none,none,none,none,none,none,none,none,none,none,none,none,none,none,none,none,none,none,none,none,none,none,none,none,none,none,none,none,none,none,none,none,none,none,none,none,none,none,none,none,none,none,none,none,none,none,none,none,none,none,none,none,none,some (.slice A13 (setl t41 t40 true).length ((a0.length : Int).toNat)),none,some (.slice A13 (setl t41 t40 true).length ((a0.length : Int).toNat)),none,none,none,none,none,some (.slice A13 (setl t41 t40 true).length ((a0.length : Int).toNat)),none,none,none,none,none,none,none,none,none,none,none,none,none]) (by simp only [setl_len]) ?_
      refine sR 7 td238 ?_
      have hS255:=hS254.pick1
      have hS256:=hS255.drop
      refine sR 1 td239 ?_
      exact rF _ (ih48 (IntKind.i64.wrap (t40 + 1)) (setl t41 t40 true) _ hp247 he46 _ _ hS256)
     have hp257:=ite_f hp238 h244
     refine sR 1 td244 ?_
     obtain ⟨g258,hp259⟩:=ite_some hp257
     obtain ⟨b260,p261,hA262,-⟩:=(hS65.row 1 rfl).at_ len_encB (by omega) g258.1 g258.2
     refine r_indexAddr (c:=p21_33) (i:=14) (d:=(some 88)) (ty:=0) (t:=102) (e:=4) (n:=t41.length) (cp:=(a0.length : Int).toNat) (sz:=1) (kk:=.i64) (x:=(.tmp 74)) (y:=(.tmp 75)) (b:=b260) (o':=p261) (j:=t40) (by kernel_rfl) (by kernel_rfl) (slv (by kernel_rfl) hA262) (by kernel_rfl) (by kernel_rfl) (by kernel_rfl) g258.1 g258.2 ?_
     have hS264:=hS65.pick1
     refine r_storeEl (c:=p21_33) (i:=15) (d:=none) (ty:=0) (enc:=encB) (e:=4) (t:=4) (sz:=1) (cp:=(a0.length : Int).toNat) (A:=A13) (xs:=t41) (x:=(.tmp 88)) (y:=(.tmp 87)) (el:=gt t41 t40) (el':=false) (j:=t40) (off:=0) (b:=b260) (p:=p261) (v:=.bool false) (vs:=[.bool false]) (ad:=⟨b260,p261 + t40.toNat * 1,none⟩) hS264 (by kernel_rfl) (by kernel_rfl) (by kernel_rfl) (by simp) (by kernel_rfl) hA262 g258 rfl len_encB (by kernel_rfl) (by kernel_rfl) (by kernel_rfl) (Nat.le_of_ble_eq_true (by kernel_rfl)) (Nat.le_of_ble_eq_true (by kernel_rfl)) (by kernel_rfl) ?_
     intro w265 hS266
     refine rF [none,none,none,none,none,none,none,some (.slice A13 t41.length ((a0.length : Int).toNat)),none,none,none,none,none,none,none,none,none,none,none,none,none,none,none,none,none,none,none,none,none,none,none,none,none,none,none,none,none,none,none,none,none,none,none,none,none,none,none,none,none,none,none,none,none,none,none,none,none,none,none,none,none,none,none,none,none,none,none,none,none,none,none,none,none,none,some (.slice A13 t41.length ((a0.length : Int).toNat)),none,some (.slice A13 t41.length ((a0.length : Int).toNat)),none,none,none,none,none,some (.slice A13 t41.length ((a0.length : Int).toNat)),none,none,none,none,none,none,none,none,none,none,none,none,none] ?_
     refine Runs.refill (m':=[none,none,none,none,none,none,none,some (.slice A13 (setl t41 t40 false).length ((a0.length : Int).toNat)),none,none,none,none,none,none,none,none,none,none,none,none,none,none,none,none,none,none,none,none,none,none,none,none,none,none,none,none,none,none,none,none,none,none,none,none,none,none,none,none,none,none,none,none,none,none,none,none,none,none,none,none,none,none,none,none,none,none,none,none,none,none,none,none,none,none,some (.slice A13 (setl t41 t40 false).length ((a0.length : Int).toNat)),none,some (.slice A13 (setl t41 t40 false).length ((a0.length : Int).toNat)),none,none,none,none,none,some (.slice A13 (setl t41 t40 false).length ((a0.length : Int).toNat)),none,none,none,none,none,none,none,none,none,none,none,none,none]) (by simp only [setl_len]) ?_
     refine sR 7 td238 ?_
     have hS267:=hS266.pick1
     have hS268:=hS267.drop
     refine sR 1 td239 ?_
     exact rF _ (ih48 (IntKind.i64.wrap (t40 + 1)) (setl t41 t40 false) _ hp259 he46 _ _ hS268)
    refine sR 10 td238 ?_
    have hS270:=hS65.drop
    refine sR 1 td239 ?_
    exact rF _ (ih48 (IntKind.i64.wrap (t40 + 1)) (id t41) _ hp269 he46 _ _ hS270)
   refine sR 4 td236 ?_
   exact rF _ (J23 t41 ((Option.some.inj hp271).trans he46) _ _ hS43)
  exact rF _ (L50 0 (List.replicate (a0.length : Int).toNat false) _ hv18 rfl _ _ hS15)

noncomputable def cd40 (p : List Nat) : Code := sub (bodyOf Tryz.f40) p
abbrev p40_6:=cd40 [1,1,1,1]
abbrev p40_7:=cd40 [1,1,0,0,0]
abbrev p40_11:=cd40 [1,1,0,0,1,1,1,0,1]
abbrev p40_15:=cd40 [1,1,0,0,1,0,0,1,0,1]
abbrev td245:List Item:=[.code (cd40 [1,1,1])]
abbrev td246:List Item:=.inBlock 0::td245
abbrev td247:List Item:=.code (cd40 [1,1,0,0,1])::td246
abbrev td248:List Item:=.code (cd40 [1,1,0,0,1,0,1])::td246
def cond_below.f (a0 a1 : api_Ref) : Option Int :=
  (((if (decide (a0.Thread < 0)) = true then (if (decide (a1.Thread < 0)) = true then (if (a0.Thread != a1.Thread) = true then some (.inr ((IntKind.i64.wrap (a0.Thread - a1.Thread)))) else some (.inl ())) else (if (decide (a0.Thread < 0)) = true then some (.inr (1)) else some (.inr ((-1))))) else (if (decide (a1.Thread < 0)) = true then (if (decide (a0.Thread < 0)) = true then some (.inr (1)) else some (.inr ((-1)))) else (if (a0.Thread != a1.Thread) = true then some (.inr ((IntKind.i64.wrap (a0.Thread - a1.Thread)))) else some (.inl ())))) : Option (Sum Unit Int)) >>= (fun | .inl () => (strings_Compare.f a0.Name a1.Name >>= (fun t20 => some (t20))) | .inr e => some e))
theorem cond_below.ok (a0 a1 : api_Ref) (hS0 : St w0 Z (fs) w) {q0 : Int} (hp0 : cond_below.f a0 a1 = some q0) :
    Calls Tryz.prog 40 #[.agg (enc_api_Ref a0).toArray,.agg (enc_api_Ref a1).toArray] w (fun e w' => e = .returned (.int .i64 q0) ∧ St w0 Z (fs) w'):=by
  refine calls_abs ?_; intro R hR
  unfold cond_below.f at hp0
  refine calls_of_runs (fn:=Tryz.f40) (c:=cd40 []) Tryz.func40 (by kernel_rfl) (al:=[.agg (enc_api_Ref a0).toArray,.agg (enc_api_Ref a1).toArray]) rfl (n:=29) rfl ?_
  refine sR 2 [.inRegion (opsOf (cd40 [0])) [0,1,2],.code (cd40 [1])] ?_
  refine r_box (c:=(cd40 [0])) (i:=0) (d:=(some 2)) (ty:=0) (x:=(.tmp 0)) (v:=.agg (enc_api_Ref a0).toArray) (t:=66) (cs:=enc_api_Ref a0) hS0 (by kernel_rfl) (by kernel_rfl) (by kernel_rfl) (by kernel_rfl) ?_
  intro b1 w2 hS3
  refine r_box (c:=(cd40 [0])) (i:=1) (d:=(some 3)) (ty:=0) (x:=(.tmp 1)) (v:=.agg (enc_api_Ref a1).toArray) (t:=66) (cs:=enc_api_Ref a1) hS3 (by kernel_rfl) (by kernel_rfl) (by kernel_rfl) (by kernel_rfl) ?_
  intro b5 w6 hS7
  refine sR 3 [.code (cd40 [1,0]),.code (cd40 [1,1])] ?_
  refine r_quiet hS7 (c:=(cd40 [1,0])) (id:=1) (by kernel_rfl) (by kernel_rfl) (by kernel_rfl) (is:=[0,1,2,3,4,5]) (by kernel_rfl) ?_
  refine qR 1 (rg 1 5) ?_
  refine qL1 3 (.tmp 7) 0 (fun w hC => (hC.blk 1 rfl)) ?_
  refine qR 1 [3,4,5] ?_
  refine qL1 3 (.tmp 9) 0 (fun w hC => (hC.blk 0 rfl)) ?_
  refine qR 2 [] ?_
  refine Qs.nil ?_
  intro w9 hS10
  obtain ⟨v11,hv12,hp13⟩:=bind_some' hp0
  have hq16 : ∀ x,Sum.inr x = v11 → x = q0:=by intro x hx; subst hx; simpa using hp13
  have J17 : ∀ (he19 : Sum.inl () = v11) (l18 : List Value) (w14 : World) (hS15 : St w0 Z (xblk b1 66 (enc_api_Ref a0)::xblk b5 66 (enc_api_Ref a1)::fs) w14),Runs Tryz.prog (fx 40) td245 (fill (mk 31 [(2,.pointer (some ⟨b1,0,none⟩)),(3,.pointer (some ⟨b5,0,none⟩))]) l18) w14 R:=by
   intro he19 l18 w14 hS15
   subst he19
   try dsimp only at hp13
   refine sR 3 [iR (cd40 [1,1,1,0]) 1 5,.code p40_6] ?_
   refine rL1 9 (.tmp 26) 1 (hS15.blk 0 rfl) ?_
   refine sR 1 [.inRegion (opsOf (cd40 [1,1,1,0])) [3,4,5],.code p40_6] ?_
   refine rL1 9 (.tmp 28) 1 (hS15.blk 1 rfl) ?_
   obtain ⟨t20,hr21,hp22⟩:=bind_some' hp13
   refine rC (strings_Compare.ok a0.Name a1.Name hS15 hr21) ?_
   rintro _ w23 ⟨rfl,hS24⟩
   refine ⟨_,rfl,?_⟩
   refine sR 2 [.code p40_6] ?_
   have hS25:=hS24.drop
   have hS26:=hS25.drop
   refine rR (.int .i64 t20) Tryz.func40 ?_
   cases Option.some.inj hp22
   exact hR _ _ ⟨rfl,hS26⟩
  refine sI 6 (iR p40_7 2 4::td247) 13 hv12 (fun hp30 => ?_) fun hp53 => ?_
  ·refine sI 2 (.inRegion (opsOf p40_7) [4,5]::td247) 15 hp30 (fun hp33 => ?_) fun hp42 => ?_
   ·refine sI 9 (.inRegion (opsOf (cd40 [1,1,0,0,1,1,0])) [3]::.code (cd40 [1,1,0,0,1,1,1])::td246) 22 hp33 (fun hp36 => ?_) fun hp40 => ?_
    ·refine sR 10 (.code p40_11::td246) ?_
     have hS37:=hS10.drop
     have hS38:=hS37.drop
     refine rR (.int .i64 (IntKind.i64.wrap (a0.Thread - a1.Thread))) Tryz.func40 ?_
     cases hq16 _ (Option.some.inj hp36)
     exact hR _ _ ⟨rfl,hS38⟩
    refine sR 5 td245 ?_
    have hS41:=hS10.pick1
    exact rF _ (J17 (Option.some.inj hp40) _ _ hS41)
   refine sI 9 (.inRegion (opsOf (cd40 [1,1,0,0,1,0,0,0])) []::.code (cd40 [1,1,0,0,1,0,0,1])::td248) 18 hp42 (fun hp45 => ?_) fun hp49 => ?_
   ·refine sR 6 (.code p40_15::td248) ?_
    have hS46:=hS10.drop
    have hS47:=hS46.drop
    refine rR (.int .i64 1) Tryz.func40 ?_
    cases hq16 _ (Option.some.inj hp45)
    exact hR _ _ ⟨rfl,hS47⟩
   refine sR 7 (.code (cd40 [1,1,0,0,1,0,1,1])::td246) ?_
   have hS50:=hS10.drop
   have hS51:=hS50.drop
   refine rR (.int .i64 (-1)) Tryz.func40 ?_
   cases hq16 _ (Option.some.inj hp49)
   exact hR _ _ ⟨rfl,hS51⟩
  refine sI 2 (.inRegion (opsOf p40_7) [4,5]::td247) 15 hp53 (fun hp56 => ?_) fun hp67 => ?_
  ·refine sI 9 (.inRegion (opsOf (cd40 [1,1,0,0,1,0,0,0])) []::.code (cd40 [1,1,0,0,1,0,0,1])::td248) 18 hp56 (fun hp59 => ?_) fun hp63 => ?_
   ·refine sR 6 (.code p40_15::td248) ?_
    have hS60:=hS10.drop
    have hS61:=hS60.drop
    refine rR (.int .i64 1) Tryz.func40 ?_
    cases hq16 _ (Option.some.inj hp59)
    exact hR _ _ ⟨rfl,hS61⟩
   refine sR 7 (.code (cd40 [1,1,0,0,1,0,1,1])::td246) ?_
   have hS64:=hS10.drop
   have hS65:=hS64.drop
   refine rR (.int .i64 (-1)) Tryz.func40 ?_
   cases hq16 _ (Option.some.inj hp63)
   exact hR _ _ ⟨rfl,hS65⟩
  refine sI 9 (.inRegion (opsOf (cd40 [1,1,0,0,1,1,0])) [3]::.code (cd40 [1,1,0,0,1,1,1])::td246) 22 hp67 (fun hp70 => ?_) fun hp74 => ?_
  ·refine sR 10 (.code p40_11::td246) ?_
   have hS71:=hS10.drop
   have hS72:=hS71.drop
   refine rR (.int .i64 (IntKind.i64.wrap (a0.Thread - a1.Thread))) Tryz.func40 ?_
   cases hq16 _ (Option.some.inj hp70)
   exact hR _ _ ⟨rfl,hS72⟩
  refine sR 5 td245 ?_
  have hS75:=hS10.pick1
  exact rF _ (J17 (Option.some.inj hp74) _ _ hS75)

noncomputable def cd41 (p : List Nat) : Code := sub (bodyOf Tryz.f41) p
abbrev p41_10:=cd41 [1,1,0,1,0,0,1,0,0,0]
abbrev p41_15:=cd41 [1,1,0,1,0,0,1,0,0,1,0,1,0,1,0,0]
abbrev p41_17:=cd41 [1,1,0,1,0,0,1,0,0,1,0,1,1,0]
abbrev p41_20:=cd41 [1,1,0,1,0,0,1,0,0,1,0,1,1,1,1]
abbrev p41_24:=cd41 [1,1,0,1,0,0,1,0,0,1,0,1,0,1,0,0,1,0,0,0]
abbrev p41_26:=cd41 [1,1,0,1,0,0,1,0,0,1,0,1,0,1,0,0,1,1]
abbrev p41_27:=cd41 [1,1,0,1,0,0,1,0,0,1,0,1,0,1,0,0,1,0,0,1,0,0]
abbrev td249:List Item:=[.code (cd41 [1,1,1])]
abbrev td250:List Item:=.inBlock 0::td249
abbrev td251:List Item:=.inLoop (cd41 [1,1,0,1,0,0])::td250
abbrev td252:List Item:=.code (cd41 [1,1,0,1,0,0])::td251
abbrev td253:List Item:=.code (cd41 [1,1,0,1,0,0,1,1])::td251
abbrev td254:List Item:=.inBlock 1::td253
abbrev td255:List Item:=.code (cd41 [1,1,0,1,0,0,1,0,0,1,0,1,1])::td254
abbrev td256:List Item:=.inBlock 2::td255
abbrev td257:List Item:=.inLoop p41_15::td256
abbrev td258:List Item:=.code p41_15::td257
def slices_Compact___api_Ref_api_Ref.l1 (a0 : List api_Ref) (t16 t74 t75 : Int) (t76 : List api_Ref) : Option (Int × (List api_Ref)) :=
  (if (decide (t75 < (((a0.length - t16.toNat) : Nat) : Int))) = true then (if 0 ≤ t75 ∧ t75 < (((a0.length - t16.toNat) : Nat) : Int) ∧ ((t16.toNat : Nat) : Int) + t75 < (t76.length : Int) then (if 0 ≤ (IntKind.i64.wrap (t75 - 1)) ∧ (IntKind.i64.wrap (t75 - 1)) < (((a0.length - t16.toNat) : Nat) : Int) ∧ ((t16.toNat : Nat) : Int) + (IntKind.i64.wrap (t75 - 1)) < (t76.length : Int) then (if (!(decide ((gt t76 (((t16.toNat : Nat) : Int) + t75)) = (gt t76 (((t16.toNat : Nat) : Int) + (IntKind.i64.wrap (t75 - 1))))))) = true then (if 0 ≤ t75 ∧ t75 < (((a0.length - t16.toNat) : Nat) : Int) ∧ ((t16.toNat : Nat) : Int) + t75 < (t76.length : Int) then (if 0 ≤ t74 ∧ t74 < (t76.length : Int) then (slices_Compact___api_Ref_api_Ref.l1 a0 t16 (IntKind.i64.wrap (t74 + 1)) (IntKind.i64.wrap (t75 + 1)) (setl t76 t74 (gt t76 (((t16.toNat : Nat) : Int) + t75)))) else none) else none) else (slices_Compact___api_Ref_api_Ref.l1 a0 t16 (id t74) (IntKind.i64.wrap (t75 + 1)) (id t76))) else none) else none) else some ((t74,t76)))
 partial_fixpoint
def slices_Compact___api_Ref_api_Ref.l0 (a0 : List api_Ref) (t16 : Int) : Option (Sum Unit (List api_Ref)) :=
  (if (decide (t16 < (a0.length : Int))) = true then (if 0 ≤ t16 ∧ t16 < (a0.length : Int) then (if 0 ≤ (IntKind.i64.wrap (t16 - 1)) ∧ (IntKind.i64.wrap (t16 - 1)) < (a0.length : Int) then (if (decide ((gt a0 t16) = (gt a0 (IntKind.i64.wrap (t16 - 1))))) = true then (if 0 ≤ t16 ∧ t16 ≤ ((a0.length : Nat) : Int) then (slices_Compact___api_Ref_api_Ref.l1 a0 t16 t16 1 a0 >>= (fun (t52,t53) => (if 0 ≤ t52 ∧ t52 ≤ ((t53.length : Nat) : Int) then (if t52.toNat + (t53.length - t52.toNat) ≤ t53.length then (if 0 ≤ t52 ∧ t52 ≤ ((copyv t53 t52.toNat (t53.length - t52.toNat) (List.replicate (t53.length - t52.toNat) (⟨0,(⟨#[]⟩ : ByteArray)⟩ : api_Ref))).length : Int) then (if t52.toNat ≤ (copyv t53 t52.toNat (t53.length - t52.toNat) (List.replicate (t53.length - t52.toNat) (⟨0,(⟨#[]⟩ : ByteArray)⟩ : api_Ref))).length then some (.inr (((copyv t53 t52.toNat (t53.length - t52.toNat) (List.replicate (t53.length - t52.toNat) (⟨0,(⟨#[]⟩ : ByteArray)⟩ : api_Ref))).take t52.toNat))) else none) else none) else none) else none))) else none) else (slices_Compact___api_Ref_api_Ref.l0 a0 (IntKind.i64.wrap (t16 + 1)))) else none) else none) else some (.inl ()))
 partial_fixpoint
def slices_Compact___api_Ref_api_Ref.f (a0 : List api_Ref) : Option (List api_Ref) :=
  (if (decide ((a0.length : Int) < 2)) = true then some (a0) else (slices_Compact___api_Ref_api_Ref.l0 a0 1 >>= (fun | .inl () => some (a0) | .inr e => some e)))
theorem slices_Compact___api_Ref_api_Ref.ok {a0 : List api_Ref} {Aa0 : Option Addr} {ca0 : Nat} {q0 : List api_Ref} (hp0 : slices_Compact___api_Ref_api_Ref.f a0 = some q0) (hS0 : St w0 Z (xrow Aa0 ca0 66 2 (a0.flatMap enc_api_Ref)::fs) w) :
    Calls Tryz.prog 41 #[.slice Aa0 a0.length ca0] w (fun e w' => ∃ (QA0 : Option Addr) (Qc0 : Nat),e = .returned (.slice QA0 q0.length Qc0) ∧ St w0 Z (xrow QA0 Qc0 66 2 (q0.flatMap enc_api_Ref)::fs) w'):=by
  refine calls_abs ?_; intro R hR
  unfold slices_Compact___api_Ref_api_Ref.f at hp0
  refine calls_of_runs (fn:=Tryz.f41) (c:=cd41 []) Tryz.func41 (by kernel_rfl) (al:=[.slice Aa0 a0.length ca0]) rfl (n:=60) rfl ?_
  refine sI 10 [.inRegion (opsOf (cd41 [1,0,0])) [],.code (cd41 [1,0,1]),.code (cd41 [1,1])] 8 hp0 (fun hp3 => ?_) fun hp5 => ?_
  ·refine sR 7 [.code (cd41 [1,0,1,0,1]),.code (cd41 [1,1])] ?_
   refine rR (.slice Aa0 a0.length ca0) Tryz.func41 ?_
   cases Option.some.inj hp3
   exact hR _ _ ⟨Aa0,ca0,rfl,hS0⟩
  refine sR 10 td252 ?_
  obtain ⟨v6,hv7,hp8⟩:=bind_some' hp5
  have hq11 : ∀ x,Sum.inr x = v6 → x = q0:=by intro x hx; subst hx; simpa using hp8
  have J12 : ∀ (he14 : Sum.inl () = v6) (l13 : List Value) (w9 : World) (hS10 : St w0 Z (xrow Aa0 ca0 66 2 (a0.flatMap enc_api_Ref)::fs) w9),Runs Tryz.prog (fx 41) td249 (fill (mk 61 [(0,.slice Aa0 a0.length ca0)]) l13) w9 R:=by
   intro he14 l13 w9 hS10
   subst he14
   try dsimp only at hp8
   refine sR 5 [.code (cd41 [1,1,1,1])] ?_
   refine rR (.slice Aa0 a0.length ca0) Tryz.func41 ?_
   cases Option.some.inj hp8
   exact hR _ _ ⟨Aa0,ca0,rfl,hS10⟩
  have L25 : ∀ (t16 : Int) (e20 : Sum Unit (List api_Ref)),slices_Compact___api_Ref_api_Ref.l0 a0 t16 = some e20 → e20 = v6 → ∀ (l19 : List Value) (w17 : World) (hS18 : St w0 Z (xrow Aa0 ca0 66 2 (a0.flatMap enc_api_Ref)::fs) w17),Runs Tryz.prog (fx 41) td252 (fill (mk 61 [(0,.slice Aa0 a0.length ca0),(3,.int .i64 t16)]) l19) w17 R:=by
   refine slices_Compact___api_Ref_api_Ref.l0.partial_correctness a0 (fun t16 e20 => e20 = v6 → ∀ (l19 : List Value) (w17 : World) (hS18 : St w0 Z (xrow Aa0 ca0 66 2 (a0.flatMap enc_api_Ref)::fs) w17),Runs Tryz.prog (fx 41) td252 (fill (mk 61 [(0,.slice Aa0 a0.length ca0),(3,.int .i64 t16)]) l19) w17 R) ?_
   intro rec24 ih23 t16 e20 hb22 he21 l19 w17 hS18
   have hq26 : ∀ x,Sum.inr x = e20 → x = q0:=fun x hx => hq11 x (hx.trans he21)
   refine sI 7 (.inRegion (opsOf (cd41 [1,1,0,1,0,0,0,0])) []::.code (cd41 [1,1,0,1,0,0,0,1])::.code (cd41 [1,1,0,1,0,0,1])::td251) 13 hb22 (fun hp29 => ?_) fun hp133 => ?_
   ·refine sR 6 (.code p41_10::.code (cd41 [1,1,0,1,0,0,1,0,0,1])::td254) ?_
    refine r_quiet hS18 (c:=p41_10) (id:=6) (by kernel_rfl) (by kernel_rfl) (by kernel_rfl) (is:=[0,1,2,3,4,5,6,7,8,9]) (by kernel_rfl) ?_
    refine qR 2 (rg 2 8) ?_
    obtain ⟨g30,hp31⟩:=ite_some hp29
    obtain ⟨b32,p33,hA34,-⟩:=(hS18.row 0 rfl).at_ len_api_Ref (by omega) g30.1 g30.2
    refine q_indexAddr (c:=p41_10) (i:=2) (d:=(some 18)) (ty:=0) (t:=43) (e:=66) (n:=a0.length) (cp:=ca0) (sz:=2) (kk:=.i64) (x:=(.tmp 16)) (y:=(.tmp 17)) (b:=b32) (o':=p33) (j:=t16) (by kernel_rfl) (by kernel_rfl) (slv (by kernel_rfl) hA34) (by kernel_rfl) (by kernel_rfl) (by kernel_rfl) g30.1 g30.2 ?_
    refine qLa 66 (.tmp 18) (fun w hC => ((hC.row 0 rfl).at2 hA34 len_api_Ref (by omega) g30.1 g30.2)) ?_
    refine qR 3 [7,8,9] ?_
    obtain ⟨g36,hp37⟩:=ite_some hp31
    obtain ⟨b38,p39,hA40,-⟩:=(hS18.row 0 rfl).at_ len_api_Ref (by omega) g36.1 g36.2
    refine q_indexAddr (c:=p41_10) (i:=7) (d:=(some 23)) (ty:=0) (t:=43) (e:=66) (n:=a0.length) (cp:=ca0) (sz:=2) (kk:=.i64) (x:=(.tmp 20)) (y:=(.tmp 22)) (b:=b38) (o':=p39) (j:=(IntKind.i64.wrap (t16 - 1))) (by kernel_rfl) (by kernel_rfl) (slv (by kernel_rfl) hA40) (by kernel_rfl) (by kernel_rfl) (by kernel_rfl) g36.1 g36.2 ?_
    refine qLa 66 (.tmp 23) (fun w hC => ((hC.row 0 rfl).at2 hA40 len_api_Ref (by omega) g36.1 g36.2)) ?_
    refine qV (.binOp .eql 66 (.tmp 19) (.tmp 24) 66) (.bool (decide ((gt a0 t16) = (gt a0 (IntKind.i64.wrap (t16 - 1)))))) (fun w hC o ho _ => x_eql_api_Ref (by kernel_rfl) (by kernel_rfl) ho) ?_
    refine q_split (decide ((gt a0 t16) = (gt a0 (IntKind.i64.wrap (t16 - 1))))) (fun h42 => ?_) (fun h43 => ?_)
    ·have hp44:=ite_t hp37 h42
     refine Qs.nil ?_
     intro w45 hS46
     refine sR 5 (.inRegion (opsOf (cd41 [1,1,0,1,0,0,1,0,0,1,0,0])) [2,3]::.code (cd41 [1,1,0,1,0,0,1,0,0,1,0,1])::td254) ?_
     obtain ⟨g47,hp48⟩:=ite_some hp44
     refine rV (.slice 43 (.tmp 26) (some (.tmp 27)) none none) (.slice (vA Aa0 ca0 t16.toNat 2) (a0.length - t16.toNat) (ca0 - t16.toNat)) (fun o ho _ => x_cutSl_sn (e:=66) (sz:=2) (A:=Aa0) (n:=a0.length) (c:=ca0) (k:=.i64) (by kernel_rfl) (by kernel_rfl) (by kernel_rfl) (by kernel_rfl) g47 rfl ho) ?_
     refine sR 9 td258 ?_
     obtain ⟨v49,hv50,hp51⟩:=bind_some' hp48
     have J56 : ∀ (t52 : Int) (t53 : List api_Ref) (he58 : (t52,t53) = v49) (l57 : List Value) (w54 : World) (hS55 : St w0 Z (xrow Aa0 ca0 66 2 (t53.flatMap enc_api_Ref)::fs) w54),Runs Tryz.prog (fx 41) td255 (fill (mk 61 [(0,.slice Aa0 t53.length ca0),(3,.int .i64 t52)]) l57) w54 R:=by
      intro t52 t53 he58 l57 w54 hS55
      subst he58
      try dsimp only at hp51
      refine sR 4 (.inRegion (opsOf p41_17) [2,3]::.code (cd41 [1,1,0,1,0,0,1,0,0,1,0,1,1,1])::td254) ?_
      obtain ⟨g59,hp60⟩:=ite_some hp51
      refine rV (.slice 43 (.tmp 54) (some (.tmp 55)) none none) (.slice (vA Aa0 ca0 t52.toNat 2) (t53.length - t52.toNat) (ca0 - t52.toNat)) (fun o ho _ => x_cutSl_sn (e:=66) (sz:=2) (A:=Aa0) (n:=t53.length) (c:=ca0) (k:=.i64) (by kernel_rfl) (by kernel_rfl) (by kernel_rfl) (by kernel_rfl) g59 rfl ho) ?_
      obtain ⟨g61,hp62⟩:=ite_some hp60
      refine r_clearV (c:=p41_17) (i:=3) (d:=none) (ty:=0) (enc:=enc_api_Ref) (e:=66) (t:=43) (sz:=2) (cp:=ca0) (L:=t52.toNat) (n:=(t53.length - t52.toNat)) (A:=Aa0) (xs:=t53) (s:=(.tmp 56)) (z:=.agg (enc_api_Ref (⟨0,(⟨#[]⟩ : ByteArray)⟩ : api_Ref)).toArray) (z0:=(⟨0,(⟨#[]⟩ : ByteArray)⟩ : api_Ref)) hS55 (by kernel_rfl) (by kernel_rfl) (by kernel_rfl) (by kernel_rfl) (by kernel_rfl) (by kernel_rfl) (by omega) len_api_Ref one_api_Ref g61 ?_
      intro w63 hS64
      refine rF [some (.slice Aa0 t53.length ca0),none,none,none,none,none,none,none,none,none,none,none,none,none,none,none,none,none,none,none,none,none,none,none,none,none,none,none,none,none,none,none,none,none,none,none,none,none,none,none,none,none,none,none,none,none,none,none,none,none,none,none,none,none,some (.slice Aa0 t53.length ca0),none,none,none,none,none,none] ?_
      refine Runs.refill (m':=[some (.slice Aa0 (copyv t53 t52.toNat (t53.length - t52.toNat) (List.replicate (t53.length - t52.toNat) (⟨0,(⟨#[]⟩ : ByteArray)⟩ : api_Ref))).length ca0),none,none,none,none,none,none,none,none,none,none,none,none,none,none,none,none,none,none,none,none,none,none,none,none,none,none,none,none,none,none,none,none,none,none,none,none,none,none,none,none,none,none,none,none,none,none,none,none,none,none,none,none,none,some (.slice Aa0 (copyv t53 t52.toNat (t53.length - t52.toNat) (List.replicate (t53.length - t52.toNat) (⟨0,(⟨#[]⟩ : ByteArray)⟩ : api_Ref))).length ca0),none,none,none,none,none,none]) (by simp only [copyv_len g61]) ?_
      refine sR 5 (.inRegion (opsOf (cd41 [1,1,0,1,0,0,1,0,0,1,0,1,1,1,0])) [2,3]::.code p41_20::td254) ?_
      obtain ⟨g65,hp66⟩:=ite_some hp62
      have hc67:=(hS64.row 0 rfl).cap len_api_Ref (by omega)
      have g68 : 0 ≤ t52 ∧ t52 ≤ (ca0 : Int):=by omega
      refine rV (.slice 43 (.tmp 57) none (some (.tmp 58)) none) (.slice Aa0 t52.toNat ca0) (fun o ho _ => x_cutSl_nsC (e:=66) (sz:=2) (A:=Aa0) (n:=(copyv t53 t52.toNat (t53.length - t52.toNat) (List.replicate (t53.length - t52.toNat) (⟨0,(⟨#[]⟩ : ByteArray)⟩ : api_Ref))).length) (c:=ca0) (k:=.i64) (by kernel_rfl) (by kernel_rfl) (by kernel_rfl) (by kernel_rfl) g68 cut0 ho) ?_
      refine sR 2 (.code p41_20::td254) ?_
      refine r_isret (c:=p41_20) (by kernel_rfl) ?_
      obtain ⟨g69,hp70⟩:=ite_some hp66
      have hS71:=hS64.cutrow0 t52.toNat g69 len_api_Ref
      refine rR (.slice Aa0 t52.toNat ca0) Tryz.func41 ?_
      cases hq26 _ (Option.some.inj hp70)
      exact hR _ _ ⟨Aa0,ca0,(by rw [lenTake g69]),hS71⟩
     have L85 : ∀ (t74 t75 : Int) (t76 : List api_Ref) (e80 : (Int × (List api_Ref))),slices_Compact___api_Ref_api_Ref.l1 a0 t16 t74 t75 t76 = some e80 → e80 = v49 → ∀ (l79 : List Value) (w77 : World) (hS78 : St w0 Z (xrow Aa0 ca0 66 2 (t76.flatMap enc_api_Ref)::fs) w77),Runs Tryz.prog (fx 41) td258 (fill (mk 61 [(0,.slice Aa0 t76.length ca0),(3,.int .i64 t74),(4,.slice (vA Aa0 ca0 t16.toNat 2) (a0.length - t16.toNat) (ca0 - t16.toNat)),(5,.int .i64 t75)]) l79) w77 R:=by
      refine slices_Compact___api_Ref_api_Ref.l1.partial_correctness a0 t16 (fun t74 t75 t76 e80 => e80 = v49 → ∀ (l79 : List Value) (w77 : World) (hS78 : St w0 Z (xrow Aa0 ca0 66 2 (t76.flatMap enc_api_Ref)::fs) w77),Runs Tryz.prog (fx 41) td258 (fill (mk 61 [(0,.slice Aa0 t76.length ca0),(3,.int .i64 t74),(4,.slice (vA Aa0 ca0 t16.toNat 2) (a0.length - t16.toNat) (ca0 - t16.toNat)),(5,.int .i64 t75)]) l79) w77 R) ?_
      intro rec84 ih83 t74 t75 t76 e80 hb82 he81 l79 w77 hS78
      refine sI 7 (.inRegion (opsOf (cd41 [1,1,0,1,0,0,1,0,0,1,0,1,0,1,0,0,0,0])) []::.code (cd41 [1,1,0,1,0,0,1,0,0,1,0,1,0,1,0,0,0,1])::.code (cd41 [1,1,0,1,0,0,1,0,0,1,0,1,0,1,0,0,1])::td257) 32 hb82 (fun hp88 => ?_) fun hp129 => ?_
      ·refine sR 6 (.code p41_24::.code (cd41 [1,1,0,1,0,0,1,0,0,1,0,1,0,1,0,0,1,0,0,1])::.inBlock 3::.code p41_26::td257) ?_
       refine r_quiet hS78 (c:=p41_24) (id:=11) (by kernel_rfl) (by kernel_rfl) (by kernel_rfl) (is:=[0,1,2,3,4,5,6,7,8,9]) (by kernel_rfl) ?_
       refine qR 2 (rg 2 8) ?_
       obtain ⟨g89,hp90⟩:=ite_some hp88
       obtain ⟨b91,p92,hA93,-⟩:=(hS78.row 0 rfl).at_ len_api_Ref (by omega) (i:=((t16.toNat : Nat) : Int) + t75) (by omega) g89.2.2
       have g94 : 0 ≤ t75 ∧ ((t16.toNat : Nat) : Int) + t75 < (t76.length : Int):=⟨g89.1,g89.2.2⟩
       have hc96:=(hS78.row 0 rfl).cap len_api_Ref (by omega)
       have hA95:=vA_at (c:=ca0) (sz:=2) (L:=t16.toNat) hA93 (by omega)
       refine q_indexAddr (c:=p41_24) (i:=2) (d:=(some 37)) (ty:=0) (t:=43) (e:=66) (n:=(a0.length - t16.toNat)) (cp:=(ca0 - t16.toNat)) (sz:=2) (kk:=.i64) (x:=(.tmp 35)) (y:=(.tmp 36)) (b:=b91) (o':=p92 + t16.toNat * 2) (j:=t75) (by kernel_rfl) (by kernel_rfl) (slv (by kernel_rfl) hA95) (by kernel_rfl) (by kernel_rfl) (by kernel_rfl) g89.1 g89.2.1 ?_
       refine qLa 66 (.tmp 37) (fun w hC => ((hC.row 0 rfl).at2v hA93 len_api_Ref (by omega) g94.1 g94.2)) ?_
       refine qR 3 [7,8,9] ?_
       obtain ⟨g97,hp98⟩:=ite_some hp90
       obtain ⟨b99,p100,hA101,-⟩:=(hS78.row 0 rfl).at_ len_api_Ref (by omega) (i:=((t16.toNat : Nat) : Int) + (IntKind.i64.wrap (t75 - 1))) (by omega) g97.2.2
       have g102 : 0 ≤ (IntKind.i64.wrap (t75 - 1)) ∧ ((t16.toNat : Nat) : Int) + (IntKind.i64.wrap (t75 - 1)) < (t76.length : Int):=⟨g97.1,g97.2.2⟩
       have hc104:=(hS78.row 0 rfl).cap len_api_Ref (by omega)
       have hA103:=vA_at (c:=ca0) (sz:=2) (L:=t16.toNat) hA101 (by omega)
       refine q_indexAddr (c:=p41_24) (i:=7) (d:=(some 42)) (ty:=0) (t:=43) (e:=66) (n:=(a0.length - t16.toNat)) (cp:=(ca0 - t16.toNat)) (sz:=2) (kk:=.i64) (x:=(.tmp 39)) (y:=(.tmp 41)) (b:=b99) (o':=p100 + t16.toNat * 2) (j:=(IntKind.i64.wrap (t75 - 1))) (by kernel_rfl) (by kernel_rfl) (slv (by kernel_rfl) hA103) (by kernel_rfl) (by kernel_rfl) (by kernel_rfl) g97.1 g97.2.1 ?_
       refine qLa 66 (.tmp 42) (fun w hC => ((hC.row 0 rfl).at2v hA101 len_api_Ref (by omega) g102.1 g102.2)) ?_
       refine qV (.binOp .neq 66 (.tmp 38) (.tmp 43) 66) (.bool (!(decide ((gt t76 (((t16.toNat : Nat) : Int) + t75)) = (gt t76 (((t16.toNat : Nat) : Int) + (IntKind.i64.wrap (t75 - 1)))))))) (fun w hC o ho _ => x_neq_api_Ref (by kernel_rfl) (by kernel_rfl) ho) ?_
       refine q_split (!(decide ((gt t76 (((t16.toNat : Nat) : Int) + t75)) = (gt t76 (((t16.toNat : Nat) : Int) + (IntKind.i64.wrap (t75 - 1))))))) (fun h105 => ?_) (fun h106 => ?_)
       ·have hp107:=ite_t hp98 h105
        refine Qs.nil ?_
        intro w108 hS109
        refine sR 7 (iR p41_27 4 4::.code (cd41 [1,1,0,1,0,0,1,0,0,1,0,1,0,1,0,0,1,0,0,1,0,1])::.inBlock 3::.code p41_26::td257) ?_
        obtain ⟨g110,hp111⟩:=ite_some hp107
        obtain ⟨b112,p113,hA114,-⟩:=(hS109.row 0 rfl).at_ len_api_Ref (by omega) (i:=((t16.toNat : Nat) : Int) + t75) (by omega) g110.2.2
        have g115 : 0 ≤ t75 ∧ ((t16.toNat : Nat) : Int) + t75 < (t76.length : Int):=⟨g110.1,g110.2.2⟩
        have hc117:=(hS109.row 0 rfl).cap len_api_Ref (by omega)
        have hA116:=vA_at (c:=ca0) (sz:=2) (L:=t16.toNat) hA114 (by omega)
        refine r_indexAddr (c:=p41_27) (i:=4) (d:=(some 49)) (ty:=0) (t:=43) (e:=66) (n:=(a0.length - t16.toNat)) (cp:=(ca0 - t16.toNat)) (sz:=2) (kk:=.i64) (x:=(.tmp 47)) (y:=(.tmp 48)) (b:=b112) (o':=p113 + t16.toNat * 2) (j:=t75) (by kernel_rfl) (by kernel_rfl) (slv (by kernel_rfl) hA116) (by kernel_rfl) (by kernel_rfl) (by kernel_rfl) g110.1 g110.2.1 ?_
        refine rLa 66 (.tmp 49) ((hS109.row 0 rfl).at2v hA114 len_api_Ref (by omega) g115.1 g115.2) ?_
        obtain ⟨g118,hp119⟩:=ite_some hp111
        obtain ⟨b120,p121,hA122,-⟩:=(hS109.row 0 rfl).at_ len_api_Ref (by omega) g118.1 g118.2
        refine r_indexAddr (c:=p41_27) (i:=6) (d:=(some 51)) (ty:=0) (t:=43) (e:=66) (n:=t76.length) (cp:=ca0) (sz:=2) (kk:=.i64) (x:=(.tmp 45)) (y:=(.tmp 46)) (b:=b120) (o':=p121) (j:=t74) (by kernel_rfl) (by kernel_rfl) (slv (by kernel_rfl) hA122) (by kernel_rfl) (by kernel_rfl) (by kernel_rfl) g118.1 g118.2 ?_
        refine r_storeEl (c:=p41_27) (i:=7) (d:=none) (ty:=0) (enc:=enc_api_Ref) (e:=66) (t:=66) (sz:=2) (cp:=ca0) (A:=Aa0) (xs:=t76) (x:=(.tmp 51)) (y:=(.tmp 50)) (el:=gt t76 t74) (el':=(gt t76 (((t16.toNat : Nat) : Int) + t75))) (j:=t74) (off:=0) (b:=b120) (p:=p121) (v:=.agg (enc_api_Ref (gt t76 (((t16.toNat : Nat) : Int) + t75))).toArray) (vs:=enc_api_Ref (gt t76 (((t16.toNat : Nat) : Int) + t75))) (ad:=⟨b120,p121 + t74.toNat * 2,none⟩) hS109 (by kernel_rfl) (by kernel_rfl) (by kernel_rfl) (by simp) (by kernel_rfl) hA122 g118 rfl len_api_Ref (by kernel_rfl) (by kernel_rfl) (one_api_Ref _) (by rw [len_api_Ref]; omega) (by rw [len_api_Ref]; omega) (by kernel_rfl) ?_
        intro w124 hS125
        refine rF [some (.slice Aa0 t76.length ca0),none,none,none,none,none,none,none,none,none,none,none,none,none,none,none,none,none,none,none,none,none,none,none,none,none,none,none,none,none,none,none,none,none,none,none,none,none,none,none,none,none,none,none,none,some (.slice Aa0 t76.length ca0),none,none,none,none,none,none,none,none,none,none,none,none,none,none,none] ?_
        refine Runs.refill (m':=[some (.slice Aa0 (setl t76 t74 (gt t76 (((t16.toNat : Nat) : Int) + t75))).length ca0),none,none,none,none,none,none,none,none,none,none,none,none,none,none,none,none,none,none,none,none,none,none,none,none,none,none,none,none,none,none,none,none,none,none,none,none,none,none,none,none,none,none,none,none,some (.slice Aa0 (setl t76 t74 (gt t76 (((t16.toNat : Nat) : Int) + t75))).length ca0),none,none,none,none,none,none,none,none,none,none,none,none,none,none,none]) (by simp only [setl_len]) ?_
        refine sR 12 td257 ?_
        refine sR 1 td258 ?_
        exact rF _ (ih83 (IntKind.i64.wrap (t74 + 1)) (IntKind.i64.wrap (t75 + 1)) (setl t76 t74 (gt t76 (((t16.toNat : Nat) : Int) + t75))) _ hp119 he81 _ _ hS125)
       have hp126:=ite_f hp98 h106
       refine Qs.nil ?_
       intro w127 hS128
       refine sR 8 td257 ?_
       refine sR 1 td258 ?_
       exact rF _ (ih83 (id t74) (IntKind.i64.wrap (t75 + 1)) (id t76) _ hp126 he81 _ _ hS128)
      refine sR 3 td255 ?_
      exact rF _ (J56 t74 t76 ((Option.some.inj hp129).trans he81) _ _ hS78)
     exact rF _ (L85 t16 1 a0 _ hv50 rfl _ _ hS46)
    have hp130:=ite_f hp37 h43
    refine Qs.nil ?_
    intro w131 hS132
    refine sR 8 td251 ?_
    refine sR 1 td252 ?_
    exact rF _ (ih23 (IntKind.i64.wrap (t16 + 1)) _ hp130 he21 _ _ hS132)
   refine sR 3 td249 ?_
   exact rF _ (J12 ((Option.some.inj hp133).trans he21) _ _ hS18)
  exact rF _ (L25 1 _ hv7 rfl _ _ hS0)

noncomputable def cd23 (p : List Nat) : Code := sub (bodyOf Tryz.f23) p
abbrev p23_14:=cd23 [1,1,1,0,1,0,0,1,1,0,0,0]
abbrev p23_17:=cd23 [1,1,1,0,1,0,0,1,1,0,0,1,0]
abbrev p23_18:=cd23 [1,1,1,0,1,0,0,1,1,0,0,1,1]
abbrev p23_19:=cd23 [1,1,1,0,1,0,0,1,1,0,0,1,1,0]
abbrev td259:List Item:=[.code (cd23 [1,1,1,1])]
abbrev td260:List Item:=.inBlock 0::td259
abbrev td261:List Item:=.inLoop (cd23 [1,1,1,0,1,0,0])::td260
abbrev td262:List Item:=.code (cd23 [1,1,1,0,1,0,0])::td261
abbrev td263:List Item:=.code (cd23 [1,1,1,0,1,0,0,1,1,1])::td261
abbrev td264:List Item:=.inBlock 1::td263
def cond_Refs.l0 (a0 : List api_Node) (t41 : List api_Ref) (t45 : Int) : Option (List api_Ref) :=
  (if (decide (t45 < (a0.length : Int))) = true then (if 0 ≤ t45 ∧ t45 < (a0.length : Int) then (if (((gt a0 t45).Op) == 2) = true then (if (t41.length + ([(gt a0 t45).Ref] : List api_Ref).length) * 24 ≤ 140737488355328 then (cond_Refs.l0 a0 (t41 ++ ([(gt a0 t45).Ref] : List api_Ref)) (IntKind.i64.wrap (t45 + 1))) else none) else (cond_Refs.l0 a0 (id t41) (IntKind.i64.wrap (t45 + 1)))) else none) else some (t41))
 partial_fixpoint
def cond_Refs.f (a0 : List api_Node) : Option ((List api_Ref) × Int) :=
  (cond_Check.f a0 >>= (fun t1 => (if (t1 != 0) = true then some (([],t1)) else (cond_Refs.l0 a0 [] 0 >>= (fun t16 => (if t16.length < 4611686018427387904 then (sortR cond_below.f t16 >>= fun t27 => (slices_Compact___api_Ref_api_Ref.f t27 >>= (fun t32 => some ((t32,0))))) else none))))))
theorem cond_Refs.ok {a0 : List api_Node} {Aa0 : Option Addr} {ca0 : Nat} {q0 : List api_Ref} {q1 : Int} (hp0 : cond_Refs.f a0 = some (q0,q1)) (hS0 : St w0 Z (fs) w) (ha0 : SlZ (flat enc_api_Node) 6 Z Aa0 ca0 a0) :
    Calls Tryz.prog 23 #[.slice Aa0 a0.length ca0] w (fun e w' => ∃ (QA0 : Option Addr) (Qc0 : Nat),e = .returned (.tuple #[.slice QA0 q0.length Qc0,.int .i64 q1]) ∧ St w0 Z (xrow QA0 Qc0 66 2 (q0.flatMap enc_api_Ref)::fs) w'):=by
  refine calls_abs ?_; intro R hR
  unfold cond_Refs.f at hp0
  refine calls_of_runs (fn:=Tryz.f23) (c:=cd23 []) Tryz.func23 (by kernel_rfl) (al:=[.slice Aa0 a0.length ca0]) rfl (n:=31) rfl ?_
  refine sR 9 [.inRegion (opsOf (cd23 [1,0,0])) [1,2],.code (cd23 [1,0,1]),.code (cd23 [1,1])] ?_
  obtain ⟨t1,hr2,hp3⟩:=bind_some' hp0
  refine rC (cond_Check.ok hr2 hS0 ha0) ?_
  rintro _ w4 ⟨rfl,hS5⟩
  refine ⟨_,rfl,?_⟩
  refine sI 6 [.inRegion (opsOf (cd23 [1,0,1,0])) [],.code (cd23 [1,0,1,1]),.code (cd23 [1,1])] 11 hp3 (fun hp8 => ?_) fun hp12 => ?_
  ·refine sR 8 [.code (cd23 [1,0,1,1,0,1]),.code (cd23 [1,1])] ?_
   have hS10:=hS5.nilrow none 66 2
   refine rR (.tuple #[.slice none 0 0,.int .i64 t1]) Tryz.func23 ?_
   cases Option.some.inj hp8
   exact hR _ _ ⟨none,0,rfl,hS10⟩
  refine sR 16 td262 ?_
  obtain ⟨v13,hv14,hp15⟩:=bind_some' hp12
  have J22 : ∀ (t16 : List api_Ref) (he24 : t16 = v13) (l23 : List Value) (A17 : Option Addr) (c18 : Nat) (w20 : World) (hS21 : St w0 Z (xrow A17 c18 66 2 (t16.flatMap enc_api_Ref)::fs) w20),Runs Tryz.prog (fx 23) td259 (fill (mk 32 [(5,.slice A17 t16.length c18)]) l23) w20 R:=by
   intro t16 he24 l23 A17 c18 w20 hS21
   subst he24
   try dsimp only at hp15
   refine sR 3 [.inRegion (opsOf (cd23 [1,1,1,1,0])) [1],.code (cd23 [1,1,1,1,1])] ?_
   obtain ⟨g25,hp26⟩:=ite_some hp15
   obtain ⟨t27,hr28,hp29⟩:=bind_some' hp26
   refine rC (sort_callsR (enc:=enc_api_Ref) (e:=66) (k:=2) (g:=40) (xs:=t16) (ys:=t27) (A:=A17) (cp:=c18) (cmp:=cond_below.f) sort39 (by kernel_rfl) (by kernel_rfl) len_api_Ref one_api_Ref (by omega) (enters_of Tryz.func40 (by kernel_rfl) rfl) hS21 (fun x y r W h => (cond_below.ok x y (St.start0 W) h).mono fun e w' h => ⟨h.1,h.2.fr.with (h.2.dr trivial)⟩) g25 hr28) ?_
   rintro _ w30 ⟨rfl,hS31⟩
   refine ⟨_,rfl,?_⟩
   refine rF [none,none,none,none,none,some (.slice A17 t16.length c18),none,none,none,none,none,none,none,none,none,none,none,none,none,none,none,none,none,none,none,none,none,none,some (.slice A17 t16.length c18),none,none,none] ?_
   refine Runs.refill (m':=[none,none,none,none,none,some (.slice A17 t27.length c18),none,none,none,none,none,none,none,none,none,none,none,none,none,none,none,none,none,none,none,none,none,none,some (.slice A17 t27.length c18),none,none,none]) (by simp only [sortR_len hr28]) ?_
   refine sR 4 [.inRegion (opsOf (cd23 [1,1,1,1,1,0])) [1,2,3],.code (cd23 [1,1,1,1,1,1])] ?_
   obtain ⟨t32,hr35,hp36⟩:=bind_some' hp29
   refine rC (slices_Compact___api_Ref_api_Ref.ok hr35 hS31) ?_
   rintro _ w38 ⟨Q33,Q34,rfl,hS39⟩
   refine ⟨_,rfl,?_⟩
   refine sR 3 [.code (cd23 [1,1,1,1,1,1])] ?_
   refine rR (.tuple #[.slice Q33 t32.length Q34,.int .i64 0]) Tryz.func23 ?_
   cases Option.some.inj hp36
   exact hR _ _ ⟨Q33,Q34,rfl,hS39⟩
  have L54 : ∀ (t41 : List api_Ref) (t45 : Int) (e49 : (List api_Ref)),cond_Refs.l0 a0 t41 t45 = some e49 → e49 = v13 → ∀ (l48 : List Value) (A42 : Option Addr) (c43 : Nat) (w46 : World) (hS47 : St w0 Z (xrow A42 c43 66 2 (t41.flatMap enc_api_Ref)::fs) w46),Runs Tryz.prog (fx 23) td262 (fill (mk 32 [(5,.slice A42 t41.length c43),(13,.slice Aa0 a0.length ca0),(14,.int .i64 (a0.length : Int)),(15,.int .i64 t45)]) l48) w46 R:=by
   refine cond_Refs.l0.partial_correctness a0 (fun t41 t45 e49 => e49 = v13 → ∀ (l48 : List Value) (A42 : Option Addr) (c43 : Nat) (w46 : World) (hS47 : St w0 Z (xrow A42 c43 66 2 (t41.flatMap enc_api_Ref)::fs) w46),Runs Tryz.prog (fx 23) td262 (fill (mk 32 [(5,.slice A42 t41.length c43),(13,.slice Aa0 a0.length ca0),(14,.int .i64 (a0.length : Int)),(15,.int .i64 t45)]) l48) w46 R) ?_
   intro rec53 ih52 t41 t45 e49 hb51 he50 l48 A42 c43 w46 hS47
   refine sI 3 (.inRegion (opsOf (cd23 [1,1,1,0,1,0,0,0])) []::.code (cd23 [1,1,1,0,1,0,0,1])::td261) 16 hb51 (fun hp57 => ?_) fun hp91 => ?_
   ·refine sR 8 (iR p23_14 0 4::.code (cd23 [1,1,1,0,1,0,0,1,1,0,0,1])::td264) ?_
    obtain ⟨g58,hp59⟩:=ite_some hp57
    obtain ⟨b60,p61,hA62,hc63⟩:=ha0.atF g58.1 g58.2
    refine r_indexAddr (c:=p23_14) (i:=0) (d:=(some 17)) (ty:=0) (t:=23) (e:=68) (n:=a0.length) (cp:=ca0) (sz:=6) (kk:=.i64) (x:=(.tmp 13)) (y:=(.tmp 15)) (b:=b60) (o':=p61) (j:=t45) (by kernel_rfl) (by kernel_rfl) (slv (by kernel_rfl) hA62) (by kernel_rfl) (by kernel_rfl) (by kernel_rfl) g58.1 g58.2 ?_
    refine rLa 68 (.tmp 17) (hc63.cells hS47) ?_
    refine rA 68 (.agg (enc_api_Node (⟨0,0,0,⟨0,(⟨#[]⟩ : ByteArray)⟩,0⟩ : api_Node)).toArray) (enc_api_Node (⟨0,0,0,⟨0,(⟨#[]⟩ : ByteArray)⟩,0⟩ : api_Node)) hS47 ?_
    intro b64 w65 hS66
    refine rSA 68 (.tmp 7) (.tmp 18) (enc_api_Node (gt a0 t45)) hS66 (one_api_Node _) ?_
    intro w68 hS69
    refine sR 4 (.inRegion (opsOf p23_17) [1,2]::.code p23_18::td264) ?_
    refine rL1 3 (.tmp 19) 0 (hS69.blk 0 rfl) ?_
    refine sI 1 (.inRegion (opsOf p23_17) []::.code p23_18::td264) 21 hp59 (fun hp72 => ?_) fun hp89 => ?_
    ·refine sR 5 (iR p23_19 2 4::td264) ?_
     refine rLa 66 (.tmp 23) (sub_api_Node_Ref (hS69.blk 0 rfl)) ?_
     refine r_lit (c:=p23_19) (i:=3) (d:=(some 25)) (ty:=43) (t:=43) (e:=66) (sz:=2) (n:=1) (parts:=#[(0,(.tmp 24))]) (vs:=[(0,.agg (enc_api_Ref ((gt a0 t45).Ref)).toArray)]) (z:=zeroOf Tryz.prog 66) (cs':=([(gt a0 t45).Ref] : List api_Ref).flatMap enc_api_Ref) hS69 (by kernel_rfl) (by kernel_rfl) (by kernel_rfl) (by kernel_rfl) (by kernel_rfl) (by decide) (by decide) (by kernel_rfl) rfl (Parts.cons (c:=enc_api_Ref ((gt a0 t45).Ref)) (by kernel_rfl) (len_api_Ref _) Parts.nil) rfl ?_
     intro b74 w75 hS76
     have hS77:=hS76.pick2
     obtain ⟨g78,hp79⟩:=ite_some hp72
     refine r_append (c:=p23_19) (i:=4) (d:=(some 26)) (ty:=43) (enc:=enc_api_Ref) (e:=66) (u:=66) (t:=43) (t2:=43) (sz:=2) (cp:=c43) (A:=A42) (bytes:=24) (xs:=t41) (ys:=([(gt a0 t45).Ref] : List api_Ref)) (s:=(.tmp 22)) (x:=(.tmp 25)) (xv:=.slice (some ⟨b74,0,none⟩) ([(gt a0 t45).Ref] : List api_Ref).length 1) (info:=infoOf Tryz.prog 66) (z:=zeroOf Tryz.prog 66) (ycs:=([(gt a0 t45).Ref] : List api_Ref).flatMap enc_api_Ref) hS77 (by kernel_rfl) (by kernel_rfl) (by kernel_rfl) (by kernel_rfl) (by kernel_rfl) (.inl (by kernel_rfl)) (by kernel_rfl) (by kernel_rfl) (by kernel_rfl) (by kernel_rfl) (by kernel_rfl) (by omega) len_api_Ref one_api_Ref (src_row (hS77.row 1 rfl) (by omega) len_api_Ref) rfl g78 (by omega) ?_
     intro A80 c81 w82 hS83
     refine sR 7 td261 ?_
     have hS85:=hS83.pick1
     have hS86:=hS85.drop
     have hS87:=hS86.pick1
     have hS88:=hS87.drop
     refine sR 1 td262 ?_
     exact rF _ (ih52 (t41 ++ ([(gt a0 t45).Ref] : List api_Ref)) (IntKind.i64.wrap (t45 + 1)) _ hp79 he50 _ A80 c81 _ hS88)
    refine sR 8 td261 ?_
    have hS90:=hS69.drop
    refine sR 1 td262 ?_
    exact rF _ (ih52 (id t41) (IntKind.i64.wrap (t45 + 1)) _ hp89 he50 _ A42 c43 _ hS90)
   refine sR 4 td259 ?_
   exact rF _ (J22 t41 ((Option.some.inj hp91).trans he50) _ A42 c43 _ hS47)
  have hS93:=hS5.nilrow none 66 2
  exact rF _ (L54 [] 0 _ hv14 rfl _ none 0 _ hS93)

noncomputable def cd10 (p : List Nat) : Code := sub (bodyOf Tryz.f10) p
abbrev p10_10:=cd10 [1,1,0,1,0,0,1,0,0,0]
abbrev td265:List Item:=[.code (cd10 [1,1,1])]
abbrev td266:List Item:=.inBlock 0::td265
abbrev td267:List Item:=.inLoop (cd10 [1,1,0,1,0,0])::td266
abbrev td268:List Item:=.code (cd10 [1,1,0,1,0,0])::td267
def weirlaw06_sameCond.l0 (a0 a1 : List api_Node) (t16 : Int) : Option (Sum Unit Bool) :=
  (if (decide (t16 < (a0.length : Int))) = true then (if 0 ≤ t16 ∧ t16 < (a0.length : Int) then (if 0 ≤ t16 ∧ t16 < (a1.length : Int) then (if (!(decide ((gt a0 t16) = (gt a1 t16)))) = true then some (.inr (false)) else (weirlaw06_sameCond.l0 a0 a1 (IntKind.i64.wrap (t16 + 1)))) else none) else none) else some (.inl ()))
 partial_fixpoint
def weirlaw06_sameCond.f (a0 a1 : List api_Node) : Option Bool :=
  (if ((a0.length : Int) != (a1.length : Int)) = true then some (false) else (weirlaw06_sameCond.l0 a0 a1 0 >>= (fun | .inl () => some (true) | .inr e => some e)))
theorem weirlaw06_sameCond.ok {a0 a1 : List api_Node} {Aa0 : Option Addr} {ca0 : Nat} {Aa1 : Option Addr} {ca1 : Nat} {q0 : Bool} (hp0 : weirlaw06_sameCond.f a0 a1 = some q0) (hS0 : St w0 Z (fs) w) (ha0 : SlZ (flat enc_api_Node) 6 Z Aa0 ca0 a0) (ha1 : SlZ (flat enc_api_Node) 6 Z Aa1 ca1 a1) :
    Calls Tryz.prog 10 #[.slice Aa0 a0.length ca0,.slice Aa1 a1.length ca1] w (fun e w' => e = .returned (.bool q0) ∧ St w0 Z (fs) w'):=by
  refine calls_abs ?_; intro R hR
  unfold weirlaw06_sameCond.f at hp0
  refine calls_of_runs (fn:=Tryz.f10) (c:=cd10 []) Tryz.func10 (by kernel_rfl) (al:=[.slice Aa0 a0.length ca0,.slice Aa1 a1.length ca1]) rfl (n:=24) rfl ?_
  refine sI 12 [.inRegion (opsOf (cd10 [1,0,0])) [],.code (cd10 [1,0,1]),.code (cd10 [1,1])] 10 hp0 (fun hp3 => ?_) fun hp5 => ?_
  ·refine sR 6 [.code (cd10 [1,0,1,0,1]),.code (cd10 [1,1])] ?_
   refine rR (.bool false) Tryz.func10 ?_
   cases Option.some.inj hp3
   exact hR _ _ ⟨rfl,hS0⟩
  refine sR 10 td268 ?_
  obtain ⟨v6,hv7,hp8⟩:=bind_some' hp5
  have hq11 : ∀ x,Sum.inr x = v6 → x = q0:=by intro x hx; subst hx; simpa using hp8
  have J12 : ∀ (he14 : Sum.inl () = v6) (l13 : List Value) (w9 : World) (hS10 : St w0 Z (fs) w9),Runs Tryz.prog (fx 10) td265 (fill (mk 26 []) l13) w9 R:=by
   intro he14 l13 w9 hS10
   subst he14
   try dsimp only at hp8
   refine sR 4 [.code (cd10 [1,1,1,1])] ?_
   refine rR (.bool true) Tryz.func10 ?_
   cases Option.some.inj hp8
   exact hR _ _ ⟨rfl,hS10⟩
  have L25 : ∀ (t16 : Int) (e20 : Sum Unit Bool),weirlaw06_sameCond.l0 a0 a1 t16 = some e20 → e20 = v6 → ∀ (l19 : List Value) (w17 : World) (hS18 : St w0 Z (fs) w17),Runs Tryz.prog (fx 10) td268 (fill (mk 26 [(0,.slice Aa0 a0.length ca0),(1,.slice Aa1 a1.length ca1),(5,.int .i64 t16)]) l19) w17 R:=by
   refine weirlaw06_sameCond.l0.partial_correctness a0 a1 (fun t16 e20 => e20 = v6 → ∀ (l19 : List Value) (w17 : World) (hS18 : St w0 Z (fs) w17),Runs Tryz.prog (fx 10) td268 (fill (mk 26 [(0,.slice Aa0 a0.length ca0),(1,.slice Aa1 a1.length ca1),(5,.int .i64 t16)]) l19) w17 R) ?_
   intro rec24 ih23 t16 e20 hb22 he21 l19 w17 hS18
   have hq26 : ∀ x,Sum.inr x = e20 → x = q0:=fun x hx => hq11 x (hx.trans he21)
   refine sI 7 (.inRegion (opsOf (cd10 [1,1,0,1,0,0,0,0])) []::.code (cd10 [1,1,0,1,0,0,0,1])::.code (cd10 [1,1,0,1,0,0,1])::td267) 14 hb22 (fun hp29 => ?_) fun hp51 => ?_
   ·refine sR 6 (.code p10_10::.code (cd10 [1,1,0,1,0,0,1,0,0,1])::.inBlock 1::.code (cd10 [1,1,0,1,0,0,1,1])::td267) ?_
    refine r_quiet hS18 (c:=p10_10) (id:=6) (by kernel_rfl) (by kernel_rfl) (by kernel_rfl) (is:=[0,1,2,3,4,5,6,7,8]) (by kernel_rfl) ?_
    refine qR 2 (rg 2 7) ?_
    obtain ⟨g30,hp31⟩:=ite_some hp29
    obtain ⟨b32,p33,hA34,hc35⟩:=ha0.atF g30.1 g30.2
    refine q_indexAddr (c:=p10_10) (i:=2) (d:=(some 19)) (ty:=0) (t:=23) (e:=68) (n:=a0.length) (cp:=ca0) (sz:=6) (kk:=.i64) (x:=(.tmp 17)) (y:=(.tmp 18)) (b:=b32) (o':=p33) (j:=t16) (by kernel_rfl) (by kernel_rfl) (slv (by kernel_rfl) hA34) (by kernel_rfl) (by kernel_rfl) (by kernel_rfl) g30.1 g30.2 ?_
    refine qLa 68 (.tmp 19) (fun w hC => (hc35.cells hC)) ?_
    refine qR 2 [6,7,8] ?_
    obtain ⟨g36,hp37⟩:=ite_some hp31
    obtain ⟨b38,p39,hA40,hc41⟩:=ha1.atF g36.1 g36.2
    refine q_indexAddr (c:=p10_10) (i:=6) (d:=(some 23)) (ty:=0) (t:=23) (e:=68) (n:=a1.length) (cp:=ca1) (sz:=6) (kk:=.i64) (x:=(.tmp 21)) (y:=(.tmp 22)) (b:=b38) (o':=p39) (j:=t16) (by kernel_rfl) (by kernel_rfl) (slv (by kernel_rfl) hA40) (by kernel_rfl) (by kernel_rfl) (by kernel_rfl) g36.1 g36.2 ?_
    refine qLa 68 (.tmp 23) (fun w hC => (hc41.cells hC)) ?_
    refine qV (.binOp .neq 68 (.tmp 20) (.tmp 24) 68) (.bool (!(decide ((gt a0 t16) = (gt a1 t16))))) (fun w hC o ho _ => x_neq_api_Node (by kernel_rfl) (by kernel_rfl) ho) ?_
    refine q_split (!(decide ((gt a0 t16) = (gt a1 t16)))) (fun h42 => ?_) (fun h43 => ?_)
    ·have hp44:=ite_t hp37 h42
     refine Qs.nil ?_
     intro w45 hS46
     refine sR 5 (.code (cd10 [1,1,0,1,0,0,1,0,0,1,0,1])::.inBlock 1::.code (cd10 [1,1,0,1,0,0,1,1])::td267) ?_
     refine rR (.bool false) Tryz.func10 ?_
     cases hq26 _ (Option.some.inj hp44)
     exact hR _ _ ⟨rfl,hS46⟩
    have hp48:=ite_f hp37 h43
    refine Qs.nil ?_
    intro w49 hS50
    refine sR 8 td267 ?_
    refine sR 1 td268 ?_
    exact rF _ (ih23 (IntKind.i64.wrap (t16 + 1)) _ hp48 he21 _ _ hS50)
   refine sR 3 td265 ?_
   exact rF _ (J12 ((Option.some.inj hp51).trans he21) _ _ hS18)
  exact rF _ (L25 0 _ hv7 rfl _ _ hS0)

noncomputable def cd24 (p : List Nat) : Code := sub (bodyOf Tryz.f24) p
abbrev p24_10:=cd24 [1,1,0,1,0,0,1,0,0,0]
abbrev td269:List Item:=[.code (cd24 [1,1,1])]
abbrev td270:List Item:=.inBlock 0::td269
abbrev td271:List Item:=.inLoop (cd24 [1,1,0,1,0,0])::td270
abbrev td272:List Item:=.code (cd24 [1,1,0,1,0,0])::td271
def weirlaw06_sameRefs.l0 (a0 a1 : List api_Ref) (t16 : Int) : Option (Sum Unit Bool) :=
  (if (decide (t16 < (a0.length : Int))) = true then (if 0 ≤ t16 ∧ t16 < (a0.length : Int) then (if 0 ≤ t16 ∧ t16 < (a1.length : Int) then (if (!(decide ((gt a0 t16) = (gt a1 t16)))) = true then some (.inr (false)) else (weirlaw06_sameRefs.l0 a0 a1 (IntKind.i64.wrap (t16 + 1)))) else none) else none) else some (.inl ()))
 partial_fixpoint
def weirlaw06_sameRefs.f (a0 a1 : List api_Ref) : Option Bool :=
  (if ((a0.length : Int) != (a1.length : Int)) = true then some (false) else (weirlaw06_sameRefs.l0 a0 a1 0 >>= (fun | .inl () => some (true) | .inr e => some e)))
theorem weirlaw06_sameRefs.ok {a0 a1 : List api_Ref} {Aa0 : Option Addr} {ca0 : Nat} {Aa1 : Option Addr} {ca1 : Nat} {q0 : Bool} (hp0 : weirlaw06_sameRefs.f a0 a1 = some q0) (hS0 : St w0 Z (fs) w) (ha0 : SlZ (flat enc_api_Ref) 2 Z Aa0 ca0 a0) (ha1 : SlZ (flat enc_api_Ref) 2 Z Aa1 ca1 a1) :
    Calls Tryz.prog 24 #[.slice Aa0 a0.length ca0,.slice Aa1 a1.length ca1] w (fun e w' => e = .returned (.bool q0) ∧ St w0 Z (fs) w'):=by
  refine calls_abs ?_; intro R hR
  unfold weirlaw06_sameRefs.f at hp0
  refine calls_of_runs (fn:=Tryz.f24) (c:=cd24 []) Tryz.func24 (by kernel_rfl) (al:=[.slice Aa0 a0.length ca0,.slice Aa1 a1.length ca1]) rfl (n:=24) rfl ?_
  refine sI 12 [.inRegion (opsOf (cd24 [1,0,0])) [],.code (cd24 [1,0,1]),.code (cd24 [1,1])] 10 hp0 (fun hp3 => ?_) fun hp5 => ?_
  ·refine sR 6 [.code (cd24 [1,0,1,0,1]),.code (cd24 [1,1])] ?_
   refine rR (.bool false) Tryz.func24 ?_
   cases Option.some.inj hp3
   exact hR _ _ ⟨rfl,hS0⟩
  refine sR 10 td272 ?_
  obtain ⟨v6,hv7,hp8⟩:=bind_some' hp5
  have hq11 : ∀ x,Sum.inr x = v6 → x = q0:=by intro x hx; subst hx; simpa using hp8
  have J12 : ∀ (he14 : Sum.inl () = v6) (l13 : List Value) (w9 : World) (hS10 : St w0 Z (fs) w9),Runs Tryz.prog (fx 24) td269 (fill (mk 26 []) l13) w9 R:=by
   intro he14 l13 w9 hS10
   subst he14
   try dsimp only at hp8
   refine sR 4 [.code (cd24 [1,1,1,1])] ?_
   refine rR (.bool true) Tryz.func24 ?_
   cases Option.some.inj hp8
   exact hR _ _ ⟨rfl,hS10⟩
  have L25 : ∀ (t16 : Int) (e20 : Sum Unit Bool),weirlaw06_sameRefs.l0 a0 a1 t16 = some e20 → e20 = v6 → ∀ (l19 : List Value) (w17 : World) (hS18 : St w0 Z (fs) w17),Runs Tryz.prog (fx 24) td272 (fill (mk 26 [(0,.slice Aa0 a0.length ca0),(1,.slice Aa1 a1.length ca1),(5,.int .i64 t16)]) l19) w17 R:=by
   refine weirlaw06_sameRefs.l0.partial_correctness a0 a1 (fun t16 e20 => e20 = v6 → ∀ (l19 : List Value) (w17 : World) (hS18 : St w0 Z (fs) w17),Runs Tryz.prog (fx 24) td272 (fill (mk 26 [(0,.slice Aa0 a0.length ca0),(1,.slice Aa1 a1.length ca1),(5,.int .i64 t16)]) l19) w17 R) ?_
   intro rec24 ih23 t16 e20 hb22 he21 l19 w17 hS18
   have hq26 : ∀ x,Sum.inr x = e20 → x = q0:=fun x hx => hq11 x (hx.trans he21)
   refine sI 7 (.inRegion (opsOf (cd24 [1,1,0,1,0,0,0,0])) []::.code (cd24 [1,1,0,1,0,0,0,1])::.code (cd24 [1,1,0,1,0,0,1])::td271) 14 hb22 (fun hp29 => ?_) fun hp51 => ?_
   ·refine sR 6 (.code p24_10::.code (cd24 [1,1,0,1,0,0,1,0,0,1])::.inBlock 1::.code (cd24 [1,1,0,1,0,0,1,1])::td271) ?_
    refine r_quiet hS18 (c:=p24_10) (id:=6) (by kernel_rfl) (by kernel_rfl) (by kernel_rfl) (is:=[0,1,2,3,4,5,6,7,8]) (by kernel_rfl) ?_
    refine qR 2 (rg 2 7) ?_
    obtain ⟨g30,hp31⟩:=ite_some hp29
    obtain ⟨b32,p33,hA34,hc35⟩:=ha0.atF g30.1 g30.2
    refine q_indexAddr (c:=p24_10) (i:=2) (d:=(some 19)) (ty:=0) (t:=43) (e:=66) (n:=a0.length) (cp:=ca0) (sz:=2) (kk:=.i64) (x:=(.tmp 17)) (y:=(.tmp 18)) (b:=b32) (o':=p33) (j:=t16) (by kernel_rfl) (by kernel_rfl) (slv (by kernel_rfl) hA34) (by kernel_rfl) (by kernel_rfl) (by kernel_rfl) g30.1 g30.2 ?_
    refine qLa 66 (.tmp 19) (fun w hC => (hc35.cells hC)) ?_
    refine qR 2 [6,7,8] ?_
    obtain ⟨g36,hp37⟩:=ite_some hp31
    obtain ⟨b38,p39,hA40,hc41⟩:=ha1.atF g36.1 g36.2
    refine q_indexAddr (c:=p24_10) (i:=6) (d:=(some 23)) (ty:=0) (t:=43) (e:=66) (n:=a1.length) (cp:=ca1) (sz:=2) (kk:=.i64) (x:=(.tmp 21)) (y:=(.tmp 22)) (b:=b38) (o':=p39) (j:=t16) (by kernel_rfl) (by kernel_rfl) (slv (by kernel_rfl) hA40) (by kernel_rfl) (by kernel_rfl) (by kernel_rfl) g36.1 g36.2 ?_
    refine qLa 66 (.tmp 23) (fun w hC => (hc41.cells hC)) ?_
    refine qV (.binOp .neq 66 (.tmp 20) (.tmp 24) 66) (.bool (!(decide ((gt a0 t16) = (gt a1 t16))))) (fun w hC o ho _ => x_neq_api_Ref (by kernel_rfl) (by kernel_rfl) ho) ?_
    refine q_split (!(decide ((gt a0 t16) = (gt a1 t16)))) (fun h42 => ?_) (fun h43 => ?_)
    ·have hp44:=ite_t hp37 h42
     refine Qs.nil ?_
     intro w45 hS46
     refine sR 5 (.code (cd24 [1,1,0,1,0,0,1,0,0,1,0,1])::.inBlock 1::.code (cd24 [1,1,0,1,0,0,1,1])::td271) ?_
     refine rR (.bool false) Tryz.func24 ?_
     cases hq26 _ (Option.some.inj hp44)
     exact hR _ _ ⟨rfl,hS46⟩
    have hp48:=ite_f hp37 h43
    refine Qs.nil ?_
    intro w49 hS50
    refine sR 8 td271 ?_
    refine sR 1 td272 ?_
    exact rF _ (ih23 (IntKind.i64.wrap (t16 + 1)) _ hp48 he21 _ _ hS50)
   refine sR 3 td269 ?_
   exact rF _ (J12 ((Option.some.inj hp51).trans he21) _ _ hS18)
  exact rF _ (L25 0 _ hv7 rfl _ _ hS0)

noncomputable def cd7 (p : List Nat) : Code := sub (bodyOf Tryz.f7) p
abbrev p7_10:=cd7 [1,1,1,1]
abbrev p7_23:=cd7 [1,1,1,1,1,1,1,1,1,0,0]
abbrev p7_26:=cd7 [1,1,1,1,1,1,1,1,1,0,1,0,1]
abbrev p7_27:=cd7 [1,1,1,1,1,1,1,1,1,1,0,1,0,0]
abbrev p7_33:=cd7 [1,1,1,1,1,1,1,1,1,1,0,1,0,0,1,0,0,0,0]
abbrev p7_37:=cd7 [1,1,1,1,1,1,1,1,1,1,0,1,0,0,1,0,0,1,0]
abbrev p7_38:=cd7 [1,1,1,1,1,1,1,1,1,1,0,1,0,0,1,0,0,1,1]
abbrev p7_39:=cd7 [1,1,1,1,1,1,1,1,1,1,0,1,0,0,1,0,0,1,1,0]
abbrev p7_41:=cd7 [1,1,1,1,1,1,1,1,1,1,0,1,0,0,1,0,0,1,1,1,0,1]
abbrev td273:List Item:=[.code (cd7 [1,1,1,0,1,0,1]),.code p7_10]
abbrev td274:List Item:=[.code (cd7 [1,1,1,1,1,1,1,1,1,1])]
abbrev td275:List Item:=.code (cd7 [1,1,1,1,1,1,1,1,1,0,1])::td274
abbrev td276:List Item:=.code p7_26::td274
abbrev td277:List Item:=[.code (cd7 [1,1,1,1,1,1,1,1,1,1,1])]
abbrev td278:List Item:=.inBlock 0::td277
abbrev td279:List Item:=.inLoop p7_27::td278
abbrev td280:List Item:=.code p7_27::td279
abbrev td281:List Item:=.code (cd7 [1,1,1,1,1,1,1,1,1,1,0,1,0,0,1,1])::td279
abbrev td282:List Item:=.inBlock 1::td281
abbrev td283:List Item:=.code (cd7 [1,1,1,1,1,1,1,1,1,1,0,1,0,0,1,0,0,1])::td282
abbrev td284:List Item:=.code (cd7 [1,1,1,1,1,1,1,1,1,1,0,1,0,0,1,0,0,0,1])::td283
abbrev td285:List Item:=.code (cd7 [1,1,1,1,1,1,1,1,1,1,0,1,0,0,1,0,0,1,1,1])::td282
abbrev td286:List Item:=.code p7_41::td282
def weirlaw06_CondPlain.l0 (t16 : List api_Node) (t260 : Int) : Option (Sum Unit Bool) :=
  (if (decide (t260 < (t16.length : Int))) = true then (if 0 ≤ t260 ∧ t260 < (t16.length : Int) then (if (((gt t16 t260).Op) != 3) = true then (weirlaw06_CondPlain.l0 t16 (IntKind.i64.wrap (t260 + 1))) else (if 0 ≤ t260 ∧ t260 < (t16.length : Int) then (if (decide (((gt t16 t260).A) < 0)) = true then some (.inr (false)) else (if (decide (((gt t16 t260).A) ≥ t260)) = true then some (.inr (false)) else (if 0 ≤ ((gt t16 t260).A) ∧ ((gt t16 t260).A) < (t16.length : Int) then (if (((gt t16 ((gt t16 t260).A)).Op) != 2) = true then (if 0 ≤ ((gt t16 t260).A) ∧ ((gt t16 t260).A) < (t16.length : Int) then (if (((gt t16 ((gt t16 t260).A)).Op) != 1) = true then some (.inr (false)) else (weirlaw06_CondPlain.l0 t16 (IntKind.i64.wrap (t260 + 1)))) else none) else (weirlaw06_CondPlain.l0 t16 (IntKind.i64.wrap (t260 + 1)))) else none))) else none)) else none) else some (.inl ()))
 partial_fixpoint
def weirlaw06_CondPlain.f (a0 : List api_Node) (a1 : weirlaw06_Set) : Option Bool :=
  (weirlaw06_works.f >>= (fun t5 => (if (!t5) = true then some (false) else (cond_Plain.f a0 >>= (fun (t16,t17) => (weirlaw06_num.f t17 >>= (fun t25 => (if (t25 != 0) = true then (if ((t16.length : Int) == 0) = true then some (true) else some (false)) else (cond_Holds_1.f a0 a1 >>= (fun (t44,t45) => (cond_Holds_1.f t16 a1 >>= (fun (t50,t51) => (cond_Plain.f t16 >>= (fun (t62,t63) => (cond_Refs.f a0 >>= (fun (t77,t78) => (cond_Refs.f t16 >>= (fun (t86,t87) => (weirlaw06_num.f t45 >>= (fun t102 => (if (t102 != 0) = true then some (false) else (weirlaw06_num.f t51 >>= (fun t117 => (if (t117 != 0) = true then some (false) else (weirlaw06_num.f t63 >>= (fun t132 => (if (t132 != 0) = true then some (false) else (weirlaw06_num.f t78 >>= (fun t147 => (if (t147 != 0) = true then some (false) else (weirlaw06_num.f t87 >>= (fun t162 => (if (t162 != 0) = true then some (false) else (if (!(t44 == t50)) = true then some (false) else (weirlaw06_sameCond.f t16 t62 >>= (fun t187 => (if (!t187) = true then some (false) else (weirlaw06_sameRefs.f t77 t86 >>= (fun t215 => (if (!t215) = true then some (false) else (weirlaw06_CondPlain.l0 t16 0 >>= (fun | .inl () => some (true) | .inr e => some e))))))))))))))))))))))))))))))))))))))))))
theorem weirlaw06_CondPlain.ok (a0 : List api_Node) (a1 : weirlaw06_Set) (Aa0 : Option Addr) (ca0 : Nat) (y19 : Option Addr) (y20 : Nat) (y21 : Option Addr) (y22 : Nat) (hS0 : St w0 Z (fs) w) (ha0 : SlZ (flat enc_api_Node) 6 Z Aa0 ca0 a0) (y23 : SlZ (flat enc_api_Ref) 2 Z y19 y20 a1.Refs) (y24 : SlZ (flat (encI .i64)) 1 Z y21 y22 a1.Values) (hE : Env Z) {q0 : Bool} (hp0 : weirlaw06_CondPlain.f a0 a1 = some q0) :
    Calls Tryz.prog 7 #[.slice Aa0 a0.length ca0,.agg #[.slice y19 a1.Refs.length y20,.slice y21 a1.Values.length y22,.int .i64 a1.Rest]] w (fun e w' => e = .returned (.bool q0) ∧ St w0 Z (fs) w'):=by
  refine calls_abs ?_; intro R hR
  unfold weirlaw06_CondPlain.f at hp0
  refine calls_of_runs (fn:=Tryz.f7) (c:=cd7 []) Tryz.func7 (by kernel_rfl) (al:=[.slice Aa0 a0.length ca0,.agg #[.slice y19 a1.Refs.length y20,.slice y21 a1.Values.length y22,.int .i64 a1.Rest]]) rfl (n:=139) rfl ?_
  refine sR 2 [.inRegion (opsOf (cd7 [0])) [0,1],.code (cd7 [1])] ?_
  refine r_box (c:=(cd7 [0])) (i:=0) (d:=(some 3)) (ty:=0) (x:=(.tmp 1)) (v:=.agg #[.slice y19 a1.Refs.length y20,.slice y21 a1.Values.length y22,.int .i64 a1.Rest]) (t:=46) (cs:=[.slice y19 a1.Refs.length y20,.slice y21 a1.Values.length y22,.int .i64 a1.Rest]) hS0 (by kernel_rfl) (by kernel_rfl) (by kernel_rfl) (by kernel_rfl) ?_
  intro b1 w2 hS3
  refine sR 5 [.inRegion (opsOf (cd7 [1,0,0])) [0,1],.code (cd7 [1,0,1]),.code (cd7 [1,1])] ?_
  obtain ⟨t5,hr6,hp7⟩:=bind_some' hp0
  refine rC (weirlaw06_works.ok hr6 hS3 hE) ?_
  rintro _ w8 ⟨rfl,hS9⟩
  refine ⟨_,rfl,?_⟩
  refine sI 1 [.inRegion (opsOf (cd7 [1,0,0])) [],.code (cd7 [1,0,1]),.code (cd7 [1,1])] 20 hp7 (fun hp12 => ?_) fun hp15 => ?_
  ·refine sR 6 [.code (cd7 [1,0,1,0,1]),.code (cd7 [1,1])] ?_
   have hS13:=hS9.drop
   refine rR (.bool false) Tryz.func7 ?_
   cases Option.some.inj hp12
   exact hR _ _ ⟨rfl,hS13⟩
  refine sR 6 [iR (cd7 [1,1,0]) 1 6,.code (cd7 [1,1,1])] ?_
  obtain ⟨⟨t16,t17⟩,hr20,hp21⟩:=bind_some' hp15
  try dsimp only at hp21
  refine rC (cond_Plain.ok hr20 hS9 ha0) ?_
  rintro _ w23 ⟨Q18,Q19,rfl,hS24⟩
  refine ⟨_,rfl,?_⟩
  refine sR 10 [.inRegion (opsOf (cd7 [1,1,1,0,0])) [1,2],.code (cd7 [1,1,1,0,1]),.code p7_10] ?_
  obtain ⟨t25,hr26,hp27⟩:=bind_some' hp21
  refine rC (weirlaw06_num.ok hr26 hS24) ?_
  rintro _ w28 ⟨rfl,hS29⟩
  refine ⟨_,rfl,?_⟩
  refine sI 1 [.inRegion (opsOf (cd7 [1,1,1,0,0])) [],.code (cd7 [1,1,1,0,1]),.code p7_10] 28 hp27 (fun hp32 => ?_) fun hp43 => ?_
  ·refine sI 7 (.inRegion (opsOf (cd7 [1,1,1,0,1,0,0])) [3]::td273) 31 hp32 (fun hp35 => ?_) fun hp39 => ?_
   ·refine sR 2 td273 ?_
    have hS36:=hS29.drop
    have hS37:=hS36.drop
    refine rR (.bool true) Tryz.func7 ?_
    cases Option.some.inj hp35
    exact hR _ _ ⟨rfl,hS37⟩
   refine sR 2 td273 ?_
   have hS40:=hS29.drop
   have hS41:=hS40.drop
   refine rR (.bool false) Tryz.func7 ?_
   cases Option.some.inj hp39
   exact hR _ _ ⟨rfl,hS41⟩
  refine sR 6 [iR (cd7 [1,1,1,1,0]) 1 8,.code (cd7 [1,1,1,1,1])] ?_
  refine rLa 46 (.tmp 3) (hS29.blk 1 rfl) ?_
  refine sR 1 [iR (cd7 [1,1,1,1,0]) 3 6,.code (cd7 [1,1,1,1,1])] ?_
  obtain ⟨⟨t44,t45⟩,hr46,hp47⟩:=bind_some' hp43
  try dsimp only at hp47
  refine rC (cond_Holds_1.ok hr46 hS29 ha0 y23 y24) ?_
  rintro _ w48 ⟨rfl,hS49⟩
  refine ⟨_,rfl,?_⟩
  refine sR 9 [iR (cd7 [1,1,1,1,1,0]) 1 8,.code (cd7 [1,1,1,1,1,1])] ?_
  refine rLa 46 (.tmp 3) (hS49.blk 1 rfl) ?_
  refine sR 1 [iR (cd7 [1,1,1,1,1,0]) 3 6,.code (cd7 [1,1,1,1,1,1])] ?_
  obtain ⟨⟨t50,t51⟩,hr52,hp53⟩:=bind_some' hp47
  try dsimp only at hp53
  obtain ⟨Z54,hz55,hS56,hs57,hb58⟩:=hS49.lendrow len_api_Node (by omega)
  refine rC (cond_Holds_1.ok hr52 hS56 hs57 (y23.up hz55) (y24.up hz55)) ?_
  rintro _ w59 ⟨rfl,hS60⟩
  refine ⟨_,rfl,?_⟩
  have hS61:=hb58 _ _ hS60
  refine sR 9 [iR (cd7 [1,1,1,1,1,1,0]) 1 6,.code (cd7 [1,1,1,1,1,1,1])] ?_
  obtain ⟨⟨t62,t63⟩,hr66,hp67⟩:=bind_some' hp53
  try dsimp only at hp67
  obtain ⟨Z69,hz70,hS71,hs72,hb73⟩:=hS61.lendrow len_api_Node (by omega)
  refine rC (cond_Plain.ok hr66 hS71 hs72) ?_
  rintro _ w74 ⟨Q64,Q65,rfl,hS75⟩
  refine ⟨_,rfl,?_⟩
  have hS76:=hb73 _ _ hS75
  refine sR 9 [iR (cd7 [1,1,1,1,1,1,1,0]) 1 6,.code (cd7 [1,1,1,1,1,1,1,1])] ?_
  obtain ⟨⟨t77,t78⟩,hr81,hp82⟩:=bind_some' hp67
  try dsimp only at hp82
  refine rC (cond_Refs.ok hr81 hS76 ha0) ?_
  rintro _ w84 ⟨Q79,Q80,rfl,hS85⟩
  refine ⟨_,rfl,?_⟩
  refine sR 9 [iR (cd7 [1,1,1,1,1,1,1,1,0]) 1 6,.code (cd7 [1,1,1,1,1,1,1,1,1])] ?_
  obtain ⟨⟨t86,t87⟩,hr90,hp91⟩:=bind_some' hp82
  try dsimp only at hp91
  have hS93:=hS85.pick1
  obtain ⟨Z94,hz95,hS96,hs97,hb98⟩:=hS93.lendrow len_api_Node (by omega)
  refine rC (cond_Refs.ok hr90 hS96 hs97) ?_
  rintro _ w99 ⟨Q88,Q89,rfl,hS100⟩
  refine ⟨_,rfl,?_⟩
  have hS101:=hb98 _ _ hS100
  refine sR 10 (iR p7_23 1 39::td275) ?_
  obtain ⟨t102,hr103,hp104⟩:=bind_some' hp91
  refine rC (weirlaw06_num.ok hr103 hS101) ?_
  rintro _ w105 ⟨rfl,hS106⟩
  refine ⟨_,rfl,?_⟩
  refine sI 1 (iR p7_23 3 37::td275) 63 hp104 (fun hp109 => ?_) fun hp116 => ?_
  ·refine sR 43 td276 ?_
   refine r_isret (c:=p7_26) (by kernel_rfl) ?_
   have hS110:=hS106.drop
   have hS111:=hS110.drop
   have hS112:=hS111.drop
   have hS113:=hS112.drop
   have hS114:=hS113.drop
   refine rR (.bool false) Tryz.func7 ?_
   cases Option.some.inj hp109
   exact hR _ _ ⟨rfl,hS114⟩
  refine sR 2 (iR p7_23 5 35::td275) ?_
  obtain ⟨t117,hr118,hp119⟩:=bind_some' hp116
  refine rC (weirlaw06_num.ok hr118 hS106) ?_
  rintro _ w120 ⟨rfl,hS121⟩
  refine ⟨_,rfl,?_⟩
  refine sI 1 (iR p7_23 7 33::td275) 67 hp119 (fun hp124 => ?_) fun hp131 => ?_
  ·refine sR 39 td276 ?_
   refine r_isret (c:=p7_26) (by kernel_rfl) ?_
   have hS125:=hS121.drop
   have hS126:=hS125.drop
   have hS127:=hS126.drop
   have hS128:=hS127.drop
   have hS129:=hS128.drop
   refine rR (.bool false) Tryz.func7 ?_
   cases Option.some.inj hp124
   exact hR _ _ ⟨rfl,hS129⟩
  refine sR 3 (iR p7_23 10 30::td275) ?_
  obtain ⟨t132,hr133,hp134⟩:=bind_some' hp131
  refine rC (weirlaw06_num.ok hr133 hS121) ?_
  rintro _ w135 ⟨rfl,hS136⟩
  refine ⟨_,rfl,?_⟩
  refine sI 1 (iR p7_23 12 28::td275) 72 hp134 (fun hp139 => ?_) fun hp146 => ?_
  ·refine sR 34 td276 ?_
   refine r_isret (c:=p7_26) (by kernel_rfl) ?_
   have hS140:=hS136.drop
   have hS141:=hS140.drop
   have hS142:=hS141.drop
   have hS143:=hS142.drop
   have hS144:=hS143.drop
   refine rR (.bool false) Tryz.func7 ?_
   cases Option.some.inj hp139
   exact hR _ _ ⟨rfl,hS144⟩
  refine sR 3 (iR p7_23 15 25::td275) ?_
  obtain ⟨t147,hr148,hp149⟩:=bind_some' hp146
  refine rC (weirlaw06_num.ok hr148 hS136) ?_
  rintro _ w150 ⟨rfl,hS151⟩
  refine ⟨_,rfl,?_⟩
  refine sI 1 (iR p7_23 17 23::td275) 77 hp149 (fun hp154 => ?_) fun hp161 => ?_
  ·refine sR 29 td276 ?_
   refine r_isret (c:=p7_26) (by kernel_rfl) ?_
   have hS155:=hS151.drop
   have hS156:=hS155.drop
   have hS157:=hS156.drop
   have hS158:=hS157.drop
   have hS159:=hS158.drop
   refine rR (.bool false) Tryz.func7 ?_
   cases Option.some.inj hp154
   exact hR _ _ ⟨rfl,hS159⟩
  refine sR 3 (iR p7_23 20 20::td275) ?_
  obtain ⟨t162,hr163,hp164⟩:=bind_some' hp161
  refine rC (weirlaw06_num.ok hr163 hS151) ?_
  rintro _ w165 ⟨rfl,hS166⟩
  refine ⟨_,rfl,?_⟩
  refine sI 1 (iR p7_23 22 18::td275) 82 hp164 (fun hp169 => ?_) fun hp176 => ?_
  ·refine sR 24 td276 ?_
   refine r_isret (c:=p7_26) (by kernel_rfl) ?_
   have hS170:=hS166.drop
   have hS171:=hS170.drop
   have hS172:=hS171.drop
   have hS173:=hS172.drop
   have hS174:=hS173.drop
   refine rR (.bool false) Tryz.func7 ?_
   cases Option.some.inj hp169
   exact hR _ _ ⟨rfl,hS174⟩
  refine sI 5 (iR p7_23 27 13::td275) 87 hp176 (fun hp179 => ?_) fun hp186 => ?_
  ·refine sR 19 td276 ?_
   refine r_isret (c:=p7_26) (by kernel_rfl) ?_
   have hS180:=hS166.drop
   have hS181:=hS180.drop
   have hS182:=hS181.drop
   have hS183:=hS182.drop
   have hS184:=hS183.drop
   refine rR (.bool false) Tryz.func7 ?_
   cases Option.some.inj hp179
   exact hR _ _ ⟨rfl,hS184⟩
  refine sR 4 (iR p7_23 31 9::td275) ?_
  obtain ⟨t187,hr188,hp189⟩:=bind_some' hp186
  obtain ⟨Z190,hz191,hS192,hs193,hb194⟩:=hS166.lendrow len_api_Node (by omega)
  have hS195:=hS192.pick2
  obtain ⟨Z196,hz197,hS198,hs199,hb200⟩:=hS195.lendrow len_api_Node (by omega)
  refine rC (weirlaw06_sameCond.ok hr188 hS198 (hs193.up hz197) hs199) ?_
  rintro _ w201 ⟨rfl,hS202⟩
  refine ⟨_,rfl,?_⟩
  have hS203:=hb200 _ _ hS202
  have hS204:=hb194 _ _ hS203
  refine sI 1 (iR p7_23 33 7::td275) 93 hp189 (fun hp207 => ?_) fun hp214 => ?_
  ·refine sR 13 td276 ?_
   refine r_isret (c:=p7_26) (by kernel_rfl) ?_
   have hS208:=hS204.drop
   have hS209:=hS208.drop
   have hS210:=hS209.drop
   have hS211:=hS210.drop
   have hS212:=hS211.drop
   refine rR (.bool false) Tryz.func7 ?_
   cases Option.some.inj hp207
   exact hR _ _ ⟨rfl,hS212⟩
  refine sR 4 (.inRegion (opsOf p7_23) [37,38,39]::td275) ?_
  obtain ⟨t215,hr216,hp217⟩:=bind_some' hp214
  have hS218:=hS204.pick3
  obtain ⟨Z219,hz220,hS221,hs222,hb223⟩:=hS218.lendrow len_api_Ref (by omega)
  have hS224:=hS221.pick2
  obtain ⟨Z225,hz226,hS227,hs228,hb229⟩:=hS224.lendrow len_api_Ref (by omega)
  refine rC (weirlaw06_sameRefs.ok hr216 hS227 (hs222.up hz226) hs228) ?_
  rintro _ w230 ⟨rfl,hS231⟩
  refine ⟨_,rfl,?_⟩
  have hS232:=hb229 _ _ hS231
  have hS233:=hb223 _ _ hS232
  refine sI 1 (.inRegion (opsOf p7_23) [39]::td275) 99 hp217 (fun hp236 => ?_) fun hp243 => ?_
  ·refine sR 7 td276 ?_
   refine r_isret (c:=p7_26) (by kernel_rfl) ?_
   have hS237:=hS233.drop
   have hS238:=hS237.drop
   have hS239:=hS238.drop
   have hS240:=hS239.drop
   have hS241:=hS240.drop
   refine rR (.bool false) Tryz.func7 ?_
   cases Option.some.inj hp236
   exact hR _ _ ⟨rfl,hS241⟩
  refine sR 11 td280 ?_
  have hS244:=hS233.drop
  have hS245:=hS244.drop
  have hS246:=hS245.pick1
  have hS247:=hS246.drop
  have hS248:=hS247.pick1
  have hS249:=hS248.drop
  obtain ⟨v250,hv251,hp252⟩:=bind_some' hp243
  have hq255 : ∀ x,Sum.inr x = v250 → x = q0:=by intro x hx; subst hx; simpa using hp252
  have J256 : ∀ (he258 : Sum.inl () = v250) (l257 : List Value) (w253 : World) (hS254 : St w0 Z (fs) w253),Runs Tryz.prog (fx 7) td277 (fill (mk 141 []) l257) w253 R:=by
   intro he258 l257 w253 hS254
   subst he258
   try dsimp only at hp252
   refine sR 4 [.code (cd7 [1,1,1,1,1,1,1,1,1,1,1,1])] ?_
   refine rR (.bool true) Tryz.func7 ?_
   cases Option.some.inj hp252
   exact hR _ _ ⟨rfl,hS254⟩
  have L269 : ∀ (t260 : Int) (e264 : Sum Unit Bool),weirlaw06_CondPlain.l0 t16 t260 = some e264 → e264 = v250 → ∀ (l263 : List Value) (w261 : World) (hS262 : St w0 Z (xrow Q18 Q19 68 6 (t16.flatMap enc_api_Node)::fs) w261),Runs Tryz.prog (fx 7) td280 (fill (mk 141 [(5,.slice Q18 t16.length Q19),(17,.int .i64 t260)]) l263) w261 R:=by
   refine weirlaw06_CondPlain.l0.partial_correctness t16 (fun t260 e264 => e264 = v250 → ∀ (l263 : List Value) (w261 : World) (hS262 : St w0 Z (xrow Q18 Q19 68 6 (t16.flatMap enc_api_Node)::fs) w261),Runs Tryz.prog (fx 7) td280 (fill (mk 141 [(5,.slice Q18 t16.length Q19),(17,.int .i64 t260)]) l263) w261 R) ?_
   intro rec268 ih267 t260 e264 hb266 he265 l263 w261 hS262
   have hq270 : ∀ x,Sum.inr x = e264 → x = q0:=fun x hx => hq255 x (hx.trans he265)
   refine sI 7 (.inRegion (opsOf (cd7 [1,1,1,1,1,1,1,1,1,1,0,1,0,0,0,0])) []::.code (cd7 [1,1,1,1,1,1,1,1,1,1,0,1,0,0,0,1])::.code (cd7 [1,1,1,1,1,1,1,1,1,1,0,1,0,0,1])::td279) 104 hb266 (fun hp273 => ?_) fun hp324 => ?_
   ·refine sR 10 (iR p7_33 2 4::td284) ?_
    obtain ⟨g274,hp275⟩:=ite_some hp273
    obtain ⟨b276,p277,hA278,-⟩:=(hS262.row 0 rfl).at_ len_api_Node (by omega) g274.1 g274.2
    refine r_indexAddr (c:=p7_33) (i:=2) (d:=(some 109)) (ty:=0) (t:=23) (e:=68) (n:=t16.length) (cp:=Q19) (sz:=6) (kk:=.i64) (x:=(.tmp 107)) (y:=(.tmp 108)) (b:=b276) (o':=p277) (j:=t260) (by kernel_rfl) (by kernel_rfl) (slv (by kernel_rfl) hA278) (by kernel_rfl) (by kernel_rfl) (by kernel_rfl) g274.1 g274.2 ?_
    refine sR 1 (.inRegion (opsOf p7_33) [4,5]::td284) ?_
    refine rL1 3 (.tmp 110) 0 ((hS262.row 0 rfl).at2 hA278 len_api_Node (by omega) g274.1 g274.2) ?_
    refine sI 1 (.inRegion (opsOf p7_33) []::td284) 112 hp275 (fun hp282 => ?_) fun hp283 => ?_
    ·refine sR 8 td279 ?_
     refine sR 1 td280 ?_
     exact rF _ (ih267 (IntKind.i64.wrap (t260 + 1)) _ hp282 he265 _ _ hS262)
    refine sR 7 (iR p7_37 2 4::.code p7_38::td282) ?_
    obtain ⟨g284,hp285⟩:=ite_some hp283
    obtain ⟨b286,p287,hA288,-⟩:=(hS262.row 0 rfl).at_ len_api_Node (by omega) g284.1 g284.2
    refine r_indexAddr (c:=p7_37) (i:=2) (d:=(some 115)) (ty:=0) (t:=23) (e:=68) (n:=t16.length) (cp:=Q19) (sz:=6) (kk:=.i64) (x:=(.tmp 113)) (y:=(.tmp 114)) (b:=b286) (o':=p287) (j:=t260) (by kernel_rfl) (by kernel_rfl) (slv (by kernel_rfl) hA288) (by kernel_rfl) (by kernel_rfl) (by kernel_rfl) g284.1 g284.2 ?_
    refine sR 1 (.inRegion (opsOf p7_37) [4,5]::.code p7_38::td282) ?_
    refine rL1 3 (.tmp 116) 1 ((hS262.row 0 rfl).at2 hA288 len_api_Node (by omega) g284.1 g284.2) ?_
    refine sI 6 (iR p7_39 2 21::td285) 119 hp285 (fun hp292 => ?_) fun hp295 => ?_
    ·refine sR 27 td286 ?_
     refine r_isret (c:=p7_41) (by kernel_rfl) ?_
     have hS293:=hS262.drop
     refine rR (.bool false) Tryz.func7 ?_
     cases hq270 _ (Option.some.inj hp292)
     exact hR _ _ ⟨rfl,hS293⟩
    refine sI 4 (iR p7_39 6 17::td285) 123 hp295 (fun hp298 => ?_) fun hp301 => ?_
    ·refine sR 23 td286 ?_
     refine r_isret (c:=p7_41) (by kernel_rfl) ?_
     have hS299:=hS262.drop
     refine rR (.bool false) Tryz.func7 ?_
     cases hq270 _ (Option.some.inj hp298)
     exact hR _ _ ⟨rfl,hS299⟩
    refine sR 4 (iR p7_39 10 13::td285) ?_
    obtain ⟨g302,hp303⟩:=ite_some hp301
    obtain ⟨b304,p305,hA306,-⟩:=(hS262.row 0 rfl).at_ len_api_Node (by omega) g302.1 g302.2
    refine r_indexAddr (c:=p7_39) (i:=10) (d:=(some 128)) (ty:=0) (t:=23) (e:=68) (n:=t16.length) (cp:=Q19) (sz:=6) (kk:=.i64) (x:=(.tmp 126)) (y:=(.tmp 127)) (b:=b304) (o':=p305) (j:=(gt t16 t260).A) (by kernel_rfl) (by kernel_rfl) (slv (by kernel_rfl) hA306) (by kernel_rfl) (by kernel_rfl) (by kernel_rfl) g302.1 g302.2 ?_
    refine sR 1 (iR p7_39 12 11::td285) ?_
    refine rL1 3 (.tmp 129) 0 ((hS262.row 0 rfl).at2 hA306 len_api_Node (by omega) g302.1 g302.2) ?_
    refine sI 1 (iR p7_39 14 9::td285) 131 hp303 (fun hp310 => ?_) fun hp323 => ?_
    ·refine sR 3 (iR p7_39 17 6::td285) ?_
     obtain ⟨g311,hp312⟩:=ite_some hp310
     obtain ⟨b313,p314,hA315,-⟩:=(hS262.row 0 rfl).at_ len_api_Node (by omega) g311.1 g311.2
     refine r_indexAddr (c:=p7_39) (i:=17) (d:=(some 135)) (ty:=0) (t:=23) (e:=68) (n:=t16.length) (cp:=Q19) (sz:=6) (kk:=.i64) (x:=(.tmp 133)) (y:=(.tmp 134)) (b:=b313) (o':=p314) (j:=(gt t16 t260).A) (by kernel_rfl) (by kernel_rfl) (slv (by kernel_rfl) hA315) (by kernel_rfl) (by kernel_rfl) (by kernel_rfl) g311.1 g311.2 ?_
     refine sR 1 (iR p7_39 19 4::td285) ?_
     refine rL1 3 (.tmp 136) 0 ((hS262.row 0 rfl).at2 hA315 len_api_Node (by omega) g311.1 g311.2) ?_
     refine sI 1 (.inRegion (opsOf p7_39) [21,22]::td285) 138 hp312 (fun hp319 => ?_) fun hp322 => ?_
     ·refine sR 8 td286 ?_
      refine r_isret (c:=p7_41) (by kernel_rfl) ?_
      have hS320:=hS262.drop
      refine rR (.bool false) Tryz.func7 ?_
      cases hq270 _ (Option.some.inj hp319)
      exact hR _ _ ⟨rfl,hS320⟩
     refine sR 11 td279 ?_
     refine sR 1 td280 ?_
     exact rF _ (ih267 (IntKind.i64.wrap (t260 + 1)) _ hp322 he265 _ _ hS262)
    refine sR 18 td279 ?_
    refine sR 1 td280 ?_
    exact rF _ (ih267 (IntKind.i64.wrap (t260 + 1)) _ hp323 he265 _ _ hS262)
   refine sR 3 td277 ?_
   have hS325:=hS262.drop
   exact rF _ (J256 ((Option.some.inj hp324).trans he265) _ _ hS325)
  exact rF _ (L269 0 _ hv251 rfl _ _ hS249)

end
end Go.Proofs.YtboejepakdnbgaaGreatDoor.K
